/- Parts of the proof: XD, XE, XF, XG, RW, XH, XI, VN, XJ, XK, XL. -/
import Derived.Test.YtkajlfaeecaegaaZAE
import Derived.Test.YtkajlfaeecaegaaZAC
import Derived.Test.YtkajlfaeecaegaaZAB
section
/- Packets: bytes, walked. -/
open Go Go.Vm Go.Proofs Sp
namespace Sp
/-- Bytes, and one of them. -/
def bys (l : List Int) : List Value := l.map (Value.int .u8 ·)
def ubs (l : List Value) : List Int := l.map fun v => match v with | .int _ a => a | _ => 0
def zB (l : List Int) (i : Nat) : Value := .int .u8 (l.getD i 0)
def bz (x : Nat) : Nat := if fEq x 0 = true then 0 else x
end Sp
namespace Qq
noncomputable section
def g48 : Value → Option Value
  | .float .f32 b => some (.int .u32 b)
  | _ => none
def g63 : Value → Option Value
  | .int .u32 n => some (.float .f32 n.toNat)
  | _ => none
theorem g48_ok : ∀ v v', g48 v = some v' → atom v' = true ∧ pureRun Try.prog (callFunc 48 #[v]) = some (.value v') := by
  intro v v' h
  unfold g48 at h
  split at h
  · cases h; exact ⟨rfl, by kernel_rfl⟩
  · cases h
theorem g63_ok : ∀ v v', g63 v = some v' → atom v' = true ∧ pureRun Try.prog (callFunc 63 #[v]) = some (.value v') := by
  intro v v' h
  unfold g63 at h
  split at h
  · cases h; exact ⟨rfl, by kernel_rfl⟩
  · cases h
noncomputable def au2 (o : Oper) : Option (Hint Try.prog) := match auX (hEx Try.prog 48 g48 g48_ok) (hEx Try.prog 63 g63 g63_ok) 48 63 o with
  | some h => some h
  | none => auF [] o
noncomputable def hX0 : Hs Try.prog where
  au := au2
noncomputable def tP : List (Nat × Orc) := (47, orcSm1) :: s2
noncomputable def cP : CallF := ctx Try.prog tP
theorem cP_ok : CallOK Try.prog cP := ctx_ok hm (all_cons okSm1 s2_all)
theorem twl_t (a : Int) (b : Int) (n : Int) (K : Value → Heap → Prop) :
    (fnP Try.prog c0 hX0 (20 : FuncId) [Value.slice (some { block := (0 : Nat), off := (0 : Nat) }) (2 : Nat) (2 : Nat), Value.int IntKind.i64 n] [some (AObj.row [Value.int IntKind.u8 a, Value.int IntKind.u8 b] (1 : Nat) false true true)] K) =
    (Is ((0 : Int) ≤ (8 : Int)) ∧ K (Value.slice (some { block := (1 : Nat), off := (0 : Nat) }) (4 : Nat) (0 : Nat)) (some (AObj.row [Value.int IntKind.u8 a, Value.int IntKind.u8 b] (1 : Nat) false true true) :: some (AObj.row [Value.int IntKind.u8 a, Value.int IntKind.u8 b, Value.int IntKind.u8 (IntKind.wrap IntKind.u8 (shr IntKind.i64 n (8 : Int))), Value.int IntKind.u8 (IntKind.wrap IntKind.u8 n)] (1 : Nat) true true (List.all [Value.int IntKind.u8 a, Value.int IntKind.u8 b, Value.int IntKind.u8 (IntKind.wrap IntKind.u8 (shr IntKind.i64 n (8 : Int))), Value.int IntKind.u8 (IntKind.wrap IntKind.u8 n)] atom)) :: noH)) := by kernel_rfl
theorem bits_t (x : Nat) (K : Value → Heap → Prop) :
    (fnP Try.prog c0 hX0 (22 : FuncId) [Value.float FloatKind.f32 x] [] K) =
    (Is True ∧ br (Sp.fEq x (0 : Nat)) (K (Value.int IntKind.i64 (0 : Int)) noH) (Is True ∧ K (Value.int IntKind.i64 (IntKind.wrap IntKind.i64 (↑x : Int))) noH)) := by kernel_rfl
noncomputable def rwB (c : List Value) : Option AObj := some (.row c 1 true true true)
noncomputable def lpCk (cs : List Value) (o c n es : Nat) (m w : Bool) : Lp where
  σ := Nat
  E s := slots 20 [(3, .int .i64 (ckS (((ubs cs).drop o).take s) 1)), (6, .slice (some ⟨0, o, none⟩) n c), (7, .int .i64 (Int.ofNat n)), (8, .int .i64 (Int.ofNat s))]
  Hp _ := [some (.row cs es m w true)]
  I s := s ≤ n
  m s := n - s
noncomputable def hsCk (cs : List Value) (o c n es : Nat) (m w : Bool) : Hs Try.prog where
  op y := if y = 400 then some (hIa Try.prog) else if y = 401 then some (hLd Try.prog (zB (ubs cs))) else none
  lp _ := some (lpCk cs o c n es m w)
  cl _ := keep 20 [3, 6, 7, 8]
  au := au2
theorem ck_t (cs : List Value) (o : Nat) (c : Nat) (n : Nat) (es : Nat) (m : Bool) (w : Bool) (K : Value → Heap → Prop) :
    (fnP Try.prog c0 (hsCk cs o c n es m w) (49 : FuncId) [Value.slice (some { block := (0 : Nat), off := o }) n c] [some (AObj.row cs es m w true)] K) =
    ((∃ (s : Nat), Is (s ≤ n) ∧ [poi, poi, poi, Value.int IntKind.i64 (1 : Int), poi, poi, Value.slice (some { block := (0 : Nat), off := o }) n c, Value.int IntKind.i64 (↑n : Int), Value.int IntKind.i64 (0 : Int), poi, poi, poi, poi, poi, poi, poi, poi, poi, poi, poi] = [poi, poi, poi, Value.int IntKind.i64 (ckS (List.take s (List.drop o (ubs cs))) (1 : Int)), poi, poi, Value.slice (some { block := (0 : Nat), off := o }) n c, Value.int IntKind.i64 (↑n : Int), Value.int IntKind.i64 (↑s : Int), poi, poi, poi, poi, poi, poi, poi, poi, poi, poi, poi] ∧ some (AObj.row cs es m w true) :: noH = some (AObj.row cs es m w true) :: noH) ∧ ∀ (s : Nat), Is (s ≤ n) → br (decide ((↑s : Int) < (↑n : Int))) (Is ((0 : Int) ≤ (↑s : Int) ∧ (↑s : Int) < (↑n : Int)) ∧ Is (cs[o + Int.toNat (↑s : Int) * (1 : Nat)]? = some (Value.int IntKind.u8 (List.getD (ubs cs) (o + Int.toNat (↑s : Int) * (1 : Nat)) (0 : Int)))) ∧ Is ((16777213 : Int) ≠ (0 : Int)) ∧ ∃ (s' : Nat), Is (s' ≤ n) ∧ Is (n - s' < n - s) ∧ [poi, poi, poi, Value.int IntKind.i64 (Int.tmod (IntKind.wrap IntKind.i64 (IntKind.wrap IntKind.i64 ((271 : Int) * ckS (List.take s (List.drop o (ubs cs))) (1 : Int)) + IntKind.wrap IntKind.i64 (List.getD (ubs cs) (o + Int.toNat (↑s : Int) * (1 : Nat)) (0 : Int)))) (16777213 : Int)), poi, poi, Value.slice (some { block := (0 : Nat), off := o }) n c, Value.int IntKind.i64 (↑n : Int), Value.int IntKind.i64 (IntKind.wrap IntKind.i64 ((↑s : Int) + (1 : Int))), poi, poi, poi, poi, poi, poi, poi, poi, poi, poi, poi] = [poi, poi, poi, Value.int IntKind.i64 (ckS (List.take s' (List.drop o (ubs cs))) (1 : Int)), poi, poi, Value.slice (some { block := (0 : Nat), off := o }) n c, Value.int IntKind.i64 (↑n : Int), Value.int IntKind.i64 (↑s' : Int), poi, poi, poi, poi, poi, poi, poi, poi, poi, poi, poi] ∧ some (AObj.row cs es m w true) :: noH = some (AObj.row cs es m w true) :: noH) (K (Value.int IntKind.i64 (ckS (List.take s (List.drop o (ubs cs))) (1 : Int))) (some (AObj.row cs es m w true) :: noH))) := by kernel_rfl
noncomputable def lpNu (cs : List Value) (o c n es : Nat) (m w : Bool) : Lp where
  σ := Nat
  E s := slots 19 [(3, .int .i64 (num (((ubs cs).drop o).take s))), (6, .slice (some ⟨0, o, none⟩) n c), (7, .int .i64 (Int.ofNat n)), (8, .int .i64 (Int.ofNat s))]
  Hp _ := [some (.row cs es m w true)]
  I s := s ≤ n
  m s := n - s
noncomputable def hsNu (cs : List Value) (o c n es : Nat) (m w : Bool) : Hs Try.prog where
  op y := if y = 400 then some (hIa Try.prog) else if y = 401 then some (hLd Try.prog (zB (ubs cs))) else none
  lp _ := some (lpNu cs o c n es m w)
  cl _ := keep 19 [3, 6, 7, 8]
  au := au2
theorem nu_t (cs : List Value) (o : Nat) (c : Nat) (n : Nat) (es : Nat) (m : Bool) (w : Bool) (K : Value → Heap → Prop) :
    (fnP Try.prog c0 (hsNu cs o c n es m w) (62 : FuncId) [Value.slice (some { block := (0 : Nat), off := o }) n c] [some (AObj.row cs es m w true)] K) =
    ((∃ (s : Nat), Is (s ≤ n) ∧ [poi, poi, poi, Value.int IntKind.i64 (0 : Int), poi, poi, Value.slice (some { block := (0 : Nat), off := o }) n c, Value.int IntKind.i64 (↑n : Int), Value.int IntKind.i64 (0 : Int), poi, poi, poi, poi, poi, poi, poi, poi, poi, poi] = [poi, poi, poi, Value.int IntKind.i64 (num (List.take s (List.drop o (ubs cs)))), poi, poi, Value.slice (some { block := (0 : Nat), off := o }) n c, Value.int IntKind.i64 (↑n : Int), Value.int IntKind.i64 (↑s : Int), poi, poi, poi, poi, poi, poi, poi, poi, poi, poi] ∧ some (AObj.row cs es m w true) :: noH = some (AObj.row cs es m w true) :: noH) ∧ ∀ (s : Nat), Is (s ≤ n) → br (decide ((↑s : Int) < (↑n : Int))) (Is ((0 : Int) ≤ (↑s : Int) ∧ (↑s : Int) < (↑n : Int)) ∧ Is (cs[o + Int.toNat (↑s : Int) * (1 : Nat)]? = some (Value.int IntKind.u8 (List.getD (ubs cs) (o + Int.toNat (↑s : Int) * (1 : Nat)) (0 : Int)))) ∧ ∃ (s' : Nat), Is (s' ≤ n) ∧ Is (n - s' < n - s) ∧ [poi, poi, poi, Value.int IntKind.i64 (IntKind.wrap IntKind.i64 (IntKind.wrap IntKind.i64 ((256 : Int) * num (List.take s (List.drop o (ubs cs)))) + IntKind.wrap IntKind.i64 (List.getD (ubs cs) (o + Int.toNat (↑s : Int) * (1 : Nat)) (0 : Int)))), poi, poi, Value.slice (some { block := (0 : Nat), off := o }) n c, Value.int IntKind.i64 (↑n : Int), Value.int IntKind.i64 (IntKind.wrap IntKind.i64 ((↑s : Int) + (1 : Int))), poi, poi, poi, poi, poi, poi, poi, poi, poi, poi] = [poi, poi, poi, Value.int IntKind.i64 (num (List.take s' (List.drop o (ubs cs)))), poi, poi, Value.slice (some { block := (0 : Nat), off := o }) n c, Value.int IntKind.i64 (↑n : Int), Value.int IntKind.i64 (↑s' : Int), poi, poi, poi, poi, poi, poi, poi, poi, poi, poi] ∧ some (AObj.row cs es m w true) :: noH = some (AObj.row cs es m w true) :: noH) (K (Value.int IntKind.i64 (num (List.take s (List.drop o (ubs cs))))) (some (AObj.row cs es m w true) :: noH))) := by kernel_rfl
noncomputable def hTw : Hs Try.prog where
  op y := if y = 107 then some (hAp Try.prog) else none
  au := au2
theorem two_t (cs : List Value) (k : Nat) (n : Int) (K : Value → Heap → Prop) :
    (fnP Try.prog c0 hTw (20 : FuncId) [Value.slice (some { block := (0 : Nat), off := (0 : Nat) }) k (0 : Nat), Value.int IntKind.i64 n] [rwB cs] K) =
    (Is ((0 : Int) ≤ (8 : Int)) ∧ Is (List.length cs = k * (1 : Nat) ∧ (k + (2 : Nat)) * (1 : Nat) ≤ (140737488355328 : Nat) ∧ k + (2 : Nat) ≤ (9223372036854775807 : Nat)) ∧ K (Value.slice (some { block := (1 : Nat), off := (0 : Nat) }) (k + (2 : Nat)) (0 : Nat)) (none :: some (AObj.row (cs ++ [Value.int IntKind.u8 (IntKind.wrap IntKind.u8 (shr IntKind.i64 n (8 : Int))), Value.int IntKind.u8 (IntKind.wrap IntKind.u8 n)]) (1 : Nat) true true (List.all [Value.int IntKind.u8 (IntKind.wrap IntKind.u8 (shr IntKind.i64 n (8 : Int))), Value.int IntKind.u8 (IntKind.wrap IntKind.u8 n)] atom)) :: noH)) := by kernel_rfl
theorem twn_t (n : Int) (K : Value → Heap → Prop) :
    (fnP Try.prog c0 hX0 (20 : FuncId) [Value.slice none (0 : Nat) (0 : Nat), Value.int IntKind.i64 n] [] K) =
    (Is ((0 : Int) ≤ (8 : Int)) ∧ K (Value.slice (some { block := (0 : Nat), off := (0 : Nat) }) (2 : Nat) (0 : Nat)) (some (AObj.row [Value.int IntKind.u8 (IntKind.wrap IntKind.u8 (shr IntKind.i64 n (8 : Int))), Value.int IntKind.u8 (IntKind.wrap IntKind.u8 n)] (1 : Nat) true true (List.all [Value.int IntKind.u8 (IntKind.wrap IntKind.u8 (shr IntKind.i64 n (8 : Int))), Value.int IntKind.u8 (IntKind.wrap IntKind.u8 n)] atom)) :: noH)) := by kernel_rfl
theorem wrap8 (x : Int) : IntKind.wrap .u8 x = x % 256 := rfl
theorem shr8 (n : Int) : shr .i64 n 8 = n / 256 := by
  show Int.fdiv n 256 = n / 256
  rw [Int.fdiv_eq_ediv_of_nonneg _ (by decide)]
theorem shr16 (n : Int) : shr .i64 n 16 = n / 65536 := by
  show Int.fdiv n 65536 = n / 65536
  rw [Int.fdiv_eq_ediv_of_nonneg _ (by decide)]
theorem bys_app (a b : List Int) : bys (a ++ b) = bys a ++ bys b := List.map_append ..
theorem bys_len (a : List Int) : (bys a).length = a.length := List.length_map ..
theorem ubs_bys (l : List Int) : ubs (bys l) = l := by
  rw [ubs, bys, List.map_map]
  exact (List.map_congr_left fun _ _ => rfl).trans (List.map_id l)
noncomputable def orcTw : OrcV
  | [.slice (some ⟨0, 0, none⟩) k 0, .int .i64 n], [some (.row cs 1 true true true)] => some (.slice (some ⟨1, 0, none⟩) (k + 2) 0, [none, some (.row (cs ++ bys (two n)) 1 true true true)], cs.length = k ∧ k ≤ 100000)
  | [.slice none 0 0, .int .i64 n], [] => some (.slice (some ⟨0, 0, none⟩) 2 0, [some (.row (bys (two n)) 1 true true true)], True)
  | [.slice (some ⟨0, 0, none⟩) 2 2, .int .i64 n], [some (.row [.int .u8 a, .int .u8 b] 1 false true true)] => some (.slice (some ⟨1, 0, none⟩) 4 0, [some (.row [.int .u8 a, .int .u8 b] 1 false true true), some (.row (bys ([a, b] ++ two n)) 1 true true true)], True)
  | _, _ => none
theorem okTw : OkV Try.prog 20 orcTw := by
  intro args H ret H' vc h hv
  unfold orcTw at h
  split at h
  · cases h
    obtain ⟨h1, h2⟩ := hv
    refine fnP_res hm c0_ok (hs := hTw) ?_
    show fnP Try.prog c0 hTw 20 _ [rwB _] _
    rw [two_t]
    refine ⟨⟨by decide⟩, ⟨by omega, by omega, by omega⟩, rfl, ?_⟩
    rw [wrap8, wrap8, shr8]; rfl
  · cases h
    refine fnP_res hm c0_ok (hs := hX0) ?_
    show fnP Try.prog c0 hX0 20 _ _ _
    rw [twn_t]
    refine ⟨⟨by decide⟩, rfl, ?_⟩
    rw [wrap8, wrap8, shr8]; rfl
  · cases h
    refine fnP_res hm c0_ok (hs := hX0) ?_
    show fnP Try.prog c0 hX0 20 _ _ _
    rw [twl_t]
    refine ⟨⟨by decide⟩, rfl, ?_⟩
    rw [wrap8, wrap8, shr8]; rfl
  · cases h
noncomputable def hFo : Hs Try.prog where
  op y := if [103, 105].contains y then some (hCa Try.prog 20 orcTw okTw) else none
  au := au2
theorem four_t (cs : List Value) (k : Nat) (n : Int) (K : Value → Heap → Prop) :
    (fnP Try.prog c0 hFo (21 : FuncId) [Value.slice (some { block := (0 : Nat), off := (0 : Nat) }) k (0 : Nat), Value.int IntKind.i64 n] [rwB cs] K) =
    (Is ((0 : Int) ≤ (16 : Int)) ∧ Is (List.length cs = k ∧ k ≤ (100000 : Nat)) ∧ Is (List.length (cs ++ [Value.int IntKind.u8 (shr IntKind.i64 n (16 : Int) / (256 : Int) % (256 : Int)), Value.int IntKind.u8 (shr IntKind.i64 n (16 : Int) % (256 : Int))]) = k + (2 : Nat) ∧ k + (2 : Nat) ≤ (100000 : Nat)) ∧ K (Value.slice (some { block := (1 : Nat), off := (0 : Nat) }) (k + (2 : Nat) + (2 : Nat)) (0 : Nat)) (none :: some (AObj.row (cs ++ [Value.int IntKind.u8 (shr IntKind.i64 n (16 : Int) / (256 : Int) % (256 : Int)), Value.int IntKind.u8 (shr IntKind.i64 n (16 : Int) % (256 : Int))] ++ [Value.int IntKind.u8 (n / (256 : Int) % (256 : Int)), Value.int IntKind.u8 (n % (256 : Int))]) (1 : Nat) true true true) :: noH)) := by kernel_rfl
theorem fon_t (n : Int) (K : Value → Heap → Prop) :
    (fnP Try.prog c0 hFo (21 : FuncId) [Value.slice none (0 : Nat) (0 : Nat), Value.int IntKind.i64 n] [] K) =
    (Is ((0 : Int) ≤ (16 : Int)) ∧ Is True ∧ Is ((2 : Nat) = (2 : Nat) ∧ (2 : Nat) ≤ (100000 : Nat)) ∧ K (Value.slice (some { block := (0 : Nat), off := (0 : Nat) }) (4 : Nat) (0 : Nat)) (some (AObj.row [Value.int IntKind.u8 (shr IntKind.i64 n (16 : Int) / (256 : Int) % (256 : Int)), Value.int IntKind.u8 (shr IntKind.i64 n (16 : Int) % (256 : Int)), Value.int IntKind.u8 (n / (256 : Int) % (256 : Int)), Value.int IntKind.u8 (n % (256 : Int))] (1 : Nat) true true true) :: noH)) := by kernel_rfl
theorem four_s (n : Int) : [n / 65536 / 256 % 256, n / 65536 % 256, n / 256 % 256, n % 256] = four n := by
  rw [four]
  congr 1
  omega
noncomputable def orcFo : OrcV
  | [.slice (some ⟨0, 0, none⟩) k 0, .int .i64 n], [some (.row cs 1 true true true)] => some (.slice (some ⟨1, 0, none⟩) (k + 4) 0, [none, some (.row (cs ++ bys (four n)) 1 true true true)], cs.length = k ∧ k ≤ 10000)
  | [.slice none 0 0, .int .i64 n], [] => some (.slice (some ⟨0, 0, none⟩) 4 0, [some (.row (bys (four n)) 1 true true true)], True)
  | _, _ => none
theorem okFo : OkV Try.prog 21 orcFo := by
  intro args H ret H' vc h hv
  unfold orcFo at h
  split at h
  · cases h
    obtain ⟨h1, h2⟩ := hv
    refine fnP_res hm c0_ok (hs := hFo) ?_
    show fnP Try.prog c0 hFo 21 _ [rwB _] _
    rw [four_t]
    refine ⟨⟨by decide⟩, ⟨by omega, by omega⟩, ⟨by rw [List.length_append]; simp only [List.length_cons, List.length_nil]; omega, by omega⟩, rfl, ?_⟩
    rw [shr16, List.append_assoc, ← four_s]; rfl
  · cases h
    refine fnP_res hm c0_ok (hs := hFo) ?_
    show fnP Try.prog c0 hFo 21 _ _ _
    rw [fon_t]
    refine ⟨⟨by decide⟩, ⟨trivial⟩, ⟨rfl, by decide⟩, rfl, ?_⟩
    rw [shr16, ← four_s]; rfl
  · cases h
noncomputable def orcBi : OrcV
  | [.float .f32 x], [] => some (.int .i64 (bz x : Nat), [], x < 4294967296)
  | _, _ => none
theorem okBi : OkV Try.prog 22 orcBi := by
  intro args H ret H' vc h hv
  unfold orcBi at h
  split at h
  · cases h
    refine fnP_res hm c0_ok (hs := hX0) ?_
    show fnP Try.prog c0 hX0 22 _ _ _
    rw [bits_t]
    refine ⟨⟨trivial⟩, br_of (fun h => ?_) (fun h => ?_)⟩
    · rw [bz, if_pos h]; exact ⟨rfl, rfl⟩
    · rw [bz, h, if_neg (by decide), wrap_eq (by omega) (by omega)]; exact ⟨⟨trivial⟩, rfl, rfl⟩
  · cases h
/-- Bytes that cells are, at least n of them from o on. -/
def isBy (cs : List Value) (o n : Nat) : Prop := cs = bys (ubs cs) ∧ (∀ b ∈ ubs cs, 0 ≤ b ∧ b < 256) ∧ o + n ≤ cs.length ∧ n ≤ 1000
theorem isBy_at {cs : List Value} {o n s : Nat} (h : isBy cs o n) (hs : s < n) : cs[o + s]? = some (.int .u8 ((ubs cs).getD (o + s) 0)) ∧ (0 ≤ (ubs cs).getD (o + s) 0 ∧ (ubs cs).getD (o + s) 0 < 256) ∧ ((ubs cs).drop o).take (s + 1) = ((ubs cs).drop o).take s ++ [(ubs cs).getD (o + s) 0] := by
  obtain ⟨h1, h2, h3, h4⟩ := h
  have hl : (ubs cs).length = cs.length := List.length_map ..
  have hlt : o + s < (ubs cs).length := by omega
  have e : (ubs cs).getD (o + s) 0 = (ubs cs)[o + s] := by rw [List.getD_eq_getElem?_getD, List.getElem?_eq_getElem hlt]; rfl
  refine ⟨?_, ?_, ?_⟩
  · rw [h1, ubs_bys, bys, List.getElem?_map, e, List.getElem?_eq_getElem hlt]; rfl
  · rw [e]; exact h2 _ (List.getElem_mem _)
  · rw [e, List.take_add_one, List.getElem?_drop, List.getElem?_eq_getElem hlt]; rfl
noncomputable def orcCk : OrcV
  | [.slice (some ⟨0, o, none⟩) n _], [some (.row cs es m w true)] => some (.int .i64 (ckS (((ubs cs).drop o).take n) 1), [some (.row cs es m w true)], isBy cs o n)
  | _, _ => none
theorem okCk : OkV Try.prog 49 orcCk := by
  intro args H ret H' vc h hv
  unfold orcCk at h
  split at h
  · rename_i o n c cs es m w
    cases h
    refine fnP_res hm c0_ok (hs := hsCk cs o c n es m w) ?_
    show fnP Try.prog c0 (hsCk cs o c n es m w) 49 _ _ _
    rw [ck_t]
    have hn : n ≤ 1000 := hv.2.2.2
    refine ⟨⟨(0 : Nat), ⟨Nat.zero_le _⟩, by first | trivial | rfl, by first | trivial | rfl⟩, fun s hs => br_of (fun hc => ?_) (fun hc => ?_)⟩
    · have hc := lt_of_dec hc
      simp only [Nat.mul_one, Int.toNat_natCast]
      obtain ⟨q1, q2, q3⟩ := isBy_at hv hc
      have q4 := ckS_lt (((ubs cs).drop o).take s) 1 (fun b hb => (hv.2.1 b (List.mem_of_mem_drop (List.mem_of_mem_take hb))).1) (by decide) (by decide)
      refine ⟨⟨by omega, by omega⟩, ⟨q1⟩, ⟨by decide⟩, s + 1, ⟨hc⟩, ⟨by omega⟩, ?_, by first | trivial | rfl⟩
      rw [up1 hc (by omega), q3, wrap_eq (x := (ubs cs).getD (o + s) 0) (by omega) (by omega), wrap_eq (x := 271 * _) (by omega) (by omega), wrap_eq (by omega) (by omega)]
      have : ckS (((ubs cs).drop o).take s ++ [(ubs cs).getD (o + s) 0]) 1 = Int.tmod (271 * ckS (((ubs cs).drop o).take s) 1 + (ubs cs).getD (o + s) 0) 16777213 := by
        rw [ckS, List.foldl_append]; rfl
      rw [this]; try rfl
    · have hc := ge_of_dec hc
      have : n = s := by have := hs.out; omega
      subst this
      exact ⟨rfl, rfl⟩
  · cases h
theorem num_lt : ∀ (l : List Int), (∀ b ∈ l, 0 ≤ b ∧ b < 256) → l.length ≤ 4 → 0 ≤ num l ∧ num l < 4294967296
  | [], _, _ => by decide
  | [a], h, _ => by have := h a (by simp); simp only [num, List.foldl_cons, List.foldl_nil]; omega
  | [a, b], h, _ => by have := h a (by simp); have := h b (by simp); simp only [num, List.foldl_cons, List.foldl_nil]; omega
  | [a, b, c], h, _ => by have := h a (by simp); have := h b (by simp); have := h c (by simp); simp only [num, List.foldl_cons, List.foldl_nil]; omega
  | [a, b, c, d], h, _ => by have := h a (by simp); have := h b (by simp); have := h c (by simp); have := h d (by simp); simp only [num, List.foldl_cons, List.foldl_nil]; omega
  | _ :: _ :: _ :: _ :: _ :: _, _, h => by simp at h
noncomputable def orcNu : OrcV
  | [.slice (some ⟨0, o, none⟩) n _], [some (.row cs es m w true)] => some (.int .i64 (num (((ubs cs).drop o).take n)), [some (.row cs es m w true)], isBy cs o n ∧ n ≤ 4)
  | _, _ => none
theorem okNu : OkV Try.prog 62 orcNu := by
  intro args H ret H' vc h hv
  unfold orcNu at h
  split at h
  · rename_i o n c cs es m w
    cases h
    obtain ⟨hv, hn⟩ := hv
    refine fnP_res hm c0_ok (hs := hsNu cs o c n es m w) ?_
    show fnP Try.prog c0 (hsNu cs o c n es m w) 62 _ _ _
    rw [nu_t]
    refine ⟨⟨(0 : Nat), ⟨Nat.zero_le _⟩, by first | trivial | rfl, by first | trivial | rfl⟩, fun s hs => br_of (fun hc => ?_) (fun hc => ?_)⟩
    · have hc := lt_of_dec hc
      simp only [Nat.mul_one, Int.toNat_natCast]
      obtain ⟨q1, q2, q3⟩ := isBy_at hv hc
      have q4 := num_lt (((ubs cs).drop o).take s) (fun b hb => hv.2.1 b (List.mem_of_mem_drop (List.mem_of_mem_take hb))) (by rw [List.length_take]; omega)
      refine ⟨⟨by omega, by omega⟩, ⟨q1⟩, s + 1, ⟨hc⟩, ⟨by omega⟩, ?_, by first | trivial | rfl⟩
      rw [up1 hc (by omega), q3, wrap_eq (x := (ubs cs).getD (o + s) 0) (by omega) (by omega), wrap_eq (x := 256 * _) (by omega) (by omega), wrap_eq (by omega) (by omega)]
      have : num (((ubs cs).drop o).take s ++ [(ubs cs).getD (o + s) 0]) = 256 * num (((ubs cs).drop o).take s) + (ubs cs).getD (o + s) 0 := by
        rw [num, List.foldl_append]; rfl
      rw [this]; try rfl
    · have hc := ge_of_dec hc
      have : n = s := by have := hs.out; omega
      subst this
      exact ⟨rfl, rfl⟩
  · cases h
noncomputable def hSu : Hs Try.prog where
  op y := if y = 101 then some (hCa Try.prog 49 orcCk okCk) else if y = 202 then some (hCa Try.prog 21 orcFo okFo) else none
  au := au2
theorem sum_t (cs : List Value) (k : Nat) (K : Value → Heap → Prop) :
    (fnP Try.prog c0 hSu (23 : FuncId) [Value.slice (some { block := (0 : Nat), off := (0 : Nat) }) k (0 : Nat)] [rwB cs] K) =
    (Is (isBy cs (0 : Nat) k) ∧ Is (List.length cs = k ∧ k ≤ (10000 : Nat)) ∧ K (Value.slice (some { block := (1 : Nat), off := (0 : Nat) }) (k + (4 : Nat)) (0 : Nat)) (none :: some (AObj.row (cs ++ [Value.int IntKind.u8 (ckS (List.take k (List.drop (0 : Nat) (ubs cs))) (1 : Int) / (16777216 : Int) % (256 : Int)), Value.int IntKind.u8 (ckS (List.take k (List.drop (0 : Nat) (ubs cs))) (1 : Int) / (65536 : Int) % (256 : Int)), Value.int IntKind.u8 (ckS (List.take k (List.drop (0 : Nat) (ubs cs))) (1 : Int) / (256 : Int) % (256 : Int)), Value.int IntKind.u8 (ckS (List.take k (List.drop (0 : Nat) (ubs cs))) (1 : Int) % (256 : Int))]) (1 : Nat) true true true) :: noH)) := by kernel_rfl
noncomputable def orcSu2 : OrcV
  | [.slice (some ⟨0, 0, none⟩) k 0], [some (.row cs 1 true true true)] => some (.slice (some ⟨1, 0, none⟩) (k + 4) 0, [none, some (.row (cs ++ bys (four (ckS (((ubs cs).drop 0).take k) 1))) 1 true true true)], isBy cs 0 k ∧ cs.length = k)
  | _, _ => none
noncomputable def hX1 : Hs Try.prog where
  au := au2
theorem m3_t (x : Nat) (y : Nat) (z : Nat) (s : Int) (c : Int) (K : Value → Heap → Prop) :
    (fnP Try.prog cP hX1 (46 : FuncId) [Value.slice (some { block := (0 : Nat), off := (2 : Nat) }) (3 : Nat) (3 : Nat), Value.func (Fn.func (47 : FuncId)) #[] #[]] [some (AObj.row [Value.int IntKind.i64 s, Value.int IntKind.i64 c, Value.float FloatKind.f32 x, Value.float FloatKind.f32 y, Value.float FloatKind.f32 z] (0 : Nat) false true true)] K) =
    (K (Value.slice (some { block := (1 : Nat), off := (0 : Nat) }) (3 : Nat) (0 : Nat)) (some (AObj.row [Value.int IntKind.i64 s, Value.int IntKind.i64 c, Value.float FloatKind.f32 x, Value.float FloatKind.f32 y, Value.float FloatKind.f32 z] (0 : Nat) false true true) :: some (AObj.row [Value.int IntKind.i64 (sE x), Value.int IntKind.i64 (sE y), Value.int IntKind.i64 (sE z)] (1 : Nat) true true (List.all [Value.int IntKind.i64 (sE x)] atom && List.all [Value.int IntKind.i64 (sE y)] atom && List.all [Value.int IntKind.i64 (sE z)] atom)) :: noH)) := by kernel_rfl
noncomputable def orcM3 : OrcV
  | [.slice (some ⟨0, 2, none⟩) 3 3, .func (.func 47) ⟨[]⟩ ⟨[]⟩], [some (.row [.int .i64 s, .int .i64 c, .float .f32 x, .float .f32 y, .float .f32 z] 0 false true true)] =>
    some (.slice (some ⟨1, 0, none⟩) 3 0, [some (.row [.int .i64 s, .int .i64 c, .float .f32 x, .float .f32 y, .float .f32 z] 0 false true true), some (.row [.int .i64 (sE x), .int .i64 (sE y), .int .i64 (sE z)] 1 true true true)], True)
  | _, _ => none
theorem okM3 : OkV Try.prog 46 orcM3 := by
  intro args H ret H' vc h hv
  unfold orcM3 at h
  split at h
  · cases h
    refine fnP_res hm cP_ok (hs := hX1) ?_
    show fnP Try.prog cP hX1 46 _ _ _
    rw [m3_t]
    exact ⟨rfl, rfl⟩
  · cases h
noncomputable def hPk : Hs Try.prog where
  op y := if y = 108 then some (hCa Try.prog 46 orcM3 okM3) else none
  au := au2
theorem pk_t (s : Int) (c : Int) (x : Nat) (y : Nat) (z : Nat) (K : Value → Heap → Prop) :
    (fnP Try.prog cP hPk (19 : FuncId) [Value.agg #[Value.int IntKind.i64 s, Value.int IntKind.i64 c, Value.float FloatKind.f32 x, Value.float FloatKind.f32 y, Value.float FloatKind.f32 z]] [] K) =
    (Is True ∧ K (Value.int IntKind.i64 (fi [wi s (0 : Int) (255 : Int), wi c (0 : Int) (65535 : Int), fi [sE x, sE y, sE z]])) noH) := by kernel_rfl
theorem okSu2 : OkV Try.prog 23 orcSu2 := by
  intro args H ret H' vc h hv
  unfold orcSu2 at h
  split at h
  · cases h
    obtain ⟨h1, h2⟩ := hv
    refine fnP_res hm c0_ok (hs := hSu) ?_
    show fnP Try.prog c0 hSu 23 _ [rwB _] _
    rw [sum_t]
    exact ⟨⟨h1⟩, ⟨h2, by have := h1.2.2.2; omega⟩, rfl, rfl⟩
  · cases h
noncomputable def _root_.Sp.pkI (s c : Int) (x y z : Nat) : Int := fi [wi s 0 255, wi c 0 65535, fi [sE x, sE y, sE z]]
noncomputable def pkE (p : Pk) : Int := pkI p.s p.c p.x p.y p.z
noncomputable def pkA (p : Pk) : List Value := [.int .i64 p.s, .int .i64 p.c, .float .f32 p.x, .float .f32 p.y, .float .f32 p.z]
noncomputable def orcPk : OrcV
  | [.agg ⟨[.int .i64 s, .int .i64 c, .float .f32 x, .float .f32 y, .float .f32 z]⟩], [] => some (.int .i64 (pkI s c x y z), [], True)
  | _, _ => none
theorem okPk : OkV Try.prog 19 orcPk := by
  intro args H ret H' vc h hv
  unfold orcPk at h
  split at h
  · cases h
    refine fnP_res hm cP_ok (hs := hPk) ?_
    show fnP Try.prog cP hPk 19 _ _ _
    rw [pk_t]
    exact ⟨⟨trivial⟩, rfl, rfl⟩
  · cases h
noncomputable def hEn : Hs Try.prog where
  op y := if y = 101 then some (hCa Try.prog 19 orcPk okPk) else if y = 406 then some (hCa Try.prog 20 orcTw okTw) else if y = 802 then some (hCa Try.prog 22 orcBi okBi) else if y = 803 then some (hCa Try.prog 21 orcFo okFo) else if y = 1001 then some (hCa Try.prog 23 orcSu2 okSu2) else none
  au := au2
theorem en_t (s : Int) (c : Int) (x : Nat) (y : Nat) (z : Nat) (K : Value → Heap → Prop) :
    (fnP Try.prog cP hEn (5 : FuncId) [Value.agg #[Value.int IntKind.i64 s, Value.int IntKind.i64 c, Value.float FloatKind.f32 x, Value.float FloatKind.f32 y, Value.float FloatKind.f32 z]] [] K) =
    (Is True ∧ br (pkI s c x y z != (0 : Int)) (K (Value.tuple #[Value.agg #[Value.int IntKind.u8 (0 : Int), Value.int IntKind.u8 (0 : Int), Value.int IntKind.u8 (0 : Int), Value.int IntKind.u8 (0 : Int), Value.int IntKind.u8 (0 : Int), Value.int IntKind.u8 (0 : Int), Value.int IntKind.u8 (0 : Int), Value.int IntKind.u8 (0 : Int), Value.int IntKind.u8 (0 : Int), Value.int IntKind.u8 (0 : Int), Value.int IntKind.u8 (0 : Int), Value.int IntKind.u8 (0 : Int), Value.int IntKind.u8 (0 : Int), Value.int IntKind.u8 (0 : Int), Value.int IntKind.u8 (0 : Int), Value.int IntKind.u8 (0 : Int), Value.int IntKind.u8 (0 : Int), Value.int IntKind.u8 (0 : Int), Value.int IntKind.u8 (0 : Int), Value.int IntKind.u8 (0 : Int)], Value.int IntKind.i64 (pkI s c x y z)]) noH) (Is True ∧ Is (x < (4294967296 : Nat)) ∧ Is ((4 : Nat) = (4 : Nat) ∧ (4 : Nat) ≤ (10000 : Nat)) ∧ Is (y < (4294967296 : Nat)) ∧ Is ((8 : Nat) = (8 : Nat) ∧ (8 : Nat) ≤ (10000 : Nat)) ∧ Is (z < (4294967296 : Nat)) ∧ Is ((12 : Nat) = (12 : Nat) ∧ (12 : Nat) ≤ (10000 : Nat)) ∧ Is (isBy [Value.int IntKind.u8 (90 : Int), Value.int IntKind.u8 (IntKind.wrap IntKind.u8 s), Value.int IntKind.u8 (c / (256 : Int) % (256 : Int)), Value.int IntKind.u8 (c % (256 : Int)), Value.int IntKind.u8 ((↑(bz x) : Int) / (16777216 : Int) % (256 : Int)), Value.int IntKind.u8 ((↑(bz x) : Int) / (65536 : Int) % (256 : Int)), Value.int IntKind.u8 ((↑(bz x) : Int) / (256 : Int) % (256 : Int)), Value.int IntKind.u8 ((↑(bz x) : Int) % (256 : Int)), Value.int IntKind.u8 ((↑(bz y) : Int) / (16777216 : Int) % (256 : Int)), Value.int IntKind.u8 ((↑(bz y) : Int) / (65536 : Int) % (256 : Int)), Value.int IntKind.u8 ((↑(bz y) : Int) / (256 : Int) % (256 : Int)), Value.int IntKind.u8 ((↑(bz y) : Int) % (256 : Int)), Value.int IntKind.u8 ((↑(bz z) : Int) / (16777216 : Int) % (256 : Int)), Value.int IntKind.u8 ((↑(bz z) : Int) / (65536 : Int) % (256 : Int)), Value.int IntKind.u8 ((↑(bz z) : Int) / (256 : Int) % (256 : Int)), Value.int IntKind.u8 ((↑(bz z) : Int) % (256 : Int))] (0 : Nat) (16 : Nat) ∧ (16 : Nat) = (16 : Nat)) ∧ Is ((0 : Nat) < (20 : Nat) ∧ (20 : Nat) ≤ (20 : Nat)) ∧ K (Value.tuple #[Value.agg #[Value.int IntKind.u8 (90 : Int), Value.int IntKind.u8 (IntKind.wrap IntKind.u8 s), Value.int IntKind.u8 (c / (256 : Int) % (256 : Int)), Value.int IntKind.u8 (c % (256 : Int)), Value.int IntKind.u8 ((↑(bz x) : Int) / (16777216 : Int) % (256 : Int)), Value.int IntKind.u8 ((↑(bz x) : Int) / (65536 : Int) % (256 : Int)), Value.int IntKind.u8 ((↑(bz x) : Int) / (256 : Int) % (256 : Int)), Value.int IntKind.u8 ((↑(bz x) : Int) % (256 : Int)), Value.int IntKind.u8 ((↑(bz y) : Int) / (16777216 : Int) % (256 : Int)), Value.int IntKind.u8 ((↑(bz y) : Int) / (65536 : Int) % (256 : Int)), Value.int IntKind.u8 ((↑(bz y) : Int) / (256 : Int) % (256 : Int)), Value.int IntKind.u8 ((↑(bz y) : Int) % (256 : Int)), Value.int IntKind.u8 ((↑(bz z) : Int) / (16777216 : Int) % (256 : Int)), Value.int IntKind.u8 ((↑(bz z) : Int) / (65536 : Int) % (256 : Int)), Value.int IntKind.u8 ((↑(bz z) : Int) / (256 : Int) % (256 : Int)), Value.int IntKind.u8 ((↑(bz z) : Int) % (256 : Int)), Value.int IntKind.u8 (ckS [(90 : Int), IntKind.wrap IntKind.u8 s, c / (256 : Int) % (256 : Int), c % (256 : Int), (↑(bz x) : Int) / (16777216 : Int) % (256 : Int), (↑(bz x) : Int) / (65536 : Int) % (256 : Int), (↑(bz x) : Int) / (256 : Int) % (256 : Int), (↑(bz x) : Int) % (256 : Int), (↑(bz y) : Int) / (16777216 : Int) % (256 : Int), (↑(bz y) : Int) / (65536 : Int) % (256 : Int), (↑(bz y) : Int) / (256 : Int) % (256 : Int), (↑(bz y) : Int) % (256 : Int), (↑(bz z) : Int) / (16777216 : Int) % (256 : Int), (↑(bz z) : Int) / (65536 : Int) % (256 : Int), (↑(bz z) : Int) / (256 : Int) % (256 : Int), (↑(bz z) : Int) % (256 : Int)] (1 : Int) / (16777216 : Int) % (256 : Int)), Value.int IntKind.u8 (ckS [(90 : Int), IntKind.wrap IntKind.u8 s, c / (256 : Int) % (256 : Int), c % (256 : Int), (↑(bz x) : Int) / (16777216 : Int) % (256 : Int), (↑(bz x) : Int) / (65536 : Int) % (256 : Int), (↑(bz x) : Int) / (256 : Int) % (256 : Int), (↑(bz x) : Int) % (256 : Int), (↑(bz y) : Int) / (16777216 : Int) % (256 : Int), (↑(bz y) : Int) / (65536 : Int) % (256 : Int), (↑(bz y) : Int) / (256 : Int) % (256 : Int), (↑(bz y) : Int) % (256 : Int), (↑(bz z) : Int) / (16777216 : Int) % (256 : Int), (↑(bz z) : Int) / (65536 : Int) % (256 : Int), (↑(bz z) : Int) / (256 : Int) % (256 : Int), (↑(bz z) : Int) % (256 : Int)] (1 : Int) / (65536 : Int) % (256 : Int)), Value.int IntKind.u8 (ckS [(90 : Int), IntKind.wrap IntKind.u8 s, c / (256 : Int) % (256 : Int), c % (256 : Int), (↑(bz x) : Int) / (16777216 : Int) % (256 : Int), (↑(bz x) : Int) / (65536 : Int) % (256 : Int), (↑(bz x) : Int) / (256 : Int) % (256 : Int), (↑(bz x) : Int) % (256 : Int), (↑(bz y) : Int) / (16777216 : Int) % (256 : Int), (↑(bz y) : Int) / (65536 : Int) % (256 : Int), (↑(bz y) : Int) / (256 : Int) % (256 : Int), (↑(bz y) : Int) % (256 : Int), (↑(bz z) : Int) / (16777216 : Int) % (256 : Int), (↑(bz z) : Int) / (65536 : Int) % (256 : Int), (↑(bz z) : Int) / (256 : Int) % (256 : Int), (↑(bz z) : Int) % (256 : Int)] (1 : Int) / (256 : Int) % (256 : Int)), Value.int IntKind.u8 (ckS [(90 : Int), IntKind.wrap IntKind.u8 s, c / (256 : Int) % (256 : Int), c % (256 : Int), (↑(bz x) : Int) / (16777216 : Int) % (256 : Int), (↑(bz x) : Int) / (65536 : Int) % (256 : Int), (↑(bz x) : Int) / (256 : Int) % (256 : Int), (↑(bz x) : Int) % (256 : Int), (↑(bz y) : Int) / (16777216 : Int) % (256 : Int), (↑(bz y) : Int) / (65536 : Int) % (256 : Int), (↑(bz y) : Int) / (256 : Int) % (256 : Int), (↑(bz y) : Int) % (256 : Int), (↑(bz z) : Int) / (16777216 : Int) % (256 : Int), (↑(bz z) : Int) / (65536 : Int) % (256 : Int), (↑(bz z) : Int) / (256 : Int) % (256 : Int), (↑(bz z) : Int) % (256 : Int)] (1 : Int) % (256 : Int))], Value.int IntKind.i64 (0 : Int)]) noH)) := by kernel_rfl
noncomputable def hDe : Hs Try.prog where
  op y := if y = 0 then some (hSeal (hOp Try.prog)) else if y = 108 then some (hCa Try.prog 49 orcCk okCk) else if y = 109 then some (hCa Try.prog 21 orcFo okFo) else if [404, 907].contains y then some (hCa Try.prog 62 orcNu okNu) else if y = 1302 then some (hCa Try.prog 46 orcM3 okM3) else none
  au := au2
theorem de_t (b0 : Int) (b1 : Int) (b2 : Int) (b3 : Int) (b4 : Int) (b5 : Int) (b6 : Int) (b7 : Int) (b8 : Int) (b9 : Int) (c0 : Int) (c1 : Int) (c2 : Int) (c3 : Int) (c4 : Int) (c5 : Int) (c6 : Int) (c7 : Int) (c8 : Int) (c9 : Int) (K : Value → Heap → Prop) :
    (fnP Try.prog cP hDe (51 : FuncId) [Value.agg (List.toArray (bys [b0, b1, b2, b3, b4, b5, b6, b7, b8, b9, c0, c1, c2, c3, c4, c5, c6, c7, c8, c9]))] [] K) =
    (Is True ∧ Is ((0 : Nat) < (4 : Nat) ∧ (4 : Nat) ≤ (4 : Nat)) ∧ Is (isBy [Value.int IntKind.u8 b0, Value.int IntKind.u8 b1, Value.int IntKind.u8 b2, Value.int IntKind.u8 b3, Value.int IntKind.u8 b4, Value.int IntKind.u8 b5, Value.int IntKind.u8 b6, Value.int IntKind.u8 b7, Value.int IntKind.u8 b8, Value.int IntKind.u8 b9, Value.int IntKind.u8 c0, Value.int IntKind.u8 c1, Value.int IntKind.u8 c2, Value.int IntKind.u8 c3, Value.int IntKind.u8 c4, Value.int IntKind.u8 c5, Value.int IntKind.u8 c6, Value.int IntKind.u8 c7, Value.int IntKind.u8 c8, Value.int IntKind.u8 c9] (0 : Nat) (16 : Nat)) ∧ Is True ∧ Is ((0 : Nat) < (4 : Nat) ∧ (4 : Nat) ≤ (4 : Nat)) ∧ Is True ∧ br (fi [wh (b0 != (90 : Int)) (1 : Int), wh (!(c6 == ckS [b0, b1, b2, b3, b4, b5, b6, b7, b8, b9, c0, c1, c2, c3, c4, c5] (1 : Int) / (16777216 : Int) % (256 : Int) && (c7 == ckS [b0, b1, b2, b3, b4, b5, b6, b7, b8, b9, c0, c1, c2, c3, c4, c5] (1 : Int) / (65536 : Int) % (256 : Int) && (c8 == ckS [b0, b1, b2, b3, b4, b5, b6, b7, b8, b9, c0, c1, c2, c3, c4, c5] (1 : Int) / (256 : Int) % (256 : Int) && (c9 == ckS [b0, b1, b2, b3, b4, b5, b6, b7, b8, b9, c0, c1, c2, c3, c4, c5] (1 : Int) % (256 : Int) && true))))) (27 : Int)] != (0 : Int)) (K (Value.tuple #[Value.agg #[Value.int IntKind.i64 (0 : Int), Value.int IntKind.i64 (0 : Int), Value.float FloatKind.f32 (0 : Nat), Value.float FloatKind.f32 (0 : Nat), Value.float FloatKind.f32 (0 : Nat)], Value.int IntKind.i64 (fi [wh (b0 != (90 : Int)) (1 : Int), wh (!(c6 == ckS [b0, b1, b2, b3, b4, b5, b6, b7, b8, b9, c0, c1, c2, c3, c4, c5] (1 : Int) / (16777216 : Int) % (256 : Int) && (c7 == ckS [b0, b1, b2, b3, b4, b5, b6, b7, b8, b9, c0, c1, c2, c3, c4, c5] (1 : Int) / (65536 : Int) % (256 : Int) && (c8 == ckS [b0, b1, b2, b3, b4, b5, b6, b7, b8, b9, c0, c1, c2, c3, c4, c5] (1 : Int) / (256 : Int) % (256 : Int) && (c9 == ckS [b0, b1, b2, b3, b4, b5, b6, b7, b8, b9, c0, c1, c2, c3, c4, c5] (1 : Int) % (256 : Int) && true))))) (27 : Int)])]) noH) (Is (isBy [Value.int IntKind.u8 b0, Value.int IntKind.u8 b1, Value.int IntKind.u8 b2, Value.int IntKind.u8 b3, Value.int IntKind.u8 b4, Value.int IntKind.u8 b5, Value.int IntKind.u8 b6, Value.int IntKind.u8 b7, Value.int IntKind.u8 b8, Value.int IntKind.u8 b9, Value.int IntKind.u8 c0, Value.int IntKind.u8 c1, Value.int IntKind.u8 c2, Value.int IntKind.u8 c3, Value.int IntKind.u8 c4, Value.int IntKind.u8 c5, Value.int IntKind.u8 c6, Value.int IntKind.u8 c7, Value.int IntKind.u8 c8, Value.int IntKind.u8 c9] (2 : Nat) (2 : Nat) ∧ (2 : Nat) ≤ (4 : Nat)) ∧ Is (isBy [Value.int IntKind.u8 b0, Value.int IntKind.u8 b1, Value.int IntKind.u8 b2, Value.int IntKind.u8 b3, Value.int IntKind.u8 b4, Value.int IntKind.u8 b5, Value.int IntKind.u8 b6, Value.int IntKind.u8 b7, Value.int IntKind.u8 b8, Value.int IntKind.u8 b9, Value.int IntKind.u8 c0, Value.int IntKind.u8 c1, Value.int IntKind.u8 c2, Value.int IntKind.u8 c3, Value.int IntKind.u8 c4, Value.int IntKind.u8 c5, Value.int IntKind.u8 c6, Value.int IntKind.u8 c7, Value.int IntKind.u8 c8, Value.int IntKind.u8 c9] (4 : Nat) (4 : Nat) ∧ (4 : Nat) ≤ (4 : Nat)) ∧ Is True ∧ Is (isBy [Value.int IntKind.u8 b0, Value.int IntKind.u8 b1, Value.int IntKind.u8 b2, Value.int IntKind.u8 b3, Value.int IntKind.u8 b4, Value.int IntKind.u8 b5, Value.int IntKind.u8 b6, Value.int IntKind.u8 b7, Value.int IntKind.u8 b8, Value.int IntKind.u8 b9, Value.int IntKind.u8 c0, Value.int IntKind.u8 c1, Value.int IntKind.u8 c2, Value.int IntKind.u8 c3, Value.int IntKind.u8 c4, Value.int IntKind.u8 c5, Value.int IntKind.u8 c6, Value.int IntKind.u8 c7, Value.int IntKind.u8 c8, Value.int IntKind.u8 c9] (8 : Nat) (4 : Nat) ∧ (4 : Nat) ≤ (4 : Nat)) ∧ br (num [b4, b5, b6, b7] == (2147483648 : Int)) (Is True ∧ Is (isBy [Value.int IntKind.u8 b0, Value.int IntKind.u8 b1, Value.int IntKind.u8 b2, Value.int IntKind.u8 b3, Value.int IntKind.u8 b4, Value.int IntKind.u8 b5, Value.int IntKind.u8 b6, Value.int IntKind.u8 b7, Value.int IntKind.u8 b8, Value.int IntKind.u8 b9, Value.int IntKind.u8 c0, Value.int IntKind.u8 c1, Value.int IntKind.u8 c2, Value.int IntKind.u8 c3, Value.int IntKind.u8 c4, Value.int IntKind.u8 c5, Value.int IntKind.u8 c6, Value.int IntKind.u8 c7, Value.int IntKind.u8 c8, Value.int IntKind.u8 c9] (12 : Nat) (4 : Nat) ∧ (4 : Nat) ≤ (4 : Nat)) ∧ Is True ∧ Is True ∧ br (fi [fi [sE (Int.toNat (IntKind.wrap IntKind.u32 (num [b4, b5, b6, b7]))), sE (Int.toNat (IntKind.wrap IntKind.u32 (num [b8, b9, c0, c1]))), sE (Int.toNat (IntKind.wrap IntKind.u32 (num [c2, c3, c4, c5])))], (1 : Int)] != (0 : Int)) (K (Value.tuple #[Value.agg #[Value.int IntKind.i64 (0 : Int), Value.int IntKind.i64 (0 : Int), Value.float FloatKind.f32 (0 : Nat), Value.float FloatKind.f32 (0 : Nat), Value.float FloatKind.f32 (0 : Nat)], Value.int IntKind.i64 (fi [fi [sE (Int.toNat (IntKind.wrap IntKind.u32 (num [b4, b5, b6, b7]))), sE (Int.toNat (IntKind.wrap IntKind.u32 (num [b8, b9, c0, c1]))), sE (Int.toNat (IntKind.wrap IntKind.u32 (num [c2, c3, c4, c5])))], (1 : Int)])]) noH) (K (Value.tuple #[Value.agg #[Value.int IntKind.i64 (IntKind.wrap IntKind.i64 b1), Value.int IntKind.i64 (num [b2, b3]), Value.float FloatKind.f32 (Int.toNat (IntKind.wrap IntKind.u32 (num [b4, b5, b6, b7]))), Value.float FloatKind.f32 (Int.toNat (IntKind.wrap IntKind.u32 (num [b8, b9, c0, c1]))), Value.float FloatKind.f32 (Int.toNat (IntKind.wrap IntKind.u32 (num [c2, c3, c4, c5])))], Value.int IntKind.i64 (0 : Int)]) noH)) (Is True ∧ Is (isBy [Value.int IntKind.u8 b0, Value.int IntKind.u8 b1, Value.int IntKind.u8 b2, Value.int IntKind.u8 b3, Value.int IntKind.u8 b4, Value.int IntKind.u8 b5, Value.int IntKind.u8 b6, Value.int IntKind.u8 b7, Value.int IntKind.u8 b8, Value.int IntKind.u8 b9, Value.int IntKind.u8 c0, Value.int IntKind.u8 c1, Value.int IntKind.u8 c2, Value.int IntKind.u8 c3, Value.int IntKind.u8 c4, Value.int IntKind.u8 c5, Value.int IntKind.u8 c6, Value.int IntKind.u8 c7, Value.int IntKind.u8 c8, Value.int IntKind.u8 c9] (12 : Nat) (4 : Nat) ∧ (4 : Nat) ≤ (4 : Nat)) ∧ br (num [b8, b9, c0, c1] == (2147483648 : Int)) (Is True ∧ Is True ∧ br (fi [fi [sE (Int.toNat (IntKind.wrap IntKind.u32 (num [b4, b5, b6, b7]))), sE (Int.toNat (IntKind.wrap IntKind.u32 (num [b8, b9, c0, c1]))), sE (Int.toNat (IntKind.wrap IntKind.u32 (num [c2, c3, c4, c5])))], (1 : Int)] != (0 : Int)) (K (Value.tuple #[Value.agg #[Value.int IntKind.i64 (0 : Int), Value.int IntKind.i64 (0 : Int), Value.float FloatKind.f32 (0 : Nat), Value.float FloatKind.f32 (0 : Nat), Value.float FloatKind.f32 (0 : Nat)], Value.int IntKind.i64 (fi [fi [sE (Int.toNat (IntKind.wrap IntKind.u32 (num [b4, b5, b6, b7]))), sE (Int.toNat (IntKind.wrap IntKind.u32 (num [b8, b9, c0, c1]))), sE (Int.toNat (IntKind.wrap IntKind.u32 (num [c2, c3, c4, c5])))], (1 : Int)])]) noH) (K (Value.tuple #[Value.agg #[Value.int IntKind.i64 (IntKind.wrap IntKind.i64 b1), Value.int IntKind.i64 (num [b2, b3]), Value.float FloatKind.f32 (Int.toNat (IntKind.wrap IntKind.u32 (num [b4, b5, b6, b7]))), Value.float FloatKind.f32 (Int.toNat (IntKind.wrap IntKind.u32 (num [b8, b9, c0, c1]))), Value.float FloatKind.f32 (Int.toNat (IntKind.wrap IntKind.u32 (num [c2, c3, c4, c5])))], Value.int IntKind.i64 (0 : Int)]) noH)) (Is True ∧ Is True ∧ br (fi [fi [sE (Int.toNat (IntKind.wrap IntKind.u32 (num [b4, b5, b6, b7]))), sE (Int.toNat (IntKind.wrap IntKind.u32 (num [b8, b9, c0, c1]))), sE (Int.toNat (IntKind.wrap IntKind.u32 (num [c2, c3, c4, c5])))], wh (num [c2, c3, c4, c5] == (2147483648 : Int)) (1 : Int)] != (0 : Int)) (K (Value.tuple #[Value.agg #[Value.int IntKind.i64 (0 : Int), Value.int IntKind.i64 (0 : Int), Value.float FloatKind.f32 (0 : Nat), Value.float FloatKind.f32 (0 : Nat), Value.float FloatKind.f32 (0 : Nat)], Value.int IntKind.i64 (fi [fi [sE (Int.toNat (IntKind.wrap IntKind.u32 (num [b4, b5, b6, b7]))), sE (Int.toNat (IntKind.wrap IntKind.u32 (num [b8, b9, c0, c1]))), sE (Int.toNat (IntKind.wrap IntKind.u32 (num [c2, c3, c4, c5])))], wh (num [c2, c3, c4, c5] == (2147483648 : Int)) (1 : Int)])]) noH) (K (Value.tuple #[Value.agg #[Value.int IntKind.i64 (IntKind.wrap IntKind.i64 b1), Value.int IntKind.i64 (num [b2, b3]), Value.float FloatKind.f32 (Int.toNat (IntKind.wrap IntKind.u32 (num [b4, b5, b6, b7]))), Value.float FloatKind.f32 (Int.toNat (IntKind.wrap IntKind.u32 (num [b8, b9, c0, c1]))), Value.float FloatKind.f32 (Int.toNat (IntKind.wrap IntKind.u32 (num [c2, c3, c4, c5])))], Value.int IntKind.i64 (0 : Int)]) noH))))) := by kernel_rfl
/-- A packet that can be sent, and comes back. -/
structure okPkt (p : Pk) : Prop where
  e : pkE p = 0
  x : p.x < 4294967296
  y : p.y < 4294967296
  z : p.z < 4294967296
  mx : p.x ≠ 2147483648
  my : p.y ≠ 2147483648
  mz : p.z ≠ 2147483648
  bx : bz p.x = p.x
  bY : bz p.y = p.y
  bZ : bz p.z = p.z
theorem okPkt.rng {p : Pk} (h : okPkt p) : (0 ≤ p.s ∧ p.s ≤ 255) ∧ (0 ≤ p.c ∧ p.c ≤ 65535) ∧ sE p.x = 0 ∧ sE p.y = 0 ∧ sE p.z = 0 := by
  have := h.e
  rw [pkE, pkI] at this
  have h1 := fi_zero.1 this (wi p.s 0 255) (by simp)
  have h2 := fi_zero.1 this (wi p.c 0 65535) (by simp)
  have h3 := fi_zero.1 this (fi [sE p.x, sE p.y, sE p.z]) (by simp)
  exact ⟨wi_zero.1 h1, wi_zero.1 h2, fi_zero.1 h3 _ (by simp), fi_zero.1 h3 _ (by simp), fi_zero.1 h3 _ (by simp)⟩
def _root_.Sp.pkOk (s c : Int) (x y z : Nat) : Prop := okPkt ⟨s, c, x, y, z⟩
noncomputable def orcEn : OrcV
  | [.agg ⟨[.int .i64 s, .int .i64 c, .float .f32 x, .float .f32 y, .float .f32 z]⟩], [] => some (.tuple #[.agg (bys (frm ⟨s, c, x, y, z⟩)).toArray, .int .i64 0], [], pkOk s c x y z)
  | _, _ => none
theorem okEn : OkV Try.prog 5 orcEn := by
  intro args H ret H' vc h hv
  unfold orcEn at h
  split at h
  · rename_i s c x y z
    cases h
    have hv : okPkt ⟨s, c, x, y, z⟩ := hv
    refine fnP_res hm cP_ok (hs := hEn) ?_
    show fnP Try.prog cP hEn 5 _ _ _
    rw [en_t]
    have q1 := hv.x
    have q2 := hv.y
    have q3 := hv.z
    have q4 := hv.bx
    have q5 := hv.bY
    have q6 := hv.bZ
    simp only at q1 q2 q3 q4 q5 q6
    refine ⟨⟨trivial⟩, br_of (fun h => by rw [show pkI s c x y z = 0 from hv.e] at h; simp at h) (fun _ => ⟨⟨trivial⟩, ⟨by omega⟩, ⟨by decide⟩, ⟨by omega⟩, ⟨by decide⟩, ⟨by omega⟩, ⟨by decide⟩, ⟨⟨rfl, ?_, Nat.le_refl _, by decide⟩, rfl⟩, ⟨by decide, by decide⟩, ?_, rfl⟩)⟩
    · rw [q4, q5, q6]
      exact hd_byte ⟨s, c, x, y, z⟩
    · rw [q4, q5, q6]; rfl
  · cases h
noncomputable def decA (l : List Value) : List Value := [.int .i64 ((ubs l).getD 1 0), .int .i64 (num (((ubs l).drop 2).take 2)), .float .f32 (num (((ubs l).drop 4).take 4)).toNat, .float .f32 (num (((ubs l).drop 8).take 4)).toNat, .float .f32 (num (((ubs l).drop 12).take 4)).toNat]
def decOk (l : List Value) : Prop := ∃ p, okPkt p ∧ l = bys (frm p)
theorem num_x {x : Nat} (h : x < 4294967296) : num [(x : Int) / 16777216 % 256, (x : Int) / 65536 % 256, (x : Int) / 256 % 256, (x : Int) % 256] = x := num_four (by omega) (by omega)
theorem num_c {c : Int} (h : 0 ≤ c ∧ c ≤ 65535) : num [c / 256 % 256, c % 256] = c := num_two h.1 (by omega)
theorem decA_frm {p : Pk} (h : okPkt p) : decA (bys (frm p)) = pkA p := by
  obtain ⟨h1, h2, _⟩ := h.rng
  rw [decA, ubs_bys]
  show [.int .i64 (p.s % 256), .int .i64 (num [p.c / 256 % 256, p.c % 256]), .float .f32 (num [(p.x : Int) / 16777216 % 256, (p.x : Int) / 65536 % 256, (p.x : Int) / 256 % 256, (p.x : Int) % 256]).toNat,
    .float .f32 (num [(p.y : Int) / 16777216 % 256, (p.y : Int) / 65536 % 256, (p.y : Int) / 256 % 256, (p.y : Int) % 256]).toNat, .float .f32 (num [(p.z : Int) / 16777216 % 256, (p.z : Int) / 65536 % 256, (p.z : Int) / 256 % 256, (p.z : Int) % 256]).toNat] = pkA p
  rw [num_x h.x, num_x h.y, num_x h.z, num_c h2, show p.s % 256 = p.s by omega]; rfl
noncomputable def orcDe : OrcV
  | [.agg ⟨l⟩], [] => some (.tuple #[.agg (decA l).toArray, .int .i64 0], [], decOk l)
  | _, _ => none
set_option maxRecDepth 100000 in
theorem okDe : OkV Try.prog 51 orcDe := by
  intro args H ret H' vc h hv
  unfold orcDe at h
  split at h
  · rename_i l
    cases h
    obtain ⟨p, hp, rfl⟩ := hv
    rw [decA_frm hp]
    obtain ⟨h1, h2, sx, sy, sz⟩ := hp.rng
    have ba : ∀ n o, o + n ≤ 20 → n ≤ 1000 → isBy (bys (frm p)) o n := fun n o h1 h2 => ⟨by rw [ubs_bys], by rw [ubs_bys]; exact frm_byte p, by rw [bys_len, frm_len]; omega, by omega⟩
    refine fnP_res hm cP_ok (hs := hDe) ?_
    show fnP Try.prog cP hDe 51 [.agg (bys [90, p.s % 256, p.c / 256 % 256, p.c % 256, (p.x : Int) / 16777216 % 256, (p.x : Int) / 65536 % 256, (p.x : Int) / 256 % 256, (p.x : Int) % 256, (p.y : Int) / 16777216 % 256, (p.y : Int) / 65536 % 256, (p.y : Int) / 256 % 256, (p.y : Int) % 256, (p.z : Int) / 16777216 % 256, (p.z : Int) / 65536 % 256, (p.z : Int) / 256 % 256, (p.z : Int) % 256,
      ckS (hd p) 1 / 16777216 % 256, ckS (hd p) 1 / 65536 % 256, ckS (hd p) 1 / 256 % 256, ckS (hd p) 1 % 256]).toArray] [] _
    rw [de_t]
    have eh : [90, p.s % 256, p.c / 256 % 256, p.c % 256, (p.x : Int) / 16777216 % 256, (p.x : Int) / 65536 % 256, (p.x : Int) / 256 % 256, (p.x : Int) % 256, (p.y : Int) / 16777216 % 256, (p.y : Int) / 65536 % 256, (p.y : Int) / 256 % 256, (p.y : Int) % 256, (p.z : Int) / 16777216 % 256, (p.z : Int) / 65536 % 256, (p.z : Int) / 256 % 256, (p.z : Int) % 256] = hd p := rfl
    rw [eh, num_x hp.x, num_x hp.y, num_x hp.z, num_c h2]
    have wu : ∀ {x : Nat}, x < 4294967296 → Int.toNat (IntKind.wrap .u32 (x : Int)) = x := fun {x} h => by
      have : IntKind.wrap .u32 (x : Int) = (x : Int) % 4294967296 := rfl
      rw [this]; omega
    rw [wu hp.x, wu hp.y, wu hp.z, sx, sy, sz]
    have ne : ∀ {x : Nat}, x ≠ 2147483648 → ((x : Int) == 2147483648) = false := fun {x} h => by
      rw [beq_eq_false_iff_ne]; omega
    have ws : IntKind.wrap .i64 (p.s % 256) = p.s := by rw [wrap_eq (by omega) (by omega)]; omega
    rw [ws]
    refine ⟨⟨trivial⟩, ⟨by decide, by decide⟩, ⟨ba 16 0 (by decide) (by decide)⟩, ⟨trivial⟩, ⟨by decide, by decide⟩, ⟨trivial⟩, br_of (fun h => by simp [fi, wh] at h) (fun _ => ?_)⟩
    refine ⟨⟨ba 2 2 (by decide) (by decide), by decide⟩, ⟨ba 4 4 (by decide) (by decide), by decide⟩, ?_⟩
    refine ⟨⟨trivial⟩, ⟨ba 4 8 (by decide) (by decide), by decide⟩, br_of (fun h => by rw [ne hp.mx] at h; cases h) (fun _ => ?_)⟩
    refine ⟨⟨trivial⟩, ⟨ba 4 12 (by decide) (by decide), by decide⟩, br_of (fun h => by rw [ne hp.my] at h; cases h) (fun _ => ?_)⟩
    rw [ne hp.mz]
    exact ⟨⟨trivial⟩, ⟨trivial⟩, br_of (fun h => by simp [fi, wh] at h) (fun _ => ⟨rfl, rfl⟩)⟩
  · cases h
end
end Qq
end
section
/- The packets of a stream: the iterator. -/
open Go Go.Vm Go.Proofs Sp
namespace Sp
noncomputable section
/-- Frames, one after the other; cells of packets. -/
def frs (ps : List Pk) : List Int := ps.flatMap frm
/-- A byte of a row. -/
noncomputable def byA (bs : List Value) (off k : Nat) : Int := (ubs bs).getD (off + k) 0
/-- Where the i-th frame begins. -/
def at20 (i : Nat) : Int := ((20 * i : Nat) : Int)
noncomputable def pks (ps : List Pk) : List Value := ps.flatMap Qq.pkA
end
end Sp
namespace Qq
noncomputable section
noncomputable def pk0 : Pk := ⟨0, 0, 0, 0, 0⟩
noncomputable def hcF (bs : List Value) (n c : Nat) : Heap := [some (.row [.slice (some ⟨1, 0, none⟩) n c] 0 false false false), some (.row bs 1 true false true)]
noncomputable def cpF : List Value := [.pointer (some ⟨0, 0, none⟩)]
noncomputable def elF (i : Nat) : List Value := [.int .i64 (at20 i), .pointer (some ⟨0, 0, none⟩)]
noncomputable def bxF (ps : List Pk) (i : Nat) : Heap := [some (.row (pkA (ps.getD i pk0)) 0 false true true)]
noncomputable def gFr (bs : List Value) (off : Nat) : Value := .agg (bys [byA bs off 0, byA bs off 1, byA bs off 2, byA bs off 3, byA bs off 4, byA bs off 5, byA bs off 6, byA bs off 7, byA bs off 8, byA bs off 9, byA bs off 10, byA bs off 11, byA bs off 12, byA bs off 13, byA bs off 14, byA bs off 15, byA bs off 16, byA bs off 17, byA bs off 18, byA bs off 19]).toArray
noncomputable def lyF (bs : List Value) (n c N : Nat) (l : Nat) : Ly where
  σ := Nat
  E i := slots 40 [(0, .func (.yield l) #[] #[]), (1, .pointer (some ⟨0, 0, none⟩)), (3, .int .i64 (at20 i))]
  Hp _ := hcF bs n c
  I i := i ≤ N
  m i := N - i
  gi i := i
noncomputable def hsF (bs : List Value) (n c N : Nat) (l : Nat) : Ys Try.prog where
  op y := if y = 404 then some (hSl Try.prog) else if y = 406 then some (hLd Try.prog (gFr bs)) else if y = 407 then some (hCa Try.prog 51 orcDe okDe) else none
  ys := [7]
  ly _ := some (lyF bs n c N l)
  cl _ := keep 40 [0, 1, 3]
  au := au2
theorem itF_t (bs : List Value) (n : Nat) (c : Nat) (N : Nat) (ps : List Pk) :
    (iterX Try.prog c0 (hsF bs n c N) (hcF bs n c) N elF (bxF ps) (50 : FuncId) cpF) =
    (∀ (l : Nat), (false = false ∧ ∃ (s : Nat), Is (s ≤ N) ∧ Is ((0 : Nat) = s) ∧ [Value.func (Fn.yield l) #[] #[], Value.pointer (some { block := (0 : Nat), off := (0 : Nat) }), poi, Value.int IntKind.i64 (0 : Int), poi, poi, poi, poi, poi, poi, poi, poi, poi, poi, poi, poi, poi, poi, poi, poi, poi, poi, poi, poi, poi, poi, poi, poi, poi, poi, poi, poi, poi, poi, poi, poi, poi, poi, poi, poi] = [Value.func (Fn.yield l) #[] #[], Value.pointer (some { block := (0 : Nat), off := (0 : Nat) }), poi, Value.int IntKind.i64 (at20 s), poi, poi, poi, poi, poi, poi, poi, poi, poi, poi, poi, poi, poi, poi, poi, poi, poi, poi, poi, poi, poi, poi, poi, poi, poi, poi, poi, poi, poi, poi, poi, poi, poi, poi, poi, poi] ∧ some (AObj.row [Value.slice (some { block := (1 : Nat), off := (0 : Nat) }) n c] (0 : Nat) false false false) :: some (AObj.row bs (1 : Nat) true false true) :: noH = some (AObj.row [Value.slice (some { block := (1 : Nat), off := (0 : Nat) }) n c] (0 : Nat) false false false) :: some (AObj.row bs (1 : Nat) true false true) :: noH) ∧ ∀ (s : Nat), Is (s ≤ N) → br (decide (at20 s < (↑n : Int))) (br (decide ((20 : Int) ≤ IntKind.wrap IntKind.i64 ((↑n : Int) - at20 s))) (Is ((0 : Int) ≤ at20 s ∧ at20 s ≤ IntKind.wrap IntKind.i64 (at20 s + (20 : Int)) ∧ IntKind.wrap IntKind.i64 (at20 s + (20 : Int)) ≤ (↑n : Int)) ∧ Is ((0 : Nat) < (20 : Nat) ∧ (20 : Nat) ≤ Int.toNat (IntKind.wrap IntKind.i64 (at20 s + (20 : Int))) - Int.toNat (at20 s)) ∧ Is ((if (0 : Nat) + Int.toNat (at20 s) * (1 : Nat) + (20 : Nat) ≤ List.length bs then some (Value.agg (List.toArray (List.take (20 : Nat) (List.drop ((0 : Nat) + Int.toNat (at20 s) * (1 : Nat)) bs)))) else none) = some (Value.agg #[Value.int IntKind.u8 (byA bs ((0 : Nat) + Int.toNat (at20 s) * (1 : Nat)) (0 : Nat)), Value.int IntKind.u8 (byA bs ((0 : Nat) + Int.toNat (at20 s) * (1 : Nat)) (1 : Nat)), Value.int IntKind.u8 (byA bs ((0 : Nat) + Int.toNat (at20 s) * (1 : Nat)) (2 : Nat)), Value.int IntKind.u8 (byA bs ((0 : Nat) + Int.toNat (at20 s) * (1 : Nat)) (3 : Nat)), Value.int IntKind.u8 (byA bs ((0 : Nat) + Int.toNat (at20 s) * (1 : Nat)) (4 : Nat)), Value.int IntKind.u8 (byA bs ((0 : Nat) + Int.toNat (at20 s) * (1 : Nat)) (5 : Nat)), Value.int IntKind.u8 (byA bs ((0 : Nat) + Int.toNat (at20 s) * (1 : Nat)) (6 : Nat)), Value.int IntKind.u8 (byA bs ((0 : Nat) + Int.toNat (at20 s) * (1 : Nat)) (7 : Nat)), Value.int IntKind.u8 (byA bs ((0 : Nat) + Int.toNat (at20 s) * (1 : Nat)) (8 : Nat)), Value.int IntKind.u8 (byA bs ((0 : Nat) + Int.toNat (at20 s) * (1 : Nat)) (9 : Nat)), Value.int IntKind.u8 (byA bs ((0 : Nat) + Int.toNat (at20 s) * (1 : Nat)) (10 : Nat)), Value.int IntKind.u8 (byA bs ((0 : Nat) + Int.toNat (at20 s) * (1 : Nat)) (11 : Nat)), Value.int IntKind.u8 (byA bs ((0 : Nat) + Int.toNat (at20 s) * (1 : Nat)) (12 : Nat)), Value.int IntKind.u8 (byA bs ((0 : Nat) + Int.toNat (at20 s) * (1 : Nat)) (13 : Nat)), Value.int IntKind.u8 (byA bs ((0 : Nat) + Int.toNat (at20 s) * (1 : Nat)) (14 : Nat)), Value.int IntKind.u8 (byA bs ((0 : Nat) + Int.toNat (at20 s) * (1 : Nat)) (15 : Nat)), Value.int IntKind.u8 (byA bs ((0 : Nat) + Int.toNat (at20 s) * (1 : Nat)) (16 : Nat)), Value.int IntKind.u8 (byA bs ((0 : Nat) + Int.toNat (at20 s) * (1 : Nat)) (17 : Nat)), Value.int IntKind.u8 (byA bs ((0 : Nat) + Int.toNat (at20 s) * (1 : Nat)) (18 : Nat)), Value.int IntKind.u8 (byA bs ((0 : Nat) + Int.toNat (at20 s) * (1 : Nat)) (19 : Nat))])) ∧ Is (decOk [Value.int IntKind.u8 (byA bs ((0 : Nat) + Int.toNat (at20 s) * (1 : Nat)) (0 : Nat)), Value.int IntKind.u8 (byA bs ((0 : Nat) + Int.toNat (at20 s) * (1 : Nat)) (1 : Nat)), Value.int IntKind.u8 (byA bs ((0 : Nat) + Int.toNat (at20 s) * (1 : Nat)) (2 : Nat)), Value.int IntKind.u8 (byA bs ((0 : Nat) + Int.toNat (at20 s) * (1 : Nat)) (3 : Nat)), Value.int IntKind.u8 (byA bs ((0 : Nat) + Int.toNat (at20 s) * (1 : Nat)) (4 : Nat)), Value.int IntKind.u8 (byA bs ((0 : Nat) + Int.toNat (at20 s) * (1 : Nat)) (5 : Nat)), Value.int IntKind.u8 (byA bs ((0 : Nat) + Int.toNat (at20 s) * (1 : Nat)) (6 : Nat)), Value.int IntKind.u8 (byA bs ((0 : Nat) + Int.toNat (at20 s) * (1 : Nat)) (7 : Nat)), Value.int IntKind.u8 (byA bs ((0 : Nat) + Int.toNat (at20 s) * (1 : Nat)) (8 : Nat)), Value.int IntKind.u8 (byA bs ((0 : Nat) + Int.toNat (at20 s) * (1 : Nat)) (9 : Nat)), Value.int IntKind.u8 (byA bs ((0 : Nat) + Int.toNat (at20 s) * (1 : Nat)) (10 : Nat)), Value.int IntKind.u8 (byA bs ((0 : Nat) + Int.toNat (at20 s) * (1 : Nat)) (11 : Nat)), Value.int IntKind.u8 (byA bs ((0 : Nat) + Int.toNat (at20 s) * (1 : Nat)) (12 : Nat)), Value.int IntKind.u8 (byA bs ((0 : Nat) + Int.toNat (at20 s) * (1 : Nat)) (13 : Nat)), Value.int IntKind.u8 (byA bs ((0 : Nat) + Int.toNat (at20 s) * (1 : Nat)) (14 : Nat)), Value.int IntKind.u8 (byA bs ((0 : Nat) + Int.toNat (at20 s) * (1 : Nat)) (15 : Nat)), Value.int IntKind.u8 (byA bs ((0 : Nat) + Int.toNat (at20 s) * (1 : Nat)) (16 : Nat)), Value.int IntKind.u8 (byA bs ((0 : Nat) + Int.toNat (at20 s) * (1 : Nat)) (17 : Nat)), Value.int IntKind.u8 (byA bs ((0 : Nat) + Int.toNat (at20 s) * (1 : Nat)) (18 : Nat)), Value.int IntKind.u8 (byA bs ((0 : Nat) + Int.toNat (at20 s) * (1 : Nat)) (19 : Nat))]) ∧ Is (s < N) ∧ l = l ∧ [Value.int IntKind.i64 (at20 s), Value.pointer (some { block := (0 : Nat), off := (0 : Nat) })] = [Value.int IntKind.i64 (at20 s), Value.pointer (some { block := (0 : Nat), off := (0 : Nat) })] ∧ some (AObj.row [Value.int IntKind.i64 (List.getD [byA bs ((0 : Nat) + Int.toNat (at20 s) * (1 : Nat)) (0 : Nat), byA bs ((0 : Nat) + Int.toNat (at20 s) * (1 : Nat)) (1 : Nat), byA bs ((0 : Nat) + Int.toNat (at20 s) * (1 : Nat)) (2 : Nat), byA bs ((0 : Nat) + Int.toNat (at20 s) * (1 : Nat)) (3 : Nat), byA bs ((0 : Nat) + Int.toNat (at20 s) * (1 : Nat)) (4 : Nat), byA bs ((0 : Nat) + Int.toNat (at20 s) * (1 : Nat)) (5 : Nat), byA bs ((0 : Nat) + Int.toNat (at20 s) * (1 : Nat)) (6 : Nat), byA bs ((0 : Nat) + Int.toNat (at20 s) * (1 : Nat)) (7 : Nat), byA bs ((0 : Nat) + Int.toNat (at20 s) * (1 : Nat)) (8 : Nat), byA bs ((0 : Nat) + Int.toNat (at20 s) * (1 : Nat)) (9 : Nat), byA bs ((0 : Nat) + Int.toNat (at20 s) * (1 : Nat)) (10 : Nat), byA bs ((0 : Nat) + Int.toNat (at20 s) * (1 : Nat)) (11 : Nat), byA bs ((0 : Nat) + Int.toNat (at20 s) * (1 : Nat)) (12 : Nat), byA bs ((0 : Nat) + Int.toNat (at20 s) * (1 : Nat)) (13 : Nat), byA bs ((0 : Nat) + Int.toNat (at20 s) * (1 : Nat)) (14 : Nat), byA bs ((0 : Nat) + Int.toNat (at20 s) * (1 : Nat)) (15 : Nat), byA bs ((0 : Nat) + Int.toNat (at20 s) * (1 : Nat)) (16 : Nat), byA bs ((0 : Nat) + Int.toNat (at20 s) * (1 : Nat)) (17 : Nat), byA bs ((0 : Nat) + Int.toNat (at20 s) * (1 : Nat)) (18 : Nat), byA bs ((0 : Nat) + Int.toNat (at20 s) * (1 : Nat)) (19 : Nat)] (1 : Nat) (0 : Int)), Value.int IntKind.i64 (num [byA bs ((0 : Nat) + Int.toNat (at20 s) * (1 : Nat)) (2 : Nat), byA bs ((0 : Nat) + Int.toNat (at20 s) * (1 : Nat)) (3 : Nat)]), Value.float FloatKind.f32 (Int.toNat (num [byA bs ((0 : Nat) + Int.toNat (at20 s) * (1 : Nat)) (4 : Nat), byA bs ((0 : Nat) + Int.toNat (at20 s) * (1 : Nat)) (5 : Nat), byA bs ((0 : Nat) + Int.toNat (at20 s) * (1 : Nat)) (6 : Nat), byA bs ((0 : Nat) + Int.toNat (at20 s) * (1 : Nat)) (7 : Nat)])), Value.float FloatKind.f32 (Int.toNat (num [byA bs ((0 : Nat) + Int.toNat (at20 s) * (1 : Nat)) (8 : Nat), byA bs ((0 : Nat) + Int.toNat (at20 s) * (1 : Nat)) (9 : Nat), byA bs ((0 : Nat) + Int.toNat (at20 s) * (1 : Nat)) (10 : Nat), byA bs ((0 : Nat) + Int.toNat (at20 s) * (1 : Nat)) (11 : Nat)])), Value.float FloatKind.f32 (Int.toNat (num [byA bs ((0 : Nat) + Int.toNat (at20 s) * (1 : Nat)) (12 : Nat), byA bs ((0 : Nat) + Int.toNat (at20 s) * (1 : Nat)) (13 : Nat), byA bs ((0 : Nat) + Int.toNat (at20 s) * (1 : Nat)) (14 : Nat), byA bs ((0 : Nat) + Int.toNat (at20 s) * (1 : Nat)) (15 : Nat)]))] (0 : Nat) false true (true && List.all [Value.int IntKind.i64 (List.getD [byA bs ((0 : Nat) + Int.toNat (at20 s) * (1 : Nat)) (0 : Nat), byA bs ((0 : Nat) + Int.toNat (at20 s) * (1 : Nat)) (1 : Nat), byA bs ((0 : Nat) + Int.toNat (at20 s) * (1 : Nat)) (2 : Nat), byA bs ((0 : Nat) + Int.toNat (at20 s) * (1 : Nat)) (3 : Nat), byA bs ((0 : Nat) + Int.toNat (at20 s) * (1 : Nat)) (4 : Nat), byA bs ((0 : Nat) + Int.toNat (at20 s) * (1 : Nat)) (5 : Nat), byA bs ((0 : Nat) + Int.toNat (at20 s) * (1 : Nat)) (6 : Nat), byA bs ((0 : Nat) + Int.toNat (at20 s) * (1 : Nat)) (7 : Nat), byA bs ((0 : Nat) + Int.toNat (at20 s) * (1 : Nat)) (8 : Nat), byA bs ((0 : Nat) + Int.toNat (at20 s) * (1 : Nat)) (9 : Nat), byA bs ((0 : Nat) + Int.toNat (at20 s) * (1 : Nat)) (10 : Nat), byA bs ((0 : Nat) + Int.toNat (at20 s) * (1 : Nat)) (11 : Nat), byA bs ((0 : Nat) + Int.toNat (at20 s) * (1 : Nat)) (12 : Nat), byA bs ((0 : Nat) + Int.toNat (at20 s) * (1 : Nat)) (13 : Nat), byA bs ((0 : Nat) + Int.toNat (at20 s) * (1 : Nat)) (14 : Nat), byA bs ((0 : Nat) + Int.toNat (at20 s) * (1 : Nat)) (15 : Nat), byA bs ((0 : Nat) + Int.toNat (at20 s) * (1 : Nat)) (16 : Nat), byA bs ((0 : Nat) + Int.toNat (at20 s) * (1 : Nat)) (17 : Nat), byA bs ((0 : Nat) + Int.toNat (at20 s) * (1 : Nat)) (18 : Nat), byA bs ((0 : Nat) + Int.toNat (at20 s) * (1 : Nat)) (19 : Nat)] (1 : Nat) (0 : Int)), Value.int IntKind.i64 (num [byA bs ((0 : Nat) + Int.toNat (at20 s) * (1 : Nat)) (2 : Nat), byA bs ((0 : Nat) + Int.toNat (at20 s) * (1 : Nat)) (3 : Nat)]), Value.float FloatKind.f32 (Int.toNat (num [byA bs ((0 : Nat) + Int.toNat (at20 s) * (1 : Nat)) (4 : Nat), byA bs ((0 : Nat) + Int.toNat (at20 s) * (1 : Nat)) (5 : Nat), byA bs ((0 : Nat) + Int.toNat (at20 s) * (1 : Nat)) (6 : Nat), byA bs ((0 : Nat) + Int.toNat (at20 s) * (1 : Nat)) (7 : Nat)])), Value.float FloatKind.f32 (Int.toNat (num [byA bs ((0 : Nat) + Int.toNat (at20 s) * (1 : Nat)) (8 : Nat), byA bs ((0 : Nat) + Int.toNat (at20 s) * (1 : Nat)) (9 : Nat), byA bs ((0 : Nat) + Int.toNat (at20 s) * (1 : Nat)) (10 : Nat), byA bs ((0 : Nat) + Int.toNat (at20 s) * (1 : Nat)) (11 : Nat)])), Value.float FloatKind.f32 (Int.toNat (num [byA bs ((0 : Nat) + Int.toNat (at20 s) * (1 : Nat)) (12 : Nat), byA bs ((0 : Nat) + Int.toNat (at20 s) * (1 : Nat)) (13 : Nat), byA bs ((0 : Nat) + Int.toNat (at20 s) * (1 : Nat)) (14 : Nat), byA bs ((0 : Nat) + Int.toNat (at20 s) * (1 : Nat)) (15 : Nat)]))] atom)) :: noH = some (AObj.row [Value.int IntKind.i64 (Pk.s (List.getD ps (Ly.gi (lyF bs n c N l) s) pk0)), Value.int IntKind.i64 (Pk.c (List.getD ps (Ly.gi (lyF bs n c N l) s) pk0)), Value.float FloatKind.f32 (Pk.x (List.getD ps (Ly.gi (lyF bs n c N l) s) pk0)), Value.float FloatKind.f32 (Pk.y (List.getD ps (Ly.gi (lyF bs n c N l) s) pk0)), Value.float FloatKind.f32 (Pk.z (List.getD ps (Ly.gi (lyF bs n c N l) s) pk0))] (0 : Nat) false true true) :: noH ∧ (Is True ∧ false = false ∧ ∃ (s' : Nat), Is (s' ≤ N) ∧ Is (N - s' < N - s) ∧ Is (s + (1 : Nat) = s') ∧ [Value.func (Fn.yield l) #[] #[], Value.pointer (some { block := (0 : Nat), off := (0 : Nat) }), poi, Value.int IntKind.i64 (IntKind.wrap IntKind.i64 (IntKind.wrap IntKind.i64 (at20 s + (1 : Int)) + (19 : Int))), poi, poi, poi, poi, poi, poi, poi, poi, poi, poi, poi, poi, poi, poi, poi, poi, poi, poi, poi, poi, poi, poi, poi, poi, poi, poi, poi, poi, poi, poi, poi, poi, poi, poi, poi, poi] = [Value.func (Fn.yield l) #[] #[], Value.pointer (some { block := (0 : Nat), off := (0 : Nat) }), poi, Value.int IntKind.i64 (at20 s'), poi, poi, poi, poi, poi, poi, poi, poi, poi, poi, poi, poi, poi, poi, poi, poi, poi, poi, poi, poi, poi, poi, poi, poi, poi, poi, poi, poi, poi, poi, poi, poi, poi, poi, poi, poi] ∧ some (AObj.row [Value.slice (some { block := (1 : Nat), off := (0 : Nat) }) n c] (0 : Nat) false false false) :: some (AObj.row bs (1 : Nat) true false true) :: noH = some (AObj.row [Value.slice (some { block := (1 : Nat), off := (0 : Nat) }) n c] (0 : Nat) false false false) :: some (AObj.row bs (1 : Nat) true false true) :: noH) ∧ Is (s < N)) (Is (s < N) ∧ l = l ∧ [Value.int IntKind.i64 (at20 s), Value.pointer none] = [Value.int IntKind.i64 (at20 s), Value.pointer (some { block := (0 : Nat), off := (0 : Nat) })] ∧ noH = some (AObj.row [Value.int IntKind.i64 (Pk.s (List.getD ps (Ly.gi (lyF bs n c N l) s) pk0)), Value.int IntKind.i64 (Pk.c (List.getD ps (Ly.gi (lyF bs n c N l) s) pk0)), Value.float FloatKind.f32 (Pk.x (List.getD ps (Ly.gi (lyF bs n c N l) s) pk0)), Value.float FloatKind.f32 (Pk.y (List.getD ps (Ly.gi (lyF bs n c N l) s) pk0)), Value.float FloatKind.f32 (Pk.z (List.getD ps (Ly.gi (lyF bs n c N l) s) pk0))] (0 : Nat) false true true) :: noH ∧ (false = false ∧ ∃ (s' : Nat), Is (s' ≤ N) ∧ Is (N - s' < N - s) ∧ Is (s + (1 : Nat) = s') ∧ [Value.func (Fn.yield l) #[] #[], Value.pointer (some { block := (0 : Nat), off := (0 : Nat) }), poi, Value.int IntKind.i64 (IntKind.wrap IntKind.i64 (at20 s + (1 : Int))), poi, poi, poi, poi, poi, poi, poi, poi, poi, poi, poi, poi, poi, poi, poi, poi, poi, poi, poi, poi, poi, poi, poi, poi, poi, poi, poi, poi, poi, poi, poi, poi, poi, poi, poi, poi] = [Value.func (Fn.yield l) #[] #[], Value.pointer (some { block := (0 : Nat), off := (0 : Nat) }), poi, Value.int IntKind.i64 (at20 s'), poi, poi, poi, poi, poi, poi, poi, poi, poi, poi, poi, poi, poi, poi, poi, poi, poi, poi, poi, poi, poi, poi, poi, poi, poi, poi, poi, poi, poi, poi, poi, poi, poi, poi, poi, poi] ∧ some (AObj.row [Value.slice (some { block := (1 : Nat), off := (0 : Nat) }) n c] (0 : Nat) false false false) :: some (AObj.row bs (1 : Nat) true false true) :: noH = some (AObj.row [Value.slice (some { block := (1 : Nat), off := (0 : Nat) }) n c] (0 : Nat) false false false) :: some (AObj.row bs (1 : Nat) true false true) :: noH) ∧ Is (s < N))) (Is (s = N))) := by kernel_rfl
theorem frs_len : ∀ ps : List Pk, (frs ps).length = 20 * ps.length
  | [] => rfl
  | p :: r => by
    have := frs_len r
    rw [frs] at this
    rw [frs, List.flatMap_cons, List.length_append, this, frm_len, List.length_cons]; omega
theorem frs_at : ∀ (ps : List Pk) {i k : Nat}, i < ps.length → k < 20 → (frs ps).getD (20 * i + k) 0 = (frm (ps.getD i pk0)).getD k 0
  | [], _, _, h, _ => by simp at h
  | p :: r, 0, k, _, hk => by
    rw [frs, List.flatMap_cons, List.getD_eq_getElem?_getD, List.getElem?_append_left (by rw [frm_len]; omega), Nat.mul_zero, Nat.zero_add]; rfl
  | p :: r, i + 1, k, h, hk => by
    have := frs_at r (i := i) (k := k) (by simpa using h) hk
    rw [frs] at this
    rw [frs, List.flatMap_cons, List.getD_eq_getElem?_getD, List.getElem?_append_right (by rw [frm_len]; omega), frm_len, show 20 * (i + 1) + k - 20 = 20 * i + k by omega, ← List.getD_eq_getElem?_getD, this]; rfl
theorem frs_part {ps : List Pk} {i : Nat} (h : i < ps.length) : ((bys (frs ps)).drop (20 * i)).take 20 = bys (frm (ps.getD i pk0)) := by
  have hl := frs_len ps
  rw [bys, bys, ← List.map_drop, ← List.map_take]
  congr 1
  apply List.ext_getElem
  · rw [List.length_take, List.length_drop, frm_len]; omega
  · intro k h1 h2
    rw [frm_len] at h2
    have := frs_at ps h h2
    rw [List.getElem_take, List.getElem_drop]
    rw [List.getD_eq_getElem?_getD, List.getD_eq_getElem?_getD, List.getElem?_eq_getElem (by omega), List.getElem?_eq_getElem (by rw [frm_len]; exact h2)] at this
    exact this
theorem byA_at {ps : List Pk} {s k : Nat} (h : s < ps.length) (hk : k < 20) : byA (bys (frs ps)) (20 * s) k = (frm (ps.getD s pk0)).getD k 0 := by
  rw [byA, ubs_bys]; exact frs_at ps h hk
/-- All of them may be sent, and are few. -/
structure okPs (ps : List Pk) : Prop where
  ok : ∀ p ∈ ps, okPkt p
  few : ps.length ≤ 1024
theorem okPs.at_ {ps : List Pk} (h : okPs ps) {i : Nat} (hi : i < ps.length) : okPkt (ps.getD i pk0) := by
  rw [List.getD_eq_getElem?_getD, List.getElem?_eq_getElem hi]; exact h.ok _ (List.getElem_mem _)
set_option maxRecDepth 100000 in
theorem itF_ok {ps : List Pk} (c : Nat) (h : okPs ps) : IterResX Try.prog 50 cpF (hcF (bys (frs ps)) (20 * ps.length) c) ps.length elF (bxF ps) := by
  refine iterX_ok hm c0_ok (hz := hsF (bys (frs ps)) (20 * ps.length) c ps.length) ?_
  rw [itF_t]
  have hf := h.few
  intro l
  refine ⟨⟨rfl, (0 : Nat), ⟨Nat.zero_le _⟩, ⟨rfl⟩, rfl, rfl⟩, fun s hs => br_of (fun hc => br_of (fun _ => ?_) (fun h2 => ?_)) (fun hc => ?_)⟩
  · have hc : at20 s < (20 * ps.length : Nat) := by simpa using hc
    rw [at20] at hc
    have hc : s < ps.length := by omega
    have w1 : IntKind.wrap .i64 (at20 s + 20) = at20 (s + 1) := by rw [at20, at20, wrap_eq (by omega) (by omega)]; omega
    have w2 : IntKind.wrap .i64 (IntKind.wrap .i64 (at20 s + 1) + 19) = at20 (s + 1) := by rw [at20, at20, wrap_eq (x := _ + 1) (by omega) (by omega), wrap_eq (by omega) (by omega)]; omega
    have e0 : 0 + Int.toNat (at20 s) * 1 = 20 * s := by rw [at20]; omega
    have hp := h.at_ hc
    obtain ⟨p, hpp⟩ : ∃ p, p = ps.getD s pk0 := ⟨_, rfl⟩
    rw [← hpp] at hp
    have eb : [.int .u8 (byA (bys (frs ps)) (20 * s) 0), .int .u8 (byA (bys (frs ps)) (20 * s) 1), .int .u8 (byA (bys (frs ps)) (20 * s) 2), .int .u8 (byA (bys (frs ps)) (20 * s) 3), .int .u8 (byA (bys (frs ps)) (20 * s) 4), .int .u8 (byA (bys (frs ps)) (20 * s) 5), .int .u8 (byA (bys (frs ps)) (20 * s) 6), .int .u8 (byA (bys (frs ps)) (20 * s) 7), .int .u8 (byA (bys (frs ps)) (20 * s) 8), .int .u8 (byA (bys (frs ps)) (20 * s) 9), .int .u8 (byA (bys (frs ps)) (20 * s) 10), .int .u8 (byA (bys (frs ps)) (20 * s) 11), .int .u8 (byA (bys (frs ps)) (20 * s) 12), .int .u8 (byA (bys (frs ps)) (20 * s) 13), .int .u8 (byA (bys (frs ps)) (20 * s) 14), .int .u8 (byA (bys (frs ps)) (20 * s) 15), .int .u8 (byA (bys (frs ps)) (20 * s) 16), .int .u8 (byA (bys (frs ps)) (20 * s) 17), .int .u8 (byA (bys (frs ps)) (20 * s) 18), .int .u8 (byA (bys (frs ps)) (20 * s) 19)] = bys (frm p) := by
      have e : ∀ k, k < 20 → byA (bys (frs ps)) (20 * s) k = (frm p).getD k 0 := fun k hk => by rw [hpp]; exact byA_at hc hk
      rw [e 0 (by decide), e 1 (by decide), e 2 (by decide), e 3 (by decide), e 4 (by decide), e 5 (by decide), e 6 (by decide), e 7 (by decide), e 8 (by decide), e 9 (by decide), e 10 (by decide), e 11 (by decide), e 12 (by decide), e 13 (by decide), e 14 (by decide), e 15 (by decide), e 16 (by decide), e 17 (by decide), e 18 (by decide), e 19 (by decide)]; rfl
    have ed := decA_frm hp
    rw [← eb] at ed
    have el := frs_len ps
    rw [e0, w1, w2]
    refine ⟨⟨?_, ?_, ?_⟩, ⟨by decide, ?_⟩, ⟨?_⟩, ⟨p, hp, eb⟩, ⟨hc⟩, rfl, rfl, ?_, ?_⟩
    · rw [at20]; omega
    · rw [at20, at20]; omega
    · rw [at20]; omega
    · rw [at20, at20]; omega
    · rw [if_pos (by rw [bys_len]; omega), frs_part hc, ← hpp, ← eb]
    · exact congrArg (fun c => [some (AObj.row c 0 false true true)]) (ed.trans (by rw [hpp]; rfl))
    · exact ⟨⟨⟨trivial⟩, rfl, s + 1, ⟨hc⟩, ⟨by omega⟩, ⟨rfl⟩, rfl, rfl⟩, ⟨hc⟩⟩
  · have hc : at20 s < (20 * ps.length : Nat) := by simpa using hc
    have h2 := of_decide_eq_false h2
    rw [at20] at hc h2
    rw [wrap_eq (by omega) (by omega)] at h2
    omega
  · have hc : ¬ at20 s < (20 * ps.length : Nat) := by simpa using hc
    rw [at20] at hc
    exact ⟨by have := hs.out; omega⟩
/- What is received. -/
noncomputable def itX (ps : List Pk) : ItX Try.prog where
  gf := 50
  fn
    | [.pointer (some ⟨0, 0, none⟩)], [some (.row [.slice (some ⟨1, 0, none⟩) n c] 0 false false false), some (.row bs 1 true false true)] => some (ps.length, elF, bxF ps, n = 20 * ps.length ∧ bs = bys (frs ps) ∧ okPs ps)
    | _, _ => none
  ok := by
    intro cap H N el bx vc h hv
    split at h
    · cases h
      obtain ⟨rfl, rfl, h3⟩ := hv
      exact itF_ok _ h3
    · cases h
noncomputable def hRc0 : Hs Try.prog where
  au := au2
theorem fr_t (bs : List Value) (n : Nat) (c : Nat) (K : Value → Heap → Prop) :
    (fnP Try.prog c0 hRc0 (24 : FuncId) [Value.slice (some { block := (0 : Nat), off := (0 : Nat) }) n c] [some (AObj.row bs (1 : Nat) true true true)] K) =
    (K (Value.func (Fn.func (50 : Nat)) #[] #[Value.pointer (some { block := (1 : Nat), off := (0 : Nat) })]) (some (AObj.row bs (1 : Nat) true true true) :: some (AObj.row [Value.slice (some { block := (0 : Nat), off := (0 : Nat) }) n c] (0 : Nat) false true (List.all [Value.slice (some { block := (0 : Nat), off := (0 : Nat) }) n c] atom)) :: noH)) := by kernel_rfl
noncomputable def orcFr : OrcV
  | [.slice (some ⟨0, 0, none⟩) n c], [some (.row bs 1 true true true)] => some (.func (.func 50) #[] #[.pointer (some ⟨1, 0, none⟩)], [some (.row bs 1 true true true), some (.row [.slice (some ⟨0, 0, none⟩) n c] 0 false true false)], True)
  | _, _ => none
theorem okFr : OkV Try.prog 24 orcFr := by
  intro args H ret H' vc h hv
  unfold orcFr at h
  split at h
  · cases h
    refine fnP_res hm c0_ok (hs := hRc0) ?_
    show fnP Try.prog c0 hRc0 24 _ _ _
    rw [fr_t]
    exact ⟨rfl, rfl⟩
  · cases h
noncomputable def rxR (ps : List Pk) (n c : Nat) : RfX Try.prog where
  it := itX ps
  k := 4
  E := slots 65 [(5, .pointer (some ⟨1, 0, none⟩)), (6, .pointer (some ⟨2, 0, none⟩)), (14, .func (.func 50) #[] #[.pointer (some ⟨3, 0, none⟩)])]
  Hp i := [some (.row (bys (frs ps)) 1 true false true), some (.row [.slice (some ⟨4, 0, none⟩) i 0] 0 false true false), some (.row [.slice none 0 0] 0 false true true), some (.row [.slice (some ⟨0, 0, none⟩) n c] 0 false false false), some (.row (pks (ps.take i)) 5 true true true)]
noncomputable def hsRc (ps : List Pk) (n c : Nat) : Hs Try.prog where
  op y := if y = 501 then some (hCa Try.prog 24 orcFr okFr) else if y = 1105 then some (hAp Try.prog) else none
  rx y := some (rxR ps n c)
  cl y := keep 65 [5, 6, 14]
  nl y := [.cell 1 0 5]
  au := au2
theorem rc_t (ps : List Pk) (n : Nat) (c : Nat) (K : Value → Heap → Prop) :
    (fnP Try.prog c0 (hsRc ps n c) (7 : FuncId) [Value.slice (some { block := (0 : Nat), off := (0 : Nat) }) n c] [some (AObj.row (bys (frs ps)) (1 : Nat) true true true)] K) =
    (br (decide ((20480 : Int) < (↑n : Int))) (K (Value.tuple #[Value.slice none (0 : Nat) (0 : Nat), Value.slice none (0 : Nat) (0 : Nat), Value.int IntKind.i64 (26 : Int)]) (some (AObj.row (bys (frs ps)) (1 : Nat) true true true) :: noH)) (Is True ∧ [poi, poi, poi, poi, poi, Value.pointer (some { block := (1 : Nat), off := (0 : Nat) }), Value.pointer (some { block := (2 : Nat), off := (0 : Nat) }), poi, poi, poi, poi, poi, poi, poi, Value.func (Fn.func (50 : Nat)) #[] #[Value.pointer (some { block := (3 : Nat), off := (0 : Nat) })], poi, poi, poi, poi, poi, poi, poi, poi, poi, poi, poi, poi, poi, poi, poi, poi, poi, poi, poi, poi, poi, poi, poi, poi, poi, poi, poi, poi, poi, poi, poi, poi, poi, poi, poi, poi, poi, poi, poi, poi, poi, poi, poi, poi, poi, poi, poi, poi, poi, poi] = [poi, poi, poi, poi, poi, Value.pointer (some { block := (1 : Nat), off := (0 : Nat) }), Value.pointer (some { block := (2 : Nat), off := (0 : Nat) }), poi, poi, poi, poi, poi, poi, poi, Value.func (Fn.func (50 : Nat)) #[] #[Value.pointer (some { block := (3 : Nat), off := (0 : Nat) })], poi, poi, poi, poi, poi, poi, poi, poi, poi, poi, poi, poi, poi, poi, poi, poi, poi, poi, poi, poi, poi, poi, poi, poi, poi, poi, poi, poi, poi, poi, poi, poi, poi, poi, poi, poi, poi, poi, poi, poi, poi, poi, poi, poi, poi, poi, poi, poi, poi, poi] ∧ some (AObj.row (bys (frs ps)) (1 : Nat) true false true) :: some (AObj.row [Value.slice (some { block := (4 : Nat), off := (0 : Nat) }) (0 : Nat) (0 : Nat)] (0 : Nat) false true false) :: some (AObj.row [Value.slice none (0 : Nat) (0 : Nat)] (0 : Nat) false true true) :: some (AObj.row [Value.slice (some { block := (0 : Nat), off := (0 : Nat) }) n c] (0 : Nat) false false false) :: some (AObj.row [] (5 : Nat) true true true) :: noH = some (AObj.row (bys (frs ps)) (1 : Nat) true false true) :: some (AObj.row [Value.slice (some { block := (4 : Nat), off := (0 : Nat) }) (0 : Nat) (0 : Nat)] (0 : Nat) false true false) :: some (AObj.row [Value.slice none (0 : Nat) (0 : Nat)] (0 : Nat) false true true) :: some (AObj.row [Value.slice (some { block := (0 : Nat), off := (0 : Nat) }) n c] (0 : Nat) false false false) :: some (AObj.row [] (5 : Nat) true true true) :: noH ∧ [poi, poi, poi, poi, poi, Value.pointer (some { block := (1 : Nat), off := (0 : Nat) }), Value.pointer (some { block := (2 : Nat), off := (0 : Nat) }), poi, poi, poi, poi, poi, poi, poi, Value.func (Fn.func (50 : Nat)) #[] #[Value.pointer (some { block := (3 : Nat), off := (0 : Nat) })], poi, poi, poi, poi, poi, poi, poi, poi, poi, poi, poi, poi, poi, poi, poi, poi, poi, poi, poi, poi, poi, poi, poi, poi, poi, poi, poi, poi, poi, poi, poi, poi, poi, poi, poi, poi, poi, poi, poi, poi, poi, poi, poi, poi, poi, poi, poi, poi, poi, poi] = [poi, poi, poi, poi, poi, Value.pointer (some { block := (1 : Nat), off := (0 : Nat) }), Value.pointer (some { block := (2 : Nat), off := (0 : Nat) }), poi, poi, poi, poi, poi, poi, poi, Value.func (Fn.func (50 : Nat)) #[] #[Value.pointer (some { block := (3 : Nat), off := (0 : Nat) })], poi, poi, poi, poi, poi, poi, poi, poi, poi, poi, poi, poi, poi, poi, poi, poi, poi, poi, poi, poi, poi, poi, poi, poi, poi, poi, poi, poi, poi, poi, poi, poi, poi, poi, poi, poi, poi, poi, poi, poi, poi, poi, poi, poi, poi, poi, poi, poi, poi, poi] ∧ Is (n = (20 : Nat) * List.length ps ∧ bys (frs ps) = bys (frs ps) ∧ okPs ps) ∧ Is True ∧ (∀ (i : Nat), Is True → Is (i < List.length ps) → Is True ∧ Is True ∧ Is (List.length (pks (List.take i ps)) = i * (5 : Nat) ∧ (i + (1 : Nat)) * (32 : Nat) ≤ (140737488355328 : Nat) ∧ i + (1 : Nat) ≤ (9223372036854775807 : Nat)) ∧ some (AObj.row (bys (frs ps)) (1 : Nat) true false true) :: some (AObj.row [Value.slice (some { block := (4 : Nat), off := (0 : Nat) }) (i + (1 : Nat)) (0 : Nat)] (0 : Nat) false true (false && List.all [Value.slice (some { block := (7 : Nat), off := (0 : Nat) }) (i + (1 : Nat)) (0 : Nat)] atom)) :: some (AObj.row [Value.slice none (0 : Nat) (0 : Nat)] (0 : Nat) false true true) :: some (AObj.row [Value.slice (some { block := (0 : Nat), off := (0 : Nat) }) n c] (0 : Nat) false false false) :: some (AObj.row (pks (List.take i ps) ++ [Value.int IntKind.i64 (Pk.s (List.getD ps i pk0)), Value.int IntKind.i64 (Pk.c (List.getD ps i pk0)), Value.float FloatKind.f32 (Pk.x (List.getD ps i pk0)), Value.float FloatKind.f32 (Pk.y (List.getD ps i pk0)), Value.float FloatKind.f32 (Pk.z (List.getD ps i pk0))]) (5 : Nat) true true (List.all [Value.int IntKind.i64 (Pk.s (List.getD ps i pk0)), Value.int IntKind.i64 (Pk.c (List.getD ps i pk0)), Value.float FloatKind.f32 (Pk.x (List.getD ps i pk0)), Value.float FloatKind.f32 (Pk.y (List.getD ps i pk0)), Value.float FloatKind.f32 (Pk.z (List.getD ps i pk0))] atom)) :: noH = some (AObj.row (bys (frs ps)) (1 : Nat) true false true) :: some (AObj.row [Value.slice (some { block := (4 : Nat), off := (0 : Nat) }) (i + (1 : Nat)) (0 : Nat)] (0 : Nat) false true false) :: some (AObj.row [Value.slice none (0 : Nat) (0 : Nat)] (0 : Nat) false true true) :: some (AObj.row [Value.slice (some { block := (0 : Nat), off := (0 : Nat) }) n c] (0 : Nat) false false false) :: some (AObj.row (pks (List.take (i + (1 : Nat)) ps)) (5 : Nat) true true true) :: noH ∧ Is True) ∧ (Is True → K (Value.tuple #[Value.slice (some { block := (1 : Nat), off := (0 : Nat) }) (List.length ps) (0 : Nat), Value.slice none (0 : Nat) (0 : Nat), Value.int IntKind.i64 (0 : Int)]) (some (AObj.row (bys (frs ps)) (1 : Nat) true false true) :: some (AObj.row (pks (List.take (List.length ps) ps)) (5 : Nat) true true true) :: noH)) ∧ ∀ (s : Empty), Is False → False)) := by kernel_rfl
theorem pks_step {ps : List Pk} {i : Nat} (h : i < ps.length) : pks (ps.take (i + 1)) = pks (ps.take i) ++ pkA (ps.getD i pk0) := by
  rw [List.take_add_one, List.getElem?_eq_getElem h, List.getD_eq_getElem?_getD, List.getElem?_eq_getElem h, pks, List.flatMap_append, pks]
  simp
theorem pks_len (ps : List Pk) : (pks ps).length = ps.length * 5 := by
  induction ps with
  | nil => rfl
  | cons p r ih => rw [pks] at ih; rw [pks, List.flatMap_cons, List.length_append, ih, List.length_cons, pkA]; simp only [List.length_cons, List.length_nil]; omega
theorem kill0 {P : Program} {f : FuncId} {args : List Value} {H : Heap} {ret : Value} {o : Option AObj} {t : Heap} (h : SmallRes P f args H ret (o :: t)) : SmallRes P f args H ret (none :: t) := by
  intro F A ψ w args' h1 h2 h3 h4 h5
  refine (h F A ψ w args' h1 h2 h3 h4 h5).mono ?_
  rintro e w' ⟨v', A', ψ', q1, q2, q3, q4⟩
  exact ⟨v', A', ψ', q1, q2.kill 0, q3, q4⟩
noncomputable def orcRc (ps : List Pk) : OrcV
  | [.slice (some ⟨0, 0, none⟩) n _], [some (.row bs 1 true true true)] =>
    some (.tuple #[.slice (some ⟨1, 0, none⟩) ps.length 0, .slice none 0 0, .int .i64 0], [none, some (.row (pks ps) 5 true true true)], n = 20 * ps.length ∧ bs = bys (frs ps) ∧ okPs ps)
  | _, _ => none
theorem okRc (ps : List Pk) : OkV Try.prog 7 (orcRc ps) := by
  intro args H ret H' vc h hv
  unfold orcRc at h
  split at h
  · rename_i n c bs
    cases h
    obtain ⟨rfl, rfl, hp⟩ := hv
    have hf := hp.few
    refine kill0 (o := some (.row (bys (frs ps)) 1 true false true)) (fnP_res hm c0_ok (hs := hsRc ps (20 * ps.length) c) ?_)
    show fnP Try.prog c0 (hsRc ps (20 * ps.length) c) 7 _ _ _
    rw [rc_t]
    refine br_of (fun h => by have := of_decide_eq_true h; omega) (fun _ => ?_)
    refine ⟨⟨trivial⟩, rfl, rfl, rfl, ⟨rfl, rfl, hp⟩, ⟨trivial⟩, fun i _ hi => ?_, fun _ => ?_, fun s => nomatch s⟩
    · have hi := hi.out
      refine ⟨⟨trivial⟩, ⟨trivial⟩, ⟨by rw [pks_len, List.length_take]; omega, by omega, by omega⟩, ?_, ⟨trivial⟩⟩
      rw [pks_step hi]; rfl
    · rw [List.take_length]; exact ⟨rfl, rfl⟩
  · cases h
end
end Qq
end
section
/- The counters that are lost. -/
open Go Go.Vm Go.Proofs Sp
namespace Sp
noncomputable section
/-- The parts of the packet that lies at a place. -/
def oS (ps : List Pk) (off : Nat) : Int := (ps.getD (off / 5) Qq.pk0).s
def oC (ps : List Pk) (off : Nat) : Int := (ps.getD (off / 5) Qq.pk0).c
def oX (ps : List Pk) (off : Nat) : Nat := (ps.getD (off / 5) Qq.pk0).x
def oY (ps : List Pk) (off : Nat) : Nat := (ps.getD (off / 5) Qq.pk0).y
def oZ (ps : List Pk) (off : Nat) : Nat := (ps.getD (off / 5) Qq.pk0).z
/-- A counter; what lies between two counters, the first so many of it; what lies between the first so many counters. -/
def cAt (ps : List Pk) (k : Nat) : Int := (ps.getD k Qq.pk0).c
def gapN (a : Int) (j : Nat) : List Int := (List.range j).map fun k : Nat => a + 1 + (k : Int)
def lsN (ps : List Pk) : Nat → List Int
  | 0 => []
  | 1 => []
  | i + 2 => lsN ps (i + 1) ++ gapN (cAt ps i) (cAt ps (i + 1) - cAt ps i - 1).toNat
/-- What lies between the first i counters, and so much behind. -/
def lsJ (ps : List Pk) (i j : Nat) : List Int := lsN ps i ++ gapN (cAt ps (i - 1)) j
/-- How many these are; the counter next to be told. -/
def lnN (ps : List Pk) (i : Nat) : Nat := (lsN ps i).length
def lnJ (ps : List Pk) (i j : Nat) : Nat := (lsJ ps i j).length
def ctJ (ps : List Pk) (i j : Nat) : Int := cAt ps (i - 1) + 1 + (j : Int)
noncomputable def eqP (s : Int) (x y z : Nat) (src : Int) : Prop := s = src ∧ fEq x x = true ∧ fEq y y = true ∧ fEq z z = true
end
end Sp
namespace Qq
noncomputable section
noncomputable def rwP (ps : List Pk) (m w : Bool) : Option AObj := some (.row (pks ps) 5 m w true)
noncomputable def gPk (ps : List Pk) (off : Nat) : Value := .agg #[.int .i64 (oS ps off), .int .i64 (oC ps off), .float .f32 (oX ps off), .float .f32 (oY ps off), .float .f32 (oZ ps off)]
noncomputable def lpM0 (ps : List Pk) (n c : Nat) (m w : Bool) : Lp where
  σ := Nat
  E _ := slots 22 [(0, .slice (some ⟨0, 0, none⟩) n c), (1, .func (.func 19) #[] #[]), (5, .slice (some ⟨1, 0, none⟩) 0 0)]
  Hp _ := [rwP ps m w, some (.row [] 1 true true true)]
  I s := s = 0
  m _ := 0
noncomputable def lpMp (ps : List Pk) (n c : Nat) (m w : Bool) : Lp where
  σ := Nat
  E i := slots 22 [(1, .func (.func 19) #[] #[]), (5, .slice (some ⟨1, 0, none⟩) i 0), (8, .slice (some ⟨0, 0, none⟩) n c), (9, .int .i64 (Int.ofNat n)), (10, .int .i64 (Int.ofNat i))]
  Hp i := [rwP ps m w, some (.row (ints ((ps.take i).map pkE)) 1 true true true)]
  I i := i ≤ n
  m i := n - i
noncomputable def hsMp (ps : List Pk) (n c : Nat) (m w : Bool) : Hs Try.prog where
  op y := if y = 400 then some (hIa Try.prog) else if y = 401 then some (hLd Try.prog (gPk ps)) else if y = 503 then some (hCa Try.prog 19 orcPk okPk) else if y = 505 then some (hAp Try.prog) else none
  cut y := if y = 2 then some (lpM0 ps n c m w) else none
  lp _ := some (lpMp ps n c m w)
  cl y := if y = 2 then keep 22 [0, 1, 5] else keep 22 [1, 5, 8, 9, 10]
  nl y := if y = 2 then [.slot 5 1] else []
  au := au2
theorem mp_t (ps : List Pk) (n : Nat) (c : Nat) (m : Bool) (w : Bool) (K : Value → Heap → Prop) :
    (fnP Try.prog c0 (hsMp ps n c m w) (26 : FuncId) [Value.slice (some { block := (0 : Nat), off := (0 : Nat) }) n c, Value.func (Fn.func (19 : FuncId)) #[] #[]] [rwP ps m w] K) =
    ((∃ (s : Nat), Is (s = (0 : Nat)) ∧ [Value.slice (some { block := (0 : Nat), off := (0 : Nat) }) n c, Value.func (Fn.func (19 : Nat)) #[] #[], poi, poi, poi, Value.slice (some { block := (1 : Nat), off := (0 : Nat) }) (0 : Nat) (0 : Nat), poi, poi, poi, poi, poi, poi, poi, poi, poi, poi, poi, poi, poi, poi, poi, poi] = [Value.slice (some { block := (0 : Nat), off := (0 : Nat) }) n c, Value.func (Fn.func (19 : Nat)) #[] #[], poi, poi, poi, Value.slice (some { block := (1 : Nat), off := (0 : Nat) }) (0 : Nat) (0 : Nat), poi, poi, poi, poi, poi, poi, poi, poi, poi, poi, poi, poi, poi, poi, poi, poi] ∧ some (AObj.row (pks ps) (5 : Nat) m w true) :: some (AObj.row [] (1 : Nat) true true true) :: noH = some (AObj.row (pks ps) (5 : Nat) m w true) :: some (AObj.row [] (1 : Nat) true true true) :: noH) ∧ ∀ (s : Nat), Is (s = (0 : Nat)) → (∃ (s : Nat), Is (s ≤ n) ∧ [poi, Value.func (Fn.func (19 : Nat)) #[] #[], poi, poi, poi, Value.slice (some { block := (1 : Nat), off := (0 : Nat) }) (0 : Nat) (0 : Nat), poi, poi, Value.slice (some { block := (0 : Nat), off := (0 : Nat) }) n c, Value.int IntKind.i64 (↑n : Int), Value.int IntKind.i64 (0 : Int), poi, poi, poi, poi, poi, poi, poi, poi, poi, poi, poi] = [poi, Value.func (Fn.func (19 : Nat)) #[] #[], poi, poi, poi, Value.slice (some { block := (1 : Nat), off := (0 : Nat) }) s (0 : Nat), poi, poi, Value.slice (some { block := (0 : Nat), off := (0 : Nat) }) n c, Value.int IntKind.i64 (↑n : Int), Value.int IntKind.i64 (↑s : Int), poi, poi, poi, poi, poi, poi, poi, poi, poi, poi, poi] ∧ some (AObj.row (pks ps) (5 : Nat) m w true) :: some (AObj.row [] (1 : Nat) true true true) :: noH = some (AObj.row (pks ps) (5 : Nat) m w true) :: some (AObj.row (ints (List.map pkE (List.take s ps))) (1 : Nat) true true true) :: noH) ∧ ∀ (s : Nat), Is (s ≤ n) → br (decide ((↑s : Int) < (↑n : Int))) (Is ((0 : Int) ≤ (↑s : Int) ∧ (↑s : Int) < (↑n : Int)) ∧ Is ((if (0 : Nat) + Int.toNat (↑s : Int) * (5 : Nat) + (5 : Nat) ≤ List.length (pks ps) then some (Value.agg (List.toArray (List.take (5 : Nat) (List.drop ((0 : Nat) + Int.toNat (↑s : Int) * (5 : Nat)) (pks ps))))) else none) = some (Value.agg #[Value.int IntKind.i64 (oS ps ((0 : Nat) + Int.toNat (↑s : Int) * (5 : Nat))), Value.int IntKind.i64 (oC ps ((0 : Nat) + Int.toNat (↑s : Int) * (5 : Nat))), Value.float FloatKind.f32 (oX ps ((0 : Nat) + Int.toNat (↑s : Int) * (5 : Nat))), Value.float FloatKind.f32 (oY ps ((0 : Nat) + Int.toNat (↑s : Int) * (5 : Nat))), Value.float FloatKind.f32 (oZ ps ((0 : Nat) + Int.toNat (↑s : Int) * (5 : Nat)))])) ∧ Is True ∧ Is (List.length (ints (List.map pkE (List.take s ps))) = s * (1 : Nat) ∧ (s + (1 : Nat)) * (8 : Nat) ≤ (140737488355328 : Nat) ∧ s + (1 : Nat) ≤ (9223372036854775807 : Nat)) ∧ ∃ (s' : Nat), Is (s' ≤ n) ∧ Is (n - s' < n - s) ∧ [poi, Value.func (Fn.func (19 : Nat)) #[] #[], poi, poi, poi, Value.slice (some { block := (1 : Nat), off := (0 : Nat) }) (s + (1 : Nat)) (0 : Nat), poi, poi, Value.slice (some { block := (0 : Nat), off := (0 : Nat) }) n c, Value.int IntKind.i64 (↑n : Int), Value.int IntKind.i64 (IntKind.wrap IntKind.i64 ((↑s : Int) + (1 : Int))), poi, poi, poi, poi, poi, poi, poi, poi, poi, poi, poi] = [poi, Value.func (Fn.func (19 : Nat)) #[] #[], poi, poi, poi, Value.slice (some { block := (1 : Nat), off := (0 : Nat) }) s' (0 : Nat), poi, poi, Value.slice (some { block := (0 : Nat), off := (0 : Nat) }) n c, Value.int IntKind.i64 (↑n : Int), Value.int IntKind.i64 (↑s' : Int), poi, poi, poi, poi, poi, poi, poi, poi, poi, poi, poi] ∧ some (AObj.row (pks ps) (5 : Nat) m w true) :: some (AObj.row (ints (List.map pkE (List.take s ps)) ++ [Value.int IntKind.i64 (pkI (oS ps ((0 : Nat) + Int.toNat (↑s : Int) * (5 : Nat))) (oC ps ((0 : Nat) + Int.toNat (↑s : Int) * (5 : Nat))) (oX ps ((0 : Nat) + Int.toNat (↑s : Int) * (5 : Nat))) (oY ps ((0 : Nat) + Int.toNat (↑s : Int) * (5 : Nat))) (oZ ps ((0 : Nat) + Int.toNat (↑s : Int) * (5 : Nat))))]) (1 : Nat) true true (List.all [Value.int IntKind.i64 (pkI (oS ps ((0 : Nat) + Int.toNat (↑s : Int) * (5 : Nat))) (oC ps ((0 : Nat) + Int.toNat (↑s : Int) * (5 : Nat))) (oX ps ((0 : Nat) + Int.toNat (↑s : Int) * (5 : Nat))) (oY ps ((0 : Nat) + Int.toNat (↑s : Int) * (5 : Nat))) (oZ ps ((0 : Nat) + Int.toNat (↑s : Int) * (5 : Nat))))] atom)) :: noH = some (AObj.row (pks ps) (5 : Nat) m w true) :: some (AObj.row (ints (List.map pkE (List.take s' ps))) (1 : Nat) true true true) :: noH) (K (Value.slice (some { block := (1 : Nat), off := (0 : Nat) }) s (0 : Nat)) (some (AObj.row (pks ps) (5 : Nat) m w true) :: some (AObj.row (ints (List.map pkE (List.take s ps))) (1 : Nat) true true true) :: noH))) := by kernel_rfl
theorem pks_cons (p : Pk) (r : List Pk) : pks (p :: r) = pkA p ++ pks r := by rw [pks, List.flatMap_cons]; rfl
theorem pks_at : ∀ (ps : List Pk) {i k : Nat}, i < ps.length → k < 5 → (pks ps)[i * 5 + k]? = (pkA (ps.getD i pk0))[k]?
  | [], _, _, h, _ => by simp at h
  | p :: r, 0, k, _, hk => by
    rw [pks_cons, Nat.zero_mul, Nat.zero_add, List.getElem?_append_left (by show k < 5; exact hk)]; rfl
  | p :: r, i + 1, k, h, hk => by
    have := pks_at r (i := i) (k := k) (by simpa using h) hk
    rw [pks_cons, List.getElem?_append_right (by show 5 ≤ _; omega), show (i + 1) * 5 + k - (pkA p).length = i * 5 + k from (by show (i + 1) * 5 + k - 5 = _; omega), this]; rfl
theorem pks_part {ps : List Pk} {i : Nat} (h : i < ps.length) : ((pks ps).drop (i * 5)).take 5 = pkA (ps.getD i pk0) := by
  apply List.ext_getElem?
  intro k
  rw [List.getElem?_take]
  by_cases hk : k < 5
  · rw [if_pos hk, List.getElem?_drop, pks_at ps h hk]
  · rw [if_neg hk, List.getElem?_eq_none (by show 5 ≤ k; omega)]
theorem pk_ld {ps : List Pk} {s : Nat} (h : s < ps.length) : (if 0 + s * 5 + 5 ≤ (pks ps).length then some (Value.agg (((pks ps).drop (0 + s * 5)).take 5).toArray) else none) = some (gPk ps (0 + s * 5)) := by
  rw [pks_len, Nat.zero_add, if_pos (by omega), pks_part h, gPk, oS, oC, oX, oY, oZ, Nat.mul_div_cancel _ (by decide : 0 < 5)]; rfl
theorem map_step {ps : List Pk} {s : Nat} (h : s < ps.length) : ints ((ps.take (s + 1)).map pkE) = ints ((ps.take s).map pkE) ++ [.int .i64 (pkE (ps.getD s pk0))] := by
  rw [List.take_add_one, List.getElem?_eq_getElem h, List.getD_eq_getElem?_getD, List.getElem?_eq_getElem h, List.map_append, ints, List.map_append]; rfl
noncomputable def orcMp (ps : List Pk) : OrcV
  | [.slice (some ⟨0, 0, none⟩) n _, .func (.func 19) ⟨[]⟩ ⟨[]⟩], [some (.row cs 5 m w true)] => some (.slice (some ⟨1, 0, none⟩) n 0, [some (.row cs 5 m w true), some (.row (ints (ps.map pkE)) 1 true true true)], cs = pks ps ∧ n = ps.length ∧ n ≤ 1024)
  | _, _ => none
theorem okMp (ps : List Pk) : OkV Try.prog 26 (orcMp ps) := by
  intro args H ret H' vc h hv
  unfold orcMp at h
  split at h
  · rename_i n c cs m w
    cases h
    obtain ⟨rfl, rfl, h9⟩ := hv
    refine fnP_res hm c0_ok (hs := hsMp ps ps.length c m w) ?_
    show fnP Try.prog c0 (hsMp ps ps.length c m w) 26 _ [rwP ps m w] _
    rw [mp_t]
    refine ⟨⟨(0 : Nat), ⟨rfl⟩, rfl, rfl⟩, fun _ _ => ⟨⟨(0 : Nat), ⟨Nat.zero_le _⟩, rfl, rfl⟩, fun s hs => br_of (fun hc => ?_) (fun hc => ?_)⟩⟩
    · have hc := lt_of_dec hc
      simp only [Int.toNat_natCast]
      refine ⟨⟨by omega, by omega⟩, ⟨pk_ld hc⟩, ⟨trivial⟩, ⟨by rw [ints, List.length_map, List.length_map, List.length_take]; omega, by omega, by omega⟩, s + 1, ⟨hc⟩, ⟨by omega⟩, by rw [up1 hc (by omega)], ?_⟩
      rw [map_step hc, oS, oC, oX, oY, oZ, Nat.zero_add, Nat.mul_div_cancel _ (by decide : 0 < 5)]; rfl
    · have hc := ge_of_dec hc
      have : s = ps.length := by have := hs.out; omega
      subst this
      rw [List.take_length]; exact ⟨rfl, rfl⟩
  · cases h
/- Whether a packet is of another source: it is not. -/
noncomputable def orcL1 : OrcV
  | [.agg ⟨[.int .i64 s, .int .i64 _, .float .f32 x, .float .f32 y, .float .f32 z]⟩, .pointer (some ⟨0, 0, none⟩)], [some (.row [.int .i64 src] 0 m w true)] => some (.bool false, [some (.row [.int .i64 src] 0 m w true)], eqP s x y z src)
  | _, _ => none
theorem l1v_t (s : Int) (c : Int) (src : Int) (x : Nat) (y : Nat) (z : Nat) (m : Bool) (w : Bool) (K : Value → Heap → Prop) :
    (fnP Try.prog c0 hX0 (30 : FuncId) [Value.agg #[Value.int IntKind.i64 s, Value.int IntKind.i64 c, Value.float FloatKind.f32 x, Value.float FloatKind.f32 y, Value.float FloatKind.f32 z], Value.pointer (some { block := (0 : Nat), off := (0 : Nat) })] [some (AObj.row [Value.int IntKind.i64 src] (0 : Nat) m w true)] K) =
    (Is True ∧ K (Value.bool !(s == src && (c == c && (Sp.fEq x x && (Sp.fEq y y && (Sp.fEq z z && true)) && true)))) (some (AObj.row [Value.int IntKind.i64 src] (0 : Nat) m w true) :: noH)) := by kernel_rfl
theorem okL1 : OkV Try.prog 30 orcL1 := by
  intro args H ret H' vc h hv
  unfold orcL1 at h
  split at h
  · cases h
    obtain ⟨rfl, h1, h2, h3⟩ := hv
    refine fnP_res hm c0_ok (hs := hX0) ?_
    show fnP Try.prog c0 hX0 30 _ _ _
    rw [l1v_t, h1, h2, h3]
    refine ⟨⟨trivial⟩, ?_, rfl⟩
    simp
  · cases h
noncomputable def bxS (src : Int) : Option AObj := some (.row [.int .i64 src] 0 false true true)
noncomputable def lpIf (ps : List Pk) (n c : Nat) (m w : Bool) (src : Int) : Lp where
  σ := Nat
  E i := slots 19 [(0, .slice (some ⟨0, 0, none⟩) n c), (1, .func (.func 30) #[] #[.pointer (some ⟨1, 0, none⟩)]), (7, .int .i64 (Int.ofNat n)), (8, .int .i64 (Int.ofNat i))]
  Hp _ := [rwP ps m w, bxS src]
  I i := i ≤ n
  m i := n - i
noncomputable def hsIf (ps : List Pk) (n c : Nat) (m w : Bool) (src : Int) : Hs Try.prog where
  op y := if y = 403 then some (hIa Try.prog) else if y = 404 then some (hLd Try.prog (gPk ps)) else if y = 405 then some (hCa Try.prog 30 orcL1 okL1) else none
  lp _ := some (lpIf ps n c m w src)
  cl _ := keep 19 [0, 1, 7, 8]
  au := au2
theorem if_t (ps : List Pk) (n : Nat) (c : Nat) (m : Bool) (w : Bool) (src : Int) (K : Value → Heap → Prop) :
    (fnP Try.prog c0 (hsIf ps n c m w src) (52 : FuncId) [Value.slice (some { block := (0 : Nat), off := (0 : Nat) }) n c, Value.func (Fn.func (30 : FuncId)) #[] #[Value.pointer (some { block := (1 : Nat), off := (0 : Nat) })]] [rwP ps m w, bxS src] K) =
    ((∃ (s : Nat), Is (s ≤ n) ∧ [Value.slice (some { block := (0 : Nat), off := (0 : Nat) }) n c, Value.func (Fn.func (30 : Nat)) #[] #[Value.pointer (some { block := (1 : Nat), off := (0 : Nat) })], poi, poi, poi, poi, poi, Value.int IntKind.i64 (↑n : Int), Value.int IntKind.i64 (0 : Int), poi, poi, poi, poi, poi, poi, poi, poi, poi, poi] = [Value.slice (some { block := (0 : Nat), off := (0 : Nat) }) n c, Value.func (Fn.func (30 : Nat)) #[] #[Value.pointer (some { block := (1 : Nat), off := (0 : Nat) })], poi, poi, poi, poi, poi, Value.int IntKind.i64 (↑n : Int), Value.int IntKind.i64 (↑s : Int), poi, poi, poi, poi, poi, poi, poi, poi, poi, poi] ∧ some (AObj.row (pks ps) (5 : Nat) m w true) :: some (AObj.row [Value.int IntKind.i64 src] (0 : Nat) false true true) :: noH = some (AObj.row (pks ps) (5 : Nat) m w true) :: some (AObj.row [Value.int IntKind.i64 src] (0 : Nat) false true true) :: noH) ∧ ∀ (s : Nat), Is (s ≤ n) → br (decide ((↑s : Int) < (↑n : Int))) (Is ((0 : Int) ≤ (↑s : Int) ∧ (↑s : Int) < (↑n : Int)) ∧ Is ((if (0 : Nat) + Int.toNat (↑s : Int) * (5 : Nat) + (5 : Nat) ≤ List.length (pks ps) then some (Value.agg (List.toArray (List.take (5 : Nat) (List.drop ((0 : Nat) + Int.toNat (↑s : Int) * (5 : Nat)) (pks ps))))) else none) = some (Value.agg #[Value.int IntKind.i64 (oS ps ((0 : Nat) + Int.toNat (↑s : Int) * (5 : Nat))), Value.int IntKind.i64 (oC ps ((0 : Nat) + Int.toNat (↑s : Int) * (5 : Nat))), Value.float FloatKind.f32 (oX ps ((0 : Nat) + Int.toNat (↑s : Int) * (5 : Nat))), Value.float FloatKind.f32 (oY ps ((0 : Nat) + Int.toNat (↑s : Int) * (5 : Nat))), Value.float FloatKind.f32 (oZ ps ((0 : Nat) + Int.toNat (↑s : Int) * (5 : Nat)))])) ∧ Is (eqP (oS ps ((0 : Nat) + Int.toNat (↑s : Int) * (5 : Nat))) (oX ps ((0 : Nat) + Int.toNat (↑s : Int) * (5 : Nat))) (oY ps ((0 : Nat) + Int.toNat (↑s : Int) * (5 : Nat))) (oZ ps ((0 : Nat) + Int.toNat (↑s : Int) * (5 : Nat))) src) ∧ ∃ (s' : Nat), Is (s' ≤ n) ∧ Is (n - s' < n - s) ∧ [Value.slice (some { block := (0 : Nat), off := (0 : Nat) }) n c, Value.func (Fn.func (30 : Nat)) #[] #[Value.pointer (some { block := (1 : Nat), off := (0 : Nat) })], poi, poi, poi, poi, poi, Value.int IntKind.i64 (↑n : Int), Value.int IntKind.i64 (IntKind.wrap IntKind.i64 ((↑s : Int) + (1 : Int))), poi, poi, poi, poi, poi, poi, poi, poi, poi, poi] = [Value.slice (some { block := (0 : Nat), off := (0 : Nat) }) n c, Value.func (Fn.func (30 : Nat)) #[] #[Value.pointer (some { block := (1 : Nat), off := (0 : Nat) })], poi, poi, poi, poi, poi, Value.int IntKind.i64 (↑n : Int), Value.int IntKind.i64 (↑s' : Int), poi, poi, poi, poi, poi, poi, poi, poi, poi, poi] ∧ some (AObj.row (pks ps) (5 : Nat) m w true) :: some (AObj.row [Value.int IntKind.i64 src] (0 : Nat) false true true) :: noH = some (AObj.row (pks ps) (5 : Nat) m w true) :: some (AObj.row [Value.int IntKind.i64 src] (0 : Nat) false true true) :: noH) (K (Value.int IntKind.i64 (-1 : Int)) (some (AObj.row (pks ps) (5 : Nat) m w true) :: some (AObj.row [Value.int IntKind.i64 src] (0 : Nat) false true true) :: noH))) := by kernel_rfl
/-- All packets are of one source, and come in the order of their counters, which are small. -/
structure okLs (ps : List Pk) (src : Int) : Prop where
  ok : okPs ps
  eq : ∀ i, i < ps.length → eqP (ps.getD i pk0).s (ps.getD i pk0).x (ps.getD i pk0).y (ps.getD i pk0).z src
  up : ∀ i, i + 1 < ps.length → cAt ps i < cAt ps (i + 1)
  lo : ∀ i, i < ps.length → 0 ≤ cAt ps i ∧ cAt ps i ≤ 200
  rs : 0 ≤ src ∧ src ≤ 255
noncomputable def orcIf (ps : List Pk) : OrcV
  | [.slice (some ⟨0, 0, none⟩) n _, .func (.func 30) ⟨[]⟩ ⟨[.pointer (some ⟨1, 0, none⟩)]⟩], [some (.row cs 5 m w true), some (.row [.int .i64 src] 0 false true true)] => some (.int .i64 (-1), [some (.row cs 5 m w true), some (.row [.int .i64 src] 0 false true true)], cs = pks ps ∧ n = ps.length ∧ okLs ps src)
  | _, _ => none
theorem okIf (ps : List Pk) : OkV Try.prog 52 (orcIf ps) := by
  intro args H ret H' vc h hv
  unfold orcIf at h
  split at h
  · rename_i n c cs m w src
    cases h
    obtain ⟨rfl, rfl, hL⟩ := hv
    have h9 := hL.ok.few
    refine fnP_res hm c0_ok (hs := hsIf ps ps.length c m w src) ?_
    show fnP Try.prog c0 (hsIf ps ps.length c m w src) 52 _ [rwP ps m w, bxS src] _
    rw [if_t]
    refine ⟨⟨(0 : Nat), ⟨Nat.zero_le _⟩, rfl, rfl⟩, fun s hs => br_of (fun hc => ?_) (fun hc => ⟨rfl, rfl⟩)⟩
    have hc := lt_of_dec hc
    have := hL.eq s hc
    have e : (0 + s * 5) / 5 = s := by omega
    simp only [Int.toNat_natCast]
    refine ⟨⟨by omega, by omega⟩, ⟨pk_ld hc⟩, ⟨?_⟩, s + 1, ⟨hc⟩, ⟨by omega⟩, by rw [up1 hc (by omega)], by first | trivial | rfl⟩
    rw [oS, oX, oY, oZ, e]; exact this
  · cases h
noncomputable def hsDf (ps : List Pk) : Hs Try.prog where
  op y := if y = 102 then some (hCa Try.prog 52 (orcIf ps) (okIf ps)) else none
  au := au2
theorem df_t (ps : List Pk) (n : Nat) (c : Nat) (src : Int) (K : Value → Heap → Prop) :
    (fnP Try.prog c0 (hsDf ps) (28 : FuncId) [Value.slice (some { block := (0 : Nat), off := (0 : Nat) }) n c, Value.func (Fn.func (30 : FuncId)) #[] #[Value.pointer (some { block := (1 : Nat), off := (0 : Nat) })]] [some (AObj.row (pks ps) (5 : Nat) true true true), bxS src] K) =
    (Is (pks ps = pks ps ∧ n = List.length ps ∧ okLs ps src) ∧ K (Value.slice (some { block := (0 : Nat), off := (0 : Nat) }) n c) (some (AObj.row (pks ps) (5 : Nat) true true true) :: some (AObj.row [Value.int IntKind.i64 src] (0 : Nat) false true true) :: noH)) := by kernel_rfl
noncomputable def orcDf (ps : List Pk) : OrcV
  | [.slice (some ⟨0, 0, none⟩) n c, .func (.func 30) ⟨[]⟩ ⟨[.pointer (some ⟨1, 0, none⟩)]⟩], [some (.row cs 5 true true true), some (.row [.int .i64 src] 0 false true true)] => some (.slice (some ⟨0, 0, none⟩) n c, [some (.row cs 5 true true true), some (.row [.int .i64 src] 0 false true true)], cs = pks ps ∧ n = ps.length ∧ okLs ps src)
  | _, _ => none
theorem okDf (ps : List Pk) : OkV Try.prog 28 (orcDf ps) := by
  intro args H ret H' vc h hv
  unfold orcDf at h
  split at h
  · rename_i n c cs src
    cases h
    obtain ⟨rfl, rfl, hL⟩ := hv
    refine fnP_res hm c0_ok (hs := hsDf ps) ?_
    show fnP Try.prog c0 (hsDf ps) 28 _ [some (.row (pks ps) 5 true true true), bxS src] _
    rw [df_t]
    exact ⟨⟨rfl, rfl, hL⟩, rfl, rfl⟩
  · cases h
noncomputable def hsCl5 : Hs Try.prog where
  op y := if y = 302 then some (hAe Try.prog true) else none
  nd y := if y = 101 then some (hNil Try.prog) else none
  rn := [.slot 0 5]
theorem cl50_t (d : Nat) (m : Bool) (w : Bool) (K : Value → Heap → Prop) :
    (fnP Try.prog c0 hsCl5 (29 : FuncId) [Value.slice (some { block := (0 : Nat), off := (0 : Nat) }) (0 : Nat) d] [some (AObj.row [] (5 : Nat) m w true)] K) =
    (∀ (x : Bool), Is (x = true → (0 : Nat) = (0 : Nat)) → br x (K (Value.slice (some { block := (1 : Nat), off := (0 : Nat) }) (0 : Nat) (0 : Nat)) (some (AObj.row [] (5 : Nat) m w true) :: some (AObj.row [] (5 : Nat) true true true) :: noH)) (Is ((0 : Nat) = (0 : Nat) ∧ (∀ (v : Value), v ∈ [] → atom v = true) ∧ (0 : Nat) ≤ (140737488355328 : Nat) ∧ (0 : Nat) ≤ (9223372036854775807 : Nat)) ∧ K (Value.slice (some { block := (1 : Nat), off := (0 : Nat) }) (0 : Nat) (0 : Nat)) (some (AObj.row [] (5 : Nat) m w true) :: some (AObj.row [] (5 : Nat) true true true) :: noH))) := by kernel_rfl
theorem cl51_t (es : List Value) (k : Nat) (d : Nat) (m : Bool) (w : Bool) (K : Value → Heap → Prop) :
    (fnP Try.prog c0 hsCl5 (29 : FuncId) [Value.slice (some { block := (0 : Nat), off := (0 : Nat) }) (k + (1 : Nat)) d] [some (AObj.row es (5 : Nat) m w true)] K) =
    (∀ (x : Bool), Is (x = true → k + (1 : Nat) = (0 : Nat)) → br x (K (Value.slice (some { block := (1 : Nat), off := (0 : Nat) }) (0 : Nat) (0 : Nat)) (some (AObj.row es (5 : Nat) m w true) :: some (AObj.row [] (5 : Nat) true true true) :: noH)) (Is (List.length es = (k + (1 : Nat)) * (5 : Nat) ∧ (∀ (v : Value), v ∈ es → atom v = true) ∧ (k + (1 : Nat)) * (32 : Nat) ≤ (140737488355328 : Nat) ∧ k + (1 : Nat) ≤ (9223372036854775807 : Nat)) ∧ K (Value.slice (some { block := (1 : Nat), off := (0 : Nat) }) (k + (1 : Nat)) (0 : Nat)) (some (AObj.row es (5 : Nat) m w true) :: some (AObj.row es (5 : Nat) true true true) :: noH))) := by kernel_rfl
noncomputable def orcCl5 : OrcV
  | [.slice (some ⟨0, 0, none⟩) k _d], [some (.row es 5 m w true)] => some (.slice (some ⟨1, 0, none⟩) k 0, [some (.row es 5 m w true), some (.row es 5 true true true)], es.length = k * 5 ∧ Sp.atoms es ∧ k ≤ 100000)
  | _, _ => none
theorem okCl5 : OkV Try.prog 29 orcCl5 := by
  intro args H ret H' vc h hv
  unfold orcCl5 at h
  split at h
  · rename_i k d es m w
    cases h
    obtain ⟨h1, h2, h3⟩ := hv
    match k with
    | 0 =>
      have e0 : es = [] := List.eq_nil_of_length_eq_zero (by omega)
      subst e0
      refine fnP_res hm c0_ok (hs := hsCl5) ?_
      rw [cl50_t]
      exact fun x _ => br_of (fun _ => ⟨by first | trivial | rfl, by first | trivial | rfl⟩) (fun _ => ⟨⟨by first | trivial | rfl, fun v hv => (by cases hv), by omega, by omega⟩, by first | trivial | rfl, by first | trivial | rfl⟩)
    | k + 1 =>
      refine fnP_res hm c0_ok (hs := hsCl5) ?_
      rw [cl51_t]
      refine fun x hx => br_of (fun hb => ?_) (fun _ => ⟨⟨h1, h2, by omega, by omega⟩, by first | trivial | rfl, by first | trivial | rfl⟩)
      have := hx.out hb
      omega
  · cases h
noncomputable def gCt (ps : List Pk) (off : Nat) : Value := .int .i64 (oC ps off)
noncomputable def lpL0 (ps : List Pk) : Lp where
  σ := Nat
  E _ := slots 63 [(7, .slice (some ⟨1, 0, none⟩) ps.length 0), (8, .slice (some ⟨2, 0, none⟩) 0 0)]
  Hp _ := [some (.row (pks ps) 5 true true true), some (.row (pks ps) 5 true true true), some (.row [] 1 true true true)]
  I s := s = 0
  m _ := 0
noncomputable def lpLo (ps : List Pk) : Lp where
  σ := Nat
  E i := slots 63 [(7, .slice (some ⟨1, 0, none⟩) ps.length 0), (8, .slice (some ⟨2, 0, none⟩) (lnN ps i) 0), (9, .int .i64 (i : Int))]
  Hp i := [some (.row (pks ps) 5 true true true), some (.row (pks ps) 5 true true true), some (.row (ints (lsN ps i)) 1 true true true)]
  I i := 1 ≤ i ∧ (i = 1 ∨ i ≤ ps.length)
  m i := ps.length + 1 - i
noncomputable def lpLi (ps : List Pk) (i : Nat) : Lp where
  σ := Nat
  E j := slots 63 [(7, .slice (some ⟨1, 0, none⟩) ps.length 0), (8, .slice (some ⟨2, 0, none⟩) (lnJ ps i j) 0), (9, .int .i64 (i : Int)), (10, .int .i64 (ctJ ps i j))]
  Hp j := [some (.row (pks ps) 5 true true true), some (.row (pks ps) 5 true true true), some (.row (ints (lsJ ps i j)) 1 true true true)]
  I j := 1 ≤ i ∧ i < ps.length ∧ ctJ ps i j ≤ cAt ps i
  m j := (cAt ps i - ctJ ps i j).toNat
noncomputable def hsLo (ps : List Pk) : Hs Try.prog where
  op y := if y = 301 then some (hCa Try.prog 26 (orcMp ps) (okMp ps)) else if y = 302 then some (hCa Try.prog 25 (orcFiV (ps.map pkE)) (okFiV _)) else if y = 601 then some (hCa Try.prog 29 orcCl5 okCl5) else if y = 603 then some (hCa Try.prog 28 (orcDf ps) (okDf ps))
    else if [1103, 1203].contains y then some (hIa Try.prog) else if [1105, 1205].contains y then some (hLd Try.prog (gCt ps)) else if y = 1403 then some (hAp Try.prog) else none
  cut y := if y = 8 then some (lpL0 ps) else none
  lp y := if y = 9 then some (lpLo ps) else none
  lq y := if y = 12 then some ⟨Nat, lpLi ps⟩ else none
  cl y := if y = 8 then keep 63 [7, 8] else if y = 9 then keep 63 [7, 8, 9] else keep 63 [7, 8, 9, 10]
  nl y := if y = 8 then [.slot 8 1] else []
  au := au2
theorem lo_t (ps : List Pk) (n : Nat) (c : Nat) (src : Int) (K : Value → Heap → Prop) :
    (fnP Try.prog cs2 (hsLo ps) (8 : FuncId) [Value.slice (some { block := (0 : Nat), off := (0 : Nat) }) n c, Value.int IntKind.i64 src] [some (AObj.row (pks ps) (5 : Nat) true true true)] K) =
    (br (decide ((1024 : Int) < (↑n : Int))) (K (Value.tuple #[Value.slice none (0 : Nat) (0 : Nat), Value.int IntKind.i64 (5 : Int)]) (some (AObj.row (pks ps) (5 : Nat) true true true) :: noH)) (Is (pks ps = pks ps ∧ n = List.length ps ∧ n ≤ (1024 : Nat)) ∧ Is (ints (List.map pkE ps) = ints (List.map pkE ps) ∧ List.length (List.map pkE ps) = n ∧ n ≤ (100000 : Nat)) ∧ br (fi [fi (List.map pkE ps), wi src (0 : Int) (255 : Int)] != (0 : Int)) (K (Value.tuple #[Value.slice none (0 : Nat) (0 : Nat), Value.int IntKind.i64 (fi [fi (List.map pkE ps), wi src (0 : Int) (255 : Int)])]) (some (AObj.row (pks ps) (5 : Nat) true true true) :: noH)) (Is (List.length (pks ps) = n * (5 : Nat) ∧ atoms (pks ps) ∧ n ≤ (100000 : Nat)) ∧ Is (pks ps = pks ps ∧ n = List.length ps ∧ okLs ps src) ∧ (∃ (s : Nat), Is (s = (0 : Nat)) ∧ [poi, poi, poi, poi, poi, poi, poi, Value.slice (some { block := (1 : Nat), off := (0 : Nat) }) n (0 : Nat), Value.slice (some { block := (2 : Nat), off := (0 : Nat) }) (0 : Nat) (0 : Nat), poi, poi, poi, poi, poi, poi, poi, poi, poi, poi, poi, poi, poi, poi, poi, poi, poi, poi, poi, poi, poi, poi, poi, poi, poi, poi, poi, poi, poi, poi, poi, poi, poi, poi, poi, poi, poi, poi, poi, poi, poi, poi, poi, poi, poi, poi, poi, poi, poi, poi, poi, poi, poi, poi] = [poi, poi, poi, poi, poi, poi, poi, Value.slice (some { block := (1 : Nat), off := (0 : Nat) }) (List.length ps) (0 : Nat), Value.slice (some { block := (2 : Nat), off := (0 : Nat) }) (0 : Nat) (0 : Nat), poi, poi, poi, poi, poi, poi, poi, poi, poi, poi, poi, poi, poi, poi, poi, poi, poi, poi, poi, poi, poi, poi, poi, poi, poi, poi, poi, poi, poi, poi, poi, poi, poi, poi, poi, poi, poi, poi, poi, poi, poi, poi, poi, poi, poi, poi, poi, poi, poi, poi, poi, poi, poi, poi] ∧ some (AObj.row (pks ps) (5 : Nat) true true true) :: some (AObj.row (pks ps) (5 : Nat) true true true) :: some (AObj.row [] (1 : Nat) true true true) :: noH = some (AObj.row (pks ps) (5 : Nat) true true true) :: some (AObj.row (pks ps) (5 : Nat) true true true) :: some (AObj.row [] (1 : Nat) true true true) :: noH) ∧ ∀ (s : Nat), Is (s = (0 : Nat)) → (∃ (s : Nat), Is ((1 : Nat) ≤ s ∧ (s = (1 : Nat) ∨ s ≤ List.length ps)) ∧ [poi, poi, poi, poi, poi, poi, poi, Value.slice (some { block := (1 : Nat), off := (0 : Nat) }) (List.length ps) (0 : Nat), Value.slice (some { block := (2 : Nat), off := (0 : Nat) }) (0 : Nat) (0 : Nat), Value.int IntKind.i64 (1 : Int), poi, poi, poi, poi, poi, poi, poi, poi, poi, poi, poi, poi, poi, poi, poi, poi, poi, poi, poi, poi, poi, poi, poi, poi, poi, poi, poi, poi, poi, poi, poi, poi, poi, poi, poi, poi, poi, poi, poi, poi, poi, poi, poi, poi, poi, poi, poi, poi, poi, poi, poi, poi, poi] = [poi, poi, poi, poi, poi, poi, poi, Value.slice (some { block := (1 : Nat), off := (0 : Nat) }) (List.length ps) (0 : Nat), Value.slice (some { block := (2 : Nat), off := (0 : Nat) }) (lnN ps s) (0 : Nat), Value.int IntKind.i64 (↑s : Int), poi, poi, poi, poi, poi, poi, poi, poi, poi, poi, poi, poi, poi, poi, poi, poi, poi, poi, poi, poi, poi, poi, poi, poi, poi, poi, poi, poi, poi, poi, poi, poi, poi, poi, poi, poi, poi, poi, poi, poi, poi, poi, poi, poi, poi, poi, poi, poi, poi, poi, poi, poi, poi] ∧ some (AObj.row (pks ps) (5 : Nat) true true true) :: some (AObj.row (pks ps) (5 : Nat) true true true) :: some (AObj.row [] (1 : Nat) true true true) :: noH = some (AObj.row (pks ps) (5 : Nat) true true true) :: some (AObj.row (pks ps) (5 : Nat) true true true) :: some (AObj.row (ints (lsN ps s)) (1 : Nat) true true true) :: noH) ∧ ∀ (s : Nat), Is ((1 : Nat) ≤ s ∧ (s = (1 : Nat) ∨ s ≤ List.length ps)) → br (decide ((↑s : Int) < (↑(List.length ps) : Int))) (Is ((0 : Int) ≤ IntKind.wrap IntKind.i64 ((↑s : Int) - (1 : Int)) ∧ IntKind.wrap IntKind.i64 ((↑s : Int) - (1 : Int)) < (↑(List.length ps) : Int)) ∧ Is ((pks ps)[(0 : Nat) + Int.toNat (IntKind.wrap IntKind.i64 ((↑s : Int) - (1 : Int))) * (5 : Nat) + (1 : Nat)]? = some (Value.int IntKind.i64 (oC ps ((0 : Nat) + Int.toNat (IntKind.wrap IntKind.i64 ((↑s : Int) - (1 : Int))) * (5 : Nat) + (1 : Nat))))) ∧ Is True ∧ ∃ (p : Nat), (∃ (s_1 : Nat), Is ((1 : Nat) ≤ p ∧ p < List.length ps ∧ ctJ ps p s_1 ≤ cAt ps p) ∧ [poi, poi, poi, poi, poi, poi, poi, Value.slice (some { block := (1 : Nat), off := (0 : Nat) }) (List.length ps) (0 : Nat), Value.slice (some { block := (2 : Nat), off := (0 : Nat) }) (lnN ps s) (0 : Nat), Value.int IntKind.i64 (↑s : Int), Value.int IntKind.i64 (land IntKind.i64 (IntKind.wrap IntKind.i64 (oC ps ((0 : Nat) + Int.toNat (IntKind.wrap IntKind.i64 ((↑s : Int) - (1 : Int))) * (5 : Nat) + (1 : Nat)) + (1 : Int))) (65535 : Int)), poi, poi, poi, poi, poi, poi, poi, poi, poi, poi, poi, poi, poi, poi, poi, poi, poi, poi, poi, poi, poi, poi, poi, poi, poi, poi, poi, poi, poi, poi, poi, poi, poi, poi, poi, poi, poi, poi, poi, poi, poi, poi, poi, poi, poi, poi, poi, poi, poi, poi, poi, poi] = [poi, poi, poi, poi, poi, poi, poi, Value.slice (some { block := (1 : Nat), off := (0 : Nat) }) (List.length ps) (0 : Nat), Value.slice (some { block := (2 : Nat), off := (0 : Nat) }) (lnJ ps p s_1) (0 : Nat), Value.int IntKind.i64 (↑p : Int), Value.int IntKind.i64 (ctJ ps p s_1), poi, poi, poi, poi, poi, poi, poi, poi, poi, poi, poi, poi, poi, poi, poi, poi, poi, poi, poi, poi, poi, poi, poi, poi, poi, poi, poi, poi, poi, poi, poi, poi, poi, poi, poi, poi, poi, poi, poi, poi, poi, poi, poi, poi, poi, poi, poi, poi, poi, poi, poi, poi] ∧ some (AObj.row (pks ps) (5 : Nat) true true true) :: some (AObj.row (pks ps) (5 : Nat) true true true) :: some (AObj.row (ints (lsN ps s)) (1 : Nat) true true true) :: noH = some (AObj.row (pks ps) (5 : Nat) true true true) :: some (AObj.row (pks ps) (5 : Nat) true true true) :: some (AObj.row (ints (lsJ ps p s_1)) (1 : Nat) true true true) :: noH) ∧ ∀ (s_1 : Nat), Is ((1 : Nat) ≤ p ∧ p < List.length ps ∧ ctJ ps p s_1 ≤ cAt ps p) → Is ((0 : Int) ≤ (↑p : Int) ∧ (↑p : Int) < (↑(List.length ps) : Int)) ∧ Is ((pks ps)[(0 : Nat) + Int.toNat (↑p : Int) * (5 : Nat) + (1 : Nat)]? = some (Value.int IntKind.i64 (oC ps ((0 : Nat) + Int.toNat (↑p : Int) * (5 : Nat) + (1 : Nat))))) ∧ br (ctJ ps p s_1 != oC ps ((0 : Nat) + Int.toNat (↑p : Int) * (5 : Nat) + (1 : Nat))) (Is (List.length (ints (lsJ ps p s_1)) = lnJ ps p s_1 * (1 : Nat) ∧ (lnJ ps p s_1 + (1 : Nat)) * (8 : Nat) ≤ (140737488355328 : Nat) ∧ lnJ ps p s_1 + (1 : Nat) ≤ (9223372036854775807 : Nat)) ∧ br (decide ((256 : Int) < (↑(lnJ ps p s_1 + (1 : Nat)) : Int))) (br (decide ((256 : Int) < (↑(lnJ ps p s_1 + (1 : Nat)) : Int))) (K (Value.tuple #[Value.slice none (0 : Nat) (0 : Nat), Value.int IntKind.i64 (5 : Int)]) (some (AObj.row (pks ps) (5 : Nat) true true true) :: noH)) (K (Value.tuple #[Value.slice (some { block := (1 : Nat), off := (0 : Nat) }) (lnJ ps p s_1 + (1 : Nat)) (0 : Nat), Value.int IntKind.i64 (0 : Int)]) (some (AObj.row (pks ps) (5 : Nat) true true true) :: some (AObj.row (ints (lsJ ps p s_1) ++ [Value.int IntKind.i64 (ctJ ps p s_1)]) (1 : Nat) true true (List.all [Value.int IntKind.i64 (ctJ ps p s_1)] atom)) :: noH))) (Is True ∧ ∃ (s' : Nat), Is ((1 : Nat) ≤ p ∧ p < List.length ps ∧ ctJ ps p s' ≤ cAt ps p) ∧ Is (Int.toNat (cAt ps p - ctJ ps p s') < Int.toNat (cAt ps p - ctJ ps p s_1)) ∧ [poi, poi, poi, poi, poi, poi, poi, Value.slice (some { block := (1 : Nat), off := (0 : Nat) }) (List.length ps) (0 : Nat), Value.slice (some { block := (2 : Nat), off := (0 : Nat) }) (lnJ ps p s_1 + (1 : Nat)) (0 : Nat), Value.int IntKind.i64 (↑p : Int), Value.int IntKind.i64 (land IntKind.i64 (IntKind.wrap IntKind.i64 (ctJ ps p s_1 + (1 : Int))) (65535 : Int)), poi, poi, poi, poi, poi, poi, poi, poi, poi, poi, poi, poi, poi, poi, poi, poi, poi, poi, poi, poi, poi, poi, poi, poi, poi, poi, poi, poi, poi, poi, poi, poi, poi, poi, poi, poi, poi, poi, poi, poi, poi, poi, poi, poi, poi, poi, poi, poi, poi, poi, poi, poi] = [poi, poi, poi, poi, poi, poi, poi, Value.slice (some { block := (1 : Nat), off := (0 : Nat) }) (List.length ps) (0 : Nat), Value.slice (some { block := (2 : Nat), off := (0 : Nat) }) (lnJ ps p s') (0 : Nat), Value.int IntKind.i64 (↑p : Int), Value.int IntKind.i64 (ctJ ps p s'), poi, poi, poi, poi, poi, poi, poi, poi, poi, poi, poi, poi, poi, poi, poi, poi, poi, poi, poi, poi, poi, poi, poi, poi, poi, poi, poi, poi, poi, poi, poi, poi, poi, poi, poi, poi, poi, poi, poi, poi, poi, poi, poi, poi, poi, poi, poi, poi, poi, poi, poi, poi] ∧ some (AObj.row (pks ps) (5 : Nat) true true true) :: some (AObj.row (pks ps) (5 : Nat) true true true) :: some (AObj.row (ints (lsJ ps p s_1) ++ [Value.int IntKind.i64 (ctJ ps p s_1)]) (1 : Nat) true true (List.all [Value.int IntKind.i64 (ctJ ps p s_1)] atom)) :: noH = some (AObj.row (pks ps) (5 : Nat) true true true) :: some (AObj.row (pks ps) (5 : Nat) true true true) :: some (AObj.row (ints (lsJ ps p s')) (1 : Nat) true true true) :: noH)) (∃ (s' : Nat), Is ((1 : Nat) ≤ s' ∧ (s' = (1 : Nat) ∨ s' ≤ List.length ps)) ∧ Is (List.length ps + (1 : Nat) - s' < List.length ps + (1 : Nat) - s) ∧ [poi, poi, poi, poi, poi, poi, poi, Value.slice (some { block := (1 : Nat), off := (0 : Nat) }) (List.length ps) (0 : Nat), Value.slice (some { block := (2 : Nat), off := (0 : Nat) }) (lnJ ps p s_1) (0 : Nat), Value.int IntKind.i64 (IntKind.wrap IntKind.i64 ((↑p : Int) + (1 : Int))), poi, poi, poi, poi, poi, poi, poi, poi, poi, poi, poi, poi, poi, poi, poi, poi, poi, poi, poi, poi, poi, poi, poi, poi, poi, poi, poi, poi, poi, poi, poi, poi, poi, poi, poi, poi, poi, poi, poi, poi, poi, poi, poi, poi, poi, poi, poi, poi, poi, poi, poi, poi, poi] = [poi, poi, poi, poi, poi, poi, poi, Value.slice (some { block := (1 : Nat), off := (0 : Nat) }) (List.length ps) (0 : Nat), Value.slice (some { block := (2 : Nat), off := (0 : Nat) }) (lnN ps s') (0 : Nat), Value.int IntKind.i64 (↑s' : Int), poi, poi, poi, poi, poi, poi, poi, poi, poi, poi, poi, poi, poi, poi, poi, poi, poi, poi, poi, poi, poi, poi, poi, poi, poi, poi, poi, poi, poi, poi, poi, poi, poi, poi, poi, poi, poi, poi, poi, poi, poi, poi, poi, poi, poi, poi, poi, poi, poi, poi, poi, poi, poi] ∧ some (AObj.row (pks ps) (5 : Nat) true true true) :: some (AObj.row (pks ps) (5 : Nat) true true true) :: some (AObj.row (ints (lsJ ps p s_1)) (1 : Nat) true true true) :: noH = some (AObj.row (pks ps) (5 : Nat) true true true) :: some (AObj.row (pks ps) (5 : Nat) true true true) :: some (AObj.row (ints (lsN ps s')) (1 : Nat) true true true) :: noH)) (br (decide ((256 : Int) < (↑(lnN ps s) : Int))) (K (Value.tuple #[Value.slice none (0 : Nat) (0 : Nat), Value.int IntKind.i64 (5 : Int)]) (some (AObj.row (pks ps) (5 : Nat) true true true) :: noH)) (K (Value.tuple #[Value.slice (some { block := (1 : Nat), off := (0 : Nat) }) (lnN ps s) (0 : Nat), Value.int IntKind.i64 (0 : Int)]) (some (AObj.row (pks ps) (5 : Nat) true true true) :: some (AObj.row (ints (lsN ps s)) (1 : Nat) true true true) :: noH)))))) := by kernel_rfl
end
end Qq
end
section
/- The counters that are lost: the contract. -/
open Go Go.Vm Go.Proofs Sp
namespace Qq
noncomputable section
theorem land_low {a : Int} (h0 : 0 ≤ a) (h1 : a ≤ 65535) : land .i64 a 65535 = a := by
  obtain ⟨n, rfl⟩ : ∃ n : Nat, a = n := ⟨a.toNat, by omega⟩
  have hn : n < 65536 := by omega
  have e1 : (BitVec.ofInt 64 (n : Int)).toNat = n := by
    rw [BitVec.toNat_ofInt]; omega
  have e2 : (BitVec.ofInt 64 (65535 : Int)).toNat = 65535 := by
    rw [BitVec.toNat_ofInt]; omega
  have e3 : (BitVec.ofInt 64 (n : Int) &&& BitVec.ofInt 64 (65535 : Int)).toNat = n := by
    rw [BitVec.toNat_and, e1, e2, show 65535 = 2 ^ 16 - 1 from rfl, Nat.and_two_pow_sub_one_eq_mod]
    omega
  have e4 : land .i64 (n : Int) 65535 = IntKind.wrap .i64 ((BitVec.ofInt 64 (n : Int) &&& BitVec.ofInt 64 (65535 : Int)).toNat : Nat) := rfl
  rw [e4, e3, wrap_eq (by omega) (by omega)]
theorem gapN_succ (a : Int) (j : Nat) : gapN a (j + 1) = gapN a j ++ [a + 1 + (j : Int)] := by
  rw [gapN, gapN, List.range_succ, List.map_append]; rfl
theorem gapN_len (a : Int) (j : Nat) : (gapN a j).length = j := by rw [gapN, List.length_map, List.length_range]
theorem lsJ_zero (ps : List Pk) (i : Nat) : lsJ ps i 0 = lsN ps i := by rw [lsJ]; show lsN ps i ++ [] = _; rw [List.append_nil]
theorem lsJ_succ (ps : List Pk) (i j : Nat) : lsJ ps i (j + 1) = lsJ ps i j ++ [ctJ ps i j] := by rw [lsJ, lsJ, gapN_succ, List.append_assoc]; rfl
theorem lnJ_eq (ps : List Pk) (i j : Nat) : lnJ ps i j = lnN ps i + j := by rw [lnJ, lsJ, List.length_append, gapN_len]; rfl
theorem lnN_le {ps : List Pk} {src : Int} (h : okLs ps src) : ∀ i, i < ps.length → (lnN ps (i + 1) : Int) ≤ cAt ps i
  | 0, hi => by have := (h.lo 0 hi).1; show (0 : Int) ≤ _; exact this
  | i + 1, hi => by
    have h1 := lnN_le h i (by omega)
    have h2 := h.up i hi
    have e : lnN ps (i + 1 + 1) = lnN ps (i + 1) + (cAt ps (i + 1) - cAt ps i - 1).toNat := by
      show (lsN ps (i + 2)).length = _
      rw [lsN, List.length_append, gapN_len]; rfl
    rw [e]; omega
theorem oC_at {ps : List Pk} (i : Nat) : oC ps (0 + i * 5 + 1) = cAt ps i := by
  rw [oC, cAt, show (0 + i * 5 + 1) / 5 = i by omega]
theorem ct_ld {ps : List Pk} {i : Nat} (h : i < ps.length) : (pks ps)[0 + i * 5 + 1]? = some (.int .i64 (oC ps (0 + i * 5 + 1))) := by
  rw [oC_at, Nat.zero_add, pks_at ps h (by decide)]; rfl
noncomputable def orcLo (ps : List Pk) : OrcV
  | [.slice (some ⟨0, 0, none⟩) n _, .int .i64 src], [some (.row cs 5 true true true)] => some (.tuple #[.slice (some ⟨1, 0, none⟩) (lnN ps ps.length) 0, .int .i64 0], [some (.row cs 5 true true true), some (.row (ints (lsN ps ps.length)) 1 true true true)], cs = pks ps ∧ n = ps.length ∧ okLs ps src)
  | _, _ => none
set_option maxRecDepth 100000 in
theorem okLo (ps : List Pk) : OkV Try.prog 8 (orcLo ps) := by
  intro args H ret H' vc h hv
  unfold orcLo at h
  split at h
  · rename_i n c src cs
    cases h
    obtain ⟨rfl, rfl, hL⟩ := hv
    have h9 := hL.ok.few
    have hz : fi [fi (ps.map pkE), wi src 0 255] = 0 := by
      refine fi_zero.2 fun e he => ?_
      rcases List.mem_cons.1 he with rfl | he
      · refine fi_zero.2 fun e he => ?_
        obtain ⟨p, hp, rfl⟩ := List.mem_map.1 he
        exact (hL.ok.ok p hp).e
      · have : e = wi src 0 255 := by simpa using he
        rw [this]; exact wi_zero.2 hL.rs
    have ha : Sp.atoms (pks ps) := fun v hv => by
      rw [pks, List.mem_flatMap] at hv
      obtain ⟨p, _, hv⟩ := hv
      simp only [pkA, List.mem_cons, List.not_mem_nil, or_false] at hv
      rcases hv with rfl | rfl | rfl | rfl | rfl <;> rfl
    refine fnP_res hm cs2_ok (hs := hsLo ps) ?_
    show fnP Try.prog cs2 (hsLo ps) 8 _ [some (.row (pks ps) 5 true true true)] _
    rw [lo_t]
    refine br_of (fun h => by have := of_decide_eq_true h; omega) (fun _ => ⟨⟨rfl, rfl, h9⟩, ⟨rfl, by rw [List.length_map], by omega⟩, br_of (fun h => by rw [hz] at h; simp at h) (fun _ => ?_)⟩)
    refine ⟨⟨pks_len ps, ha, by omega⟩, ⟨rfl, rfl, hL⟩, ⟨(0 : Nat), ⟨rfl⟩, rfl, rfl⟩, fun _ _ => ?_⟩
    refine ⟨⟨(1 : Nat), ⟨Nat.le_refl _, .inl rfl⟩, rfl, rfl⟩, fun s hs => br_of (fun hc => ?_) (fun hc => ?_)⟩
    · have hc := lt_of_dec hc
      have h1 := hs.out.1
      obtain ⟨i, rfl⟩ : ∃ i, s = i + 1 := ⟨s - 1, by omega⟩
      have w1 : (IntKind.wrap .i64 (((i + 1 : Nat) : Int) - 1)).toNat = i := by rw [wrap_eq (by omega) (by omega)]; omega
      have w2 : IntKind.wrap .i64 (((i + 1 : Nat) : Int) - 1) = i := by rw [wrap_eq (by omega) (by omega)]; omega
      have l0 := hL.lo i (by omega)
      have l1 := hL.lo (i + 1) hc
      have lu := hL.up i hc
      have ln := lnN_le hL i (by omega)
      rw [w1, w2]
      refine ⟨⟨by omega, by omega⟩, ⟨ct_ld (by omega)⟩, ⟨trivial⟩, i + 1, ⟨(0 : Nat), ⟨by omega, hc, ?_⟩, ?_, ?_⟩, fun j hj => ?_⟩
      · rw [ctJ, Nat.add_sub_cancel]; omega
      · rw [oC_at, wrap_eq (by omega) (by omega), land_low (by omega) (by omega), lnJ_eq, ctJ, Nat.add_sub_cancel]
        simp
      · rw [lsJ_zero]
      · obtain ⟨_, _, hj⟩ := hj.out
        have hj' := hj
        rw [ctJ, Nat.add_sub_cancel] at hj'
        simp only [Int.toNat_natCast]
        refine ⟨⟨by omega, by omega⟩, ⟨ct_ld hc⟩, ?_⟩
        rw [oC_at]
        refine br_of (fun hn => ?_) (fun he => ?_)
        · have hn : ctJ ps (i + 1) j ≠ cAt ps (i + 1) := by simpa using hn
          rw [ctJ, Nat.add_sub_cancel] at hn
          have q := lnJ_eq ps (i + 1) j
          refine ⟨⟨by rw [ints, List.length_map]; show lnJ ps (i + 1) j = _; omega, by omega, by omega⟩, br_of (fun h => by have := of_decide_eq_true h; omega) (fun _ => ⟨⟨trivial⟩, j + 1, ⟨by omega, hc, ?_⟩, ⟨?_⟩, ?_, ?_⟩)⟩
          · rw [ctJ, Nat.add_sub_cancel]; omega
          · rw [ctJ, ctJ, Nat.add_sub_cancel]; omega
          · have e : land .i64 (IntKind.wrap .i64 (ctJ ps (i + 1) j + 1)) 65535 = ctJ ps (i + 1) (j + 1) := by
              rw [ctJ, ctJ, Nat.add_sub_cancel, wrap_eq (by omega) (by omega), land_low (by omega) (by omega)]; omega
            rw [e, lnJ_eq ps (i + 1) (j + 1), q]; rfl
          · rw [lsJ_succ, ints, ints, List.map_append]; rfl
        · have he : ctJ ps (i + 1) j = cAt ps (i + 1) := by simpa using he
          rw [ctJ, Nat.add_sub_cancel] at he
          have hjj : j = (cAt ps (i + 1) - cAt ps i - 1).toNat := by omega
          have el : lsJ ps (i + 1) j = lsN ps (i + 1 + 1) := by
            rw [lsJ, Nat.add_sub_cancel, hjj]
            show _ = lsN ps (i + 2)
            rw [lsN]
          have en : lnJ ps (i + 1) j = lnN ps (i + 1 + 1) := by rw [lnJ, el]; rfl
          refine ⟨i + 1 + 1, ⟨by omega, .inr (by omega)⟩, ⟨by omega⟩, ?_, ?_⟩
          · rw [en, up1 hc (by omega)]
          · rw [el]
    · have hc := ge_of_dec hc
      have hs := hs.out
      have en : lsN ps s = lsN ps ps.length := by
        rcases hs.2 with rfl | h
        · rcases Nat.lt_or_ge 1 ps.length with h | h
          · omega
          · match ps, h with
            | [], _ => rfl
            | [_], _ => rfl
            | _ :: _ :: _, h => simp at h
        · rw [show s = ps.length by omega]
      have e2 : lnN ps s = lnN ps ps.length := by rw [lnN, en]; rfl
      rw [e2, en]
      refine br_of (fun h => ?_) (fun _ => ⟨rfl, rfl⟩)
      have h := of_decide_eq_true h
      cases hl : ps.length with
      | zero => rw [hl] at h; exact absurd h (by show ¬ (256 : Int) < 0; decide)
      | succ k =>
        have := lnN_le hL k (by omega)
        have := (hL.lo k (by omega)).2
        rw [hl] at h; omega
  · cases h
end
end Qq
end
section
/- Sums of runs. -/
open Go Go.Vm Go.Proofs Sp
namespace Sp
noncomputable section
end
end Sp
namespace Qq
noncomputable section
/- The sum. -/
theorem rdF_ok {xs : List Nat} {P : Int → Bool} {n : Nat} (hx : fi (xs.map sE) = 0) (hn : xs.length = n) : RdOk (rdF xs P) n := ⟨fun i hi => rdF_few hx (by omega), fun i hi hb => by
  rw [rdF] at hb ⊢
  split
  · rename_i e; rw [if_pos e] at hb; cases hb
  · rfl⟩
end
end Qq
end
section
/- Two runs, joined. -/
open Go Go.Vm Go.Proofs Sp
namespace Sp
noncomputable section
noncomputable def zrdr (n : Nat) : List Value := rdc n fun _ => (0, false)
/-- How many readings a joined run has, and what these are. -/
def jnN (f f2 : Int) (n2 : Nat) : Nat := (f2 + n2 - f).toNat
noncomputable def jnQ (f : Int) (n : Nat) (e1 g1 : List Value) (f2 : Int) (e2 g2 : List Value) : Nat → Int × Bool := jnR (rdF (fxs e1) (knB (ihs g1))) (rdF (fxs e2) (knB (ihs g2))) n (f2 - f).toNat
noncomputable def jnX (f : Int) (n : Nat) (e1 g1 : List Value) (f2 : Int) (n2 : Nat) (e2 g2 : List Value) : List Value := flts (mkX (jnQ f n e1 g1 f2 e2 g2) (jnN f f2 n2))
noncomputable def jnH (f : Int) (n : Nat) (e1 g1 : List Value) (f2 : Int) (n2 : Nat) (e2 g2 : List Value) : List Value := ints (mkS (mkB (jnQ f n e1 g1 f2 e2 g2)) (jnN f f2 n2))
noncomputable def jnK (f : Int) (n : Nat) (e1 g1 : List Value) (f2 : Int) (n2 : Nat) (e2 g2 : List Value) : Nat := mkK (mkB (jnQ f n e1 g1 f2 e2 g2)) (jnN f f2 n2)
end
end Sp
namespace Qq
noncomputable section
theorem ed_t (nm : ByteArray) (f : Int) (n : Nat) (c : Nat) (k : Nat) (d : Nat) (e1 : List Value) (e2 : List Value) (K : Value → Heap → Prop) :
    (fnP Try.prog c0 hX0 (33 : FuncId) [Value.agg (List.toArray (runA nm f (0 : Nat) n c (1 : Nat) k d))] [some (AObj.row e1 (1 : Nat) true true true), some (AObj.row e2 (2 : Nat) true true true)] K) =
    (K (Value.int IntKind.i64 (IntKind.wrap IntKind.i64 (f + (↑n : Int)))) (some (AObj.row e1 (1 : Nat) true true true) :: some (AObj.row e2 (2 : Nat) true true true) :: noH)) := by kernel_rfl
noncomputable def orcEd : OrcV
  | [.agg ⟨[.string _, .int .i64 f, .slice (some ⟨0, 0, none⟩) n _, .slice (some ⟨1, 0, none⟩) _ _]⟩], [some (.row e1 1 true true true), some (.row e2 2 true true true)] =>
    some (.int .i64 (f + n), [some (.row e1 1 true true true), some (.row e2 2 true true true)], 0 ≤ f ∧ f ≤ 100000000 ∧ n ≤ 100000)
  | _, _ => none
theorem okEd : OkV Try.prog 33 orcEd := by
  intro args H ret H' vc h hv
  unfold orcEd at h
  split at h
  · rename_i nm f n c k d e1 e2
    cases h
    refine fnP_res hm c0_ok (hs := hX0) ?_
    show fnP Try.prog c0 hX0 33 [.agg (runA nm f 0 n c 1 k d).toArray] [some (.row e1 1 true true true), some (.row e2 2 true true true)] _
    rw [ed_t, wrap_eq (by omega) (by omega)]
    exact ⟨rfl, rfl⟩
  · cases h
noncomputable def hsJn (f f2 : Int) (n n2 : Nat) (e1 e2 g1 g2 : List Value) : Hs Try.prog where
  op y := if [101, 103].contains y then some (hCa Try.prog 31 orcCrG okCrG) else if [403, 407, 701].contains y then some (hCa Try.prog 33 orcEd okEd) else if y = 705 then some (hMk Try.prog zrdr)
    else if [802, 908].contains y then some (hCa Try.prog 34 orcRrG okRrG) else if [803, 909].contains y then some (hCq Try.prog) else if y = 906 then some (hSl Try.prog)
    else if y = 1002 then some (hCa Try.prog 37 (orcWi (fxs e1) (ihs g1) (jnQ f n e1 g1 f2 e2 g2)) (okWi _ _ _)) else none
  au := au2
theorem jn_t (nm : ByteArray) (nm2 : ByteArray) (f : Int) (f2 : Int) (n : Nat) (n2 : Nat) (c : Nat) (c2 : Nat) (k : Nat) (k2 : Nat) (d : Nat) (d2 : Nat) (e1 : List Value) (e2 : List Value) (g1 : List Value) (g2 : List Value) (K : Value → Heap → Prop) :
    (fnP Try.prog cs2 (hsJn f f2 n n2 e1 e2 g1 g2) (15 : FuncId) [Value.agg (List.toArray (runA nm f (0 : Nat) n c (1 : Nat) k d)), Value.agg (List.toArray (runA nm2 f2 (2 : Nat) n2 c2 (3 : Nat) k2 d2))] [some (AObj.row e1 (1 : Nat) true true true), some (AObj.row g1 (2 : Nat) true true true), some (AObj.row e2 (1 : Nat) true true true), some (AObj.row g2 (2 : Nat) true true true)] K) =
    (Is (okRun nm f n k e1 g1) ∧ Is (okRun nm2 f2 n2 k2 e2 g2) ∧ Is ((0 : Int) ≤ f ∧ f ≤ (100000000 : Int) ∧ n ≤ (100000 : Nat)) ∧ Is ((0 : Int) ≤ f2 ∧ f2 ≤ (100000000 : Int) ∧ n2 ≤ (100000 : Nat)) ∧ br (fi [wh (decide (f2 < f + (↑n : Int))) (11 : Int), wh (decide ((4096 : Int) < IntKind.wrap IntKind.i64 (f2 + (↑n2 : Int) - f))) (5 : Int)] != (0 : Int)) (K (Value.tuple #[Value.agg #[Value.string { data := #[] }, Value.int IntKind.i64 (0 : Int), Value.slice none (0 : Nat) (0 : Nat), Value.slice none (0 : Nat) (0 : Nat)], Value.int IntKind.i64 (fi [wh (decide (f2 < f + (↑n : Int))) (11 : Int), wh (decide ((4096 : Int) < IntKind.wrap IntKind.i64 (f2 + (↑n2 : Int) - f))) (5 : Int)])]) (some (AObj.row e1 (1 : Nat) true true true) :: some (AObj.row g1 (2 : Nat) true true true) :: some (AObj.row e2 (1 : Nat) true true true) :: some (AObj.row g2 (2 : Nat) true true true) :: noH)) (Is ((0 : Int) ≤ f2 ∧ f2 ≤ (100000000 : Int) ∧ n2 ≤ (100000 : Nat)) ∧ Is (IntKind.wrap IntKind.i64 (f2 + (↑n2 : Int) - f) = IntKind.wrap IntKind.i64 (f2 + (↑n2 : Int) - f) ∧ (0 : Int) ≤ IntKind.wrap IntKind.i64 (f2 + (↑n2 : Int) - f) ∧ IntKind.wrap IntKind.i64 (f2 + (↑n2 : Int) - f) ≤ (9223372036854775807 : Int) ∧ (16 : Int) * IntKind.wrap IntKind.i64 (f2 + (↑n2 : Int) - f) ≤ (281474976710656 : Int) ∧ zeroCells (Value.agg #[Value.int IntKind.i64 (0 : Int), Value.bool false]) (Int.toNat (IntKind.wrap IntKind.i64 (f2 + (↑n2 : Int) - f)) * (2 : Nat)) (zrdr (Int.toNat (IntKind.wrap IntKind.i64 (f2 + (↑n2 : Int) - f))))) ∧ Is (okRun nm f n k e1 g1) ∧ Is (n ≤ Int.toNat (IntKind.wrap IntKind.i64 (f2 + (↑n2 : Int) - f)) ∧ (0 : Nat) + n * (2 : Nat) ≤ List.length (zrdr (Int.toNat (IntKind.wrap IntKind.i64 (f2 + (↑n2 : Int) - f)))) ∧ List.length (rdG n e1 g1) = n * (2 : Nat) ∧ atoms (rdG n e1 g1)) ∧ Is ((0 : Int) ≤ IntKind.wrap IntKind.i64 (f2 - f) ∧ IntKind.wrap IntKind.i64 (f2 - f) ≤ (↑(Int.toNat (IntKind.wrap IntKind.i64 (f2 + (↑n2 : Int) - f))) : Int) ∧ (↑(Int.toNat (IntKind.wrap IntKind.i64 (f2 + (↑n2 : Int) - f))) : Int) ≤ (↑(Int.toNat (IntKind.wrap IntKind.i64 (f2 + (↑n2 : Int) - f))) : Int)) ∧ Is (okRun nm2 f2 n2 k2 e2 g2) ∧ Is (n2 ≤ Int.toNat (↑(Int.toNat (IntKind.wrap IntKind.i64 (f2 + (↑n2 : Int) - f))) : Int) - Int.toNat (IntKind.wrap IntKind.i64 (f2 - f)) ∧ (0 : Nat) + Int.toNat (IntKind.wrap IntKind.i64 (f2 - f)) * (2 : Nat) + n2 * (2 : Nat) ≤ List.length (putL (zrdr (Int.toNat (IntKind.wrap IntKind.i64 (f2 + (↑n2 : Int) - f)))) (0 : Nat) (rdG n e1 g1)) ∧ List.length (rdG n2 e2 g2) = n2 * (2 : Nat) ∧ atoms (rdG n2 e2 g2)) ∧ Is (isRun (fxs e1) (ihs g1) n k e1 g1 ∧ putL (putL (zrdr (Int.toNat (IntKind.wrap IntKind.i64 (f2 + (↑n2 : Int) - f)))) (0 : Nat) (rdG n e1 g1)) ((0 : Nat) + Int.toNat (IntKind.wrap IntKind.i64 (f2 - f)) * (2 : Nat)) (rdG n2 e2 g2) = rdc (Int.toNat (IntKind.wrap IntKind.i64 (f2 + (↑n2 : Int) - f))) (jnQ f n e1 g1 f2 e2 g2) ∧ Int.toNat (IntKind.wrap IntKind.i64 (f2 + (↑n2 : Int) - f)) ≤ (100000 : Nat) ∧ ∀ (i : Nat), i < Int.toNat (IntKind.wrap IntKind.i64 (f2 + (↑n2 : Int) - f)) → Int.natAbs (Prod.fst (jnQ f n e1 g1 f2 e2 g2 i)) < (2 : Nat) ^ (24 : Nat)) ∧ K (Value.tuple #[Value.agg #[Value.string nm, Value.int IntKind.i64 f, Value.slice (some { block := (4 : Nat), off := (0 : Nat) }) (Int.toNat (IntKind.wrap IntKind.i64 (f2 + (↑n2 : Int) - f))) (0 : Nat), Value.slice (some { block := (5 : Nat), off := (0 : Nat) }) (mkK (mkB (jnQ f n e1 g1 f2 e2 g2)) (Int.toNat (IntKind.wrap IntKind.i64 (f2 + (↑n2 : Int) - f)))) (0 : Nat)], Value.int IntKind.i64 (0 : Int)]) (some (AObj.row e1 (1 : Nat) true true true) :: some (AObj.row g1 (2 : Nat) true true true) :: some (AObj.row e2 (1 : Nat) true true true) :: some (AObj.row g2 (2 : Nat) true true true) :: some (AObj.row (flts (mkX (jnQ f n e1 g1 f2 e2 g2) (Int.toNat (IntKind.wrap IntKind.i64 (f2 + (↑n2 : Int) - f))))) (1 : Nat) true true true) :: some (AObj.row (ints (mkS (mkB (jnQ f n e1 g1 f2 e2 g2)) (Int.toNat (IntKind.wrap IntKind.i64 (f2 + (↑n2 : Int) - f))))) (2 : Nat) true true true) :: noH))) := by kernel_rfl
theorem zrdr_ok (n : Nat) : Sp.zeroCells (.agg #[.int .i64 0, .bool false]) (n * 2) (zrdr n) := by
  unfold Sp.zeroCells zrdr zrow
  refine List.ext_getElem? fun i => ?_
  by_cases hi : i < n * 2
  · rcases Nat.mod_two_eq_zero_or_one i with h2 | h2
    · have e : i = i / 2 * 2 := by omega
      have q := rdc_int (R := fun _ => ((0 : Int), false)) (show i / 2 < n by omega)
      rw [← e] at q
      rw [q]; simp [Value.cells, hi, h2]
    · have e : i = i / 2 * 2 + 1 := by omega
      have q := rdc_bool (R := fun _ => ((0 : Int), false)) (show i / 2 < n by omega)
      rw [← e] at q
      rw [q]; simp [Value.cells, hi, h2]
  · rw [List.getElem?_eq_none (by simp; omega), List.getElem?_eq_none (by rw [rdc_len]; omega)]
theorem putL_app {c a b : List Value} {o : Nat} (h : o + a.length + b.length ≤ c.length) : putL c o (a ++ b) = putL (putL c o a) (o + a.length) b := by
  show c.take o ++ ((a ++ b) ++ c.drop (o + (a ++ b).length)) = (c.take o ++ (a ++ c.drop (o + a.length))).take (o + a.length) ++ (b ++ (c.take o ++ (a ++ c.drop (o + a.length))).drop (o + a.length + b.length))
  have l0 : (c.take o).length = o := by rw [List.length_take]; omega
  have e1 : (c.take o ++ (a ++ c.drop (o + a.length))).take (o + a.length) = c.take o ++ a := by
    rw [← List.append_assoc, List.take_left' (by rw [List.length_append, l0])]
  have e2 : (c.take o ++ (a ++ c.drop (o + a.length))).drop (o + a.length + b.length) = c.drop (o + a.length + b.length) := by
    rw [← List.append_assoc, List.drop_append, List.drop_of_length_le (by rw [List.length_append, l0]; omega), List.nil_append, List.drop_drop, List.length_append, l0]
    congr 1; omega
  rw [e1, e2, List.length_append]
  simp only [List.append_assoc, Nat.add_assoc]
theorem putL_len {c a : List Value} {o : Nat} (h : o + a.length ≤ c.length) : (putL c o a).length = c.length := splice_len h
/-- Readings that are laid into others. -/
theorem rdc_part {N o : Nat} {R Q : Nat → Int × Bool} : ∀ (m : Nat), o + m ≤ N → putL (rdc N R) (o * 2) (rdc m Q) = rdc N (fun j => if o ≤ j ∧ j < o + m then Q (j - o) else R j)
  | 0, h => by
    have e : putL (rdc N R) (o * 2) (rdc 0 Q) = rdc N R := by
      show (rdc N R).take (o * 2) ++ ([] ++ (rdc N R).drop (o * 2 + 0)) = rdc N R
      rw [List.nil_append, Nat.add_zero, List.take_append_drop]
    rw [e]
    exact rdc_congr fun j _ => by rw [if_neg (by omega)]
  | m + 1, h => by
    have e0 : rdc (m + 1) Q = rdc m Q ++ rC (Q m) := rfl
    have lC : (rC (Q m)).length = 2 := rfl
    rw [e0, putL_app (by rw [rdc_len, rdc_len, lC]; omega), rdc_part m (by omega), rdc_len, show o * 2 + m * 2 = (o + m) * 2 by omega, rdc_put (by omega)]
    refine rdc_congr fun j hj => ?_
    rw [upR]
    by_cases c1 : j = o + m
    · rw [if_pos c1, if_pos (by omega), show j - o = m by omega]
    · rw [if_neg c1]
      by_cases c2 : o ≤ j ∧ j < o + m
      · rw [if_pos c2, if_pos (by omega)]
      · rw [if_neg c2, if_neg (by omega)]
theorem rdc_atoms : ∀ (n : Nat) (R : Nat → Int × Bool), Sp.atoms (rdc n R)
  | 0, _ => fun v hv => by cases hv
  | n + 1, R => fun v hv => by
    rw [rdc, List.mem_append] at hv
    rcases hv with h | h
    · exact rdc_atoms n R v h
    · simp only [rC, List.mem_cons, List.not_mem_nil, or_false] at h
      rcases h with rfl | rfl <;> rfl
noncomputable def orcJn : OrcV
  | [.agg ⟨[.string nm, .int .i64 f, .slice (some ⟨0, 0, none⟩) n _, .slice (some ⟨1, 0, none⟩) k _]⟩, .agg ⟨[.string nm2, .int .i64 f2, .slice (some ⟨2, 0, none⟩) n2 _, .slice (some ⟨3, 0, none⟩) k2 _]⟩],
      [some (.row e1 1 true true true), some (.row g1 2 true true true), some (.row e2 1 true true true), some (.row g2 2 true true true)] =>
    some (.tuple #[.agg #[.string nm, .int .i64 f, .slice (some ⟨4, 0, none⟩) (jnN f f2 n2) 0, .slice (some ⟨5, 0, none⟩) (jnK f n e1 g1 f2 n2 e2 g2) 0], .int .i64 0],
      [some (.row e1 1 true true true), some (.row g1 2 true true true), some (.row e2 1 true true true), some (.row g2 2 true true true), some (.row (jnX f n e1 g1 f2 n2 e2 g2) 1 true true true), some (.row (jnH f n e1 g1 f2 n2 e2 g2) 2 true true true)],
      okRun nm f n k e1 g1 ∧ okRun nm2 f2 n2 k2 e2 g2 ∧ f + n ≤ f2 ∧ f2 + n2 - f ≤ 4096)
  | _, _ => none
theorem okJn : OkV Try.prog 15 orcJn := by
  intro args H ret H' vc h hv
  unfold orcJn at h
  split at h
  · rename_i nm f n c k d nm2 f2 n2 c2 k2 d2 e1 g1 e2 g2
    cases h
    obtain ⟨r1, r2, h1, h2⟩ := hv
    have i1 := r1.1
    obtain ⟨x1, x2, x3, x4, x5, x6⟩ := i1
    obtain ⟨_, hf, hn, hfn, hx, _, _⟩ := run_zero r1.2
    have i2 := r2.1
    obtain ⟨y1, y2, y3, y4, y5, y6⟩ := i2
    obtain ⟨_, hf2, hn2, hfn2, hx2, _, _⟩ := run_zero r2.2
    have R1 := rdF_ok (P := knB (ihs g1)) hx x3
    have R2 := rdF_ok (P := knB (ihs g2)) hx2 y3
    refine fnP_res hm cs2_ok (hs := hsJn f f2 n n2 e1 e2 g1 g2) ?_
    show fnP Try.prog cs2 (hsJn f f2 n n2 e1 e2 g1 g2) 15 [.agg (runA nm f 0 n c 1 k d).toArray, .agg (runA nm2 f2 2 n2 c2 3 k2 d2).toArray] _ _
    have wN : (IntKind.wrap .i64 (f2 + (n2 : Int) - f)).toNat = jnN f f2 n2 := by rw [wrap_eq (by omega) (by omega)]; rfl
    have wM : IntKind.wrap .i64 (f2 + (n2 : Int) - f) = (jnN f f2 n2 : Int) := by rw [wrap_eq (by omega) (by omega), jnN]; omega
    have wo : IntKind.wrap .i64 (f2 - f) = ((f2 - f).toNat : Int) := by rw [wrap_eq (by omega) (by omega)]; omega
    have eN : jnN f f2 n2 = (f2 - f).toNat + n2 := by rw [jnN]; omega
    rw [jn_t, wN, wM, wo, Int.toNat_natCast, Int.toNat_natCast]
    have hput : putL (putL (zrdr (jnN f f2 n2)) 0 (rdG n e1 g1)) (0 + (f2 - f).toNat * 2) (rdG n2 e2 g2) = rdc (jnN f f2 n2) (jnQ f n e1 g1 f2 e2 g2) := by
      rw [zrdr, rdG, rdG]
      have := rdc_part (N := jnN f f2 n2) (o := 0) (R := fun _ => (0, false)) (Q := rdF (fxs e1) (knB (ihs g1))) n (by omega)
      rw [Nat.zero_mul] at this
      rw [this, show 0 + (f2 - f).toNat * 2 = (f2 - f).toNat * 2 from Nat.zero_add _, rdc_part n2 (by omega)]
      refine rdc_congr fun j hj => ?_
      rw [jnQ, jnR]
      by_cases c1 : j < n
      · rw [if_pos c1, if_neg (by omega), if_pos (by omega)]; rfl
      · rw [if_neg c1]
        by_cases c2 : j < (f2 - f).toNat
        · rw [if_pos c2, if_neg (by omega), if_neg (by omega)]
        · rw [if_neg c2, if_pos (by omega)]
    have hfew : ∀ i, i < jnN f f2 n2 → (jnQ f n e1 g1 f2 e2 g2 i).1.natAbs < 2 ^ 24 := fun i hi => by
      rw [jnQ, jnR]
      by_cases c1 : i < n
      · rw [if_pos c1]; exact Nat.lt_of_le_of_lt (R1.few i c1) (by decide)
      · rw [if_neg c1]
        by_cases c2 : i < (f2 - f).toNat
        · rw [if_pos c2]; decide
        · rw [if_neg c2]; exact Nat.lt_of_le_of_lt (R2.few _ (by omega)) (by decide)
    refine ⟨⟨r1⟩, ⟨r2⟩, ⟨by omega, by omega, by omega⟩, ⟨by omega, by omega, by omega⟩, br_of (fun h => ?_) (fun _ => ?_)⟩
    · rw [decide_eq_false (by omega), decide_eq_false (by omega)] at h
      simp [fi, wh] at h
    · refine ⟨⟨by omega, by omega, by omega⟩, ⟨rfl, by omega, by omega, by omega, zrdr_ok _⟩, ⟨r1⟩, ⟨by omega, by rw [zrdr, rdc_len]; omega, by rw [rdG, rdc_len], by rw [rdG]; exact rdc_atoms _ _⟩, ⟨by omega, by omega, by omega⟩, ⟨r2⟩, ⟨by omega, ?_, by rw [rdG, rdc_len], by rw [rdG]; exact rdc_atoms _ _⟩, ⟨r1.1, hput, by omega, hfew⟩, rfl, rfl⟩
      rw [putL_len (by rw [zrdr, rdG, rdc_len, rdc_len]; omega), zrdr, rdc_len]; omega
  · cases h
end
end Qq
end
section
/- A sample at a place. -/
open Go Go.Vm Go.Proofs Sp
namespace Sp
noncomputable section
noncomputable def atR (e1 g1 : List Value) (j : Nat) : Int × Bool := rdF (fxs e1) (knB (ihs g1)) j
noncomputable def atX (e1 g1 : List Value) (j : Nat) : Nat := smO (atR e1 g1 j).1
noncomputable def atB (e1 g1 : List Value) (j : Nat) : Bool := (atR e1 g1 j).2
end
end Sp
namespace Qq
noncomputable section
noncomputable def hsAt (e1 g1 : List Value) : Hs Try.prog where
  op y := if y = 101 then some (hCa Try.prog 31 orcCrG okCrG) else if y = 109 then some (hCa Try.prog 33 orcEd okEd) else if y = 401 then some (hCa Try.prog 34 orcRrG okRrG) else if y = 406 then some (hIa Try.prog) else if y = 407 then some (hLd Try.prog (zR (rdF (fxs e1) (knB (ihs g1))))) else if y = 502 then some (hCa Try.prog 35 orcSmO okSmO) else none
  au := au2
theorem at_t (nm : ByteArray) (f : Int) (p : Int) (n : Nat) (c : Nat) (k : Nat) (d : Nat) (e1 : List Value) (g1 : List Value) (K : Value → Heap → Prop) :
    (fnP Try.prog cs2 (hsAt e1 g1) (9 : FuncId) [Value.agg (List.toArray (runA nm f (0 : Nat) n c (1 : Nat) k d)), Value.int IntKind.i64 p] [some (AObj.row e1 (1 : Nat) true true true), some (AObj.row g1 (2 : Nat) true true true)] K) =
    (Is (okRun nm f n k e1 g1) ∧ br (decide (p < f)) (K (Value.tuple #[Value.float FloatKind.f32 (0 : Nat), Value.bool false, Value.int IntKind.i64 (10 : Int)]) (some (AObj.row e1 (1 : Nat) true true true) :: some (AObj.row g1 (2 : Nat) true true true) :: noH)) (Is ((0 : Int) ≤ f ∧ f ≤ (100000000 : Int) ∧ n ≤ (100000 : Nat)) ∧ br (fi [(0 : Int), wh (decide (f + (↑n : Int) ≤ p)) (10 : Int)] != (0 : Int)) (K (Value.tuple #[Value.float FloatKind.f32 (0 : Nat), Value.bool false, Value.int IntKind.i64 (fi [(0 : Int), wh (decide (f + (↑n : Int) ≤ p)) (10 : Int)])]) (some (AObj.row e1 (1 : Nat) true true true) :: some (AObj.row g1 (2 : Nat) true true true) :: noH)) (Is (okRun nm f n k e1 g1) ∧ Is ((0 : Int) ≤ IntKind.wrap IntKind.i64 (p - f) ∧ IntKind.wrap IntKind.i64 (p - f) < (↑n : Int)) ∧ Is ((if (0 : Nat) + Int.toNat (IntKind.wrap IntKind.i64 (p - f)) * (2 : Nat) + (2 : Nat) ≤ List.length (rdG n e1 g1) then some (Value.agg (List.toArray (List.take (2 : Nat) (List.drop ((0 : Nat) + Int.toNat (IntKind.wrap IntKind.i64 (p - f)) * (2 : Nat)) (rdG n e1 g1))))) else none) = some (Value.agg #[Value.int IntKind.i64 (rdV (rdF (fxs e1) (knB (ihs g1))) ((0 : Nat) + Int.toNat (IntKind.wrap IntKind.i64 (p - f)) * (2 : Nat))), Value.bool (rdW (rdF (fxs e1) (knB (ihs g1))) ((0 : Nat) + Int.toNat (IntKind.wrap IntKind.i64 (p - f)) * (2 : Nat)))])) ∧ Is (Int.natAbs (rdV (rdF (fxs e1) (knB (ihs g1))) ((0 : Nat) + Int.toNat (IntKind.wrap IntKind.i64 (p - f)) * (2 : Nat))) < (16777216 : Nat)) ∧ K (Value.tuple #[Value.float FloatKind.f32 (smO (rdV (rdF (fxs e1) (knB (ihs g1))) ((0 : Nat) + Int.toNat (IntKind.wrap IntKind.i64 (p - f)) * (2 : Nat)))), Value.bool (rdW (rdF (fxs e1) (knB (ihs g1))) ((0 : Nat) + Int.toNat (IntKind.wrap IntKind.i64 (p - f)) * (2 : Nat))), Value.int IntKind.i64 (0 : Int)]) (some (AObj.row e1 (1 : Nat) true true true) :: some (AObj.row g1 (2 : Nat) true true true) :: noH)))) := by kernel_rfl
noncomputable def orcAt : OrcV
  | [.agg ⟨[.string nm, .int .i64 f, .slice (some ⟨0, 0, none⟩) n _, .slice (some ⟨1, 0, none⟩) k _]⟩, .int .i64 p], [some (.row e1 1 true true true), some (.row g1 2 true true true)] =>
    some (.tuple #[.float .f32 (atX e1 g1 (p - f).toNat), .bool (atB e1 g1 (p - f).toNat), .int .i64 0], [some (.row e1 1 true true true), some (.row g1 2 true true true)], okRun nm f n k e1 g1 ∧ f ≤ p ∧ p < f + n)
  | _, _ => none
theorem okAt : OkV Try.prog 9 orcAt := by
  intro args H ret H' vc h hv
  unfold orcAt at h
  split at h
  · rename_i nm f n c k d p e1 g1
    cases h
    obtain ⟨r1, h1, h2⟩ := hv
    obtain ⟨x1, x2, x3, x4, x5, x6⟩ := r1.1
    obtain ⟨_, hf, hn, hfn, hx, _, _⟩ := run_zero r1.2
    have R1 := rdF_ok (P := knB (ihs g1)) hx x3
    refine fnP_res hm cs2_ok (hs := hsAt e1 g1) ?_
    show fnP Try.prog cs2 (hsAt e1 g1) 9 [.agg (runA nm f 0 n c 1 k d).toArray, .int .i64 p] _ _
    have wo : (IntKind.wrap .i64 (p - f)).toNat = (p - f).toNat := by rw [wrap_eq (by omega) (by omega)]
    have hlt : (p - f).toNat < n := by omega
    rw [at_t, wo, Nat.zero_add, rdV_at, rdW_at]
    refine ⟨⟨r1⟩, br_of (fun h => by have := of_decide_eq_true h; omega) (fun _ => ⟨⟨by omega, by omega, by omega⟩, br_of (fun h => ?_) (fun _ => ?_)⟩)⟩
    · rw [decide_eq_false (by omega)] at h
      simp [fi, wh] at h
    · exact ⟨⟨r1⟩, ⟨by rw [wrap_eq (by omega) (by omega)]; omega, by rw [wrap_eq (by omega) (by omega)]; omega⟩, ⟨rdc_take hlt⟩, ⟨Nat.lt_of_le_of_lt (R1.few _ hlt) (by decide)⟩, rfl, rfl⟩
  · cases h
end
end Qq
end
section
/- A struct that is built with a nil list: the list is made one like any other. -/
namespace Sp
open Go
end Sp
namespace Go.Vm
noncomputable section
def fBn (P : Program) (off es : Nat) (o : Oper) (env : List Value) (H : Heap) : Option (Out × Prop) :=
  match o.op with
  | .build t ps =>
    match evBuild P env t ps with
    | some ⟨.agg xs, [], D, []⟩ =>
      match emp (xs.toList.getD off poi) with
      | true => some (⟨.agg (xs.toList.set off (lv H)).toArray, [(H.length, lo es)], D, [H.length]⟩, True)
      | false => none
    | _ => none
  | _ => none
def hBn (P : Program) (off es : Nat) : Hint P where
  fn := fBn P off es
  ok := by
    intro o env H out vc h _
    unfold fBn at h
    split at h
    · rename_i t ps ho
      split at h
      · rename_i xs D hb
        split at h
        · rename_i hemp
          cases h
          have h0 := build_ok (H := H) ho hb
          intro F A ψ env1 H1 a w hr he hD hnu K Q hK
          refine h0 F A ψ env1 H1 a w hr he hD (by simp) K Q fun ψ1 a1 w1 hr1 => ?_
          have hA : (fun id => A id ∨ id ∈ ([] : List Nat)) = A := by funext id; simp
          rw [hA] at hr1
          have hn : ¬ A H.length := hnu _ (by simp)
          have hag := mono_new (ψ := ψ1) (g := ⟨0, 0, 0, es⟩) hn
          refine hK (upd ψ1 H.length ⟨0, 0, 0, es⟩) a1 w1 ?_
          have hA2 : (fun id => A id ∨ id ∈ [H.length]) = fun id => A id ∨ id = H.length := by funext id; simp
          simp only [] at hA2 ⊢
          rw [hA2]
          have hh : HRel F (fun id => A id ∨ id = H.length) (upd ψ1 H.length ⟨0, 0, 0, es⟩) (ap H1 [(H.length, lo es)]) w1 := hr1.heap.void hn es true true true
          cases hd : o.dst with
          | none =>
            rw [hd] at hr1
            exact ⟨fun i => (hr1.slot i).mono hag, hr1.len, hr1.defers, hh⟩
          | some d =>
            rw [hd] at hr1
            have e : put env1 (some d) (.agg (xs.toList.set off (lv H)).toArray) = st (put env1 (some d) (.agg xs)) d (.agg (xs.toList.set off (lv H)).toArray) := by
              rw [put_some, put_some, st_eq, List.set_set]
            have hlen := hr1.len
            refine ⟨fun i => ?_, by rw [e, st_eq]; simpa using hlen, hr1.defers, hh⟩
            rw [e]
            by_cases hlt : d < env1.length
            · refine slot_turn (hr := hr1) hag ?_ i
              have hs := hr1.slot d
              rw [put_some] at hs
              have hg : (env1.set d (.agg xs)).getD d poi = .agg xs := by simp [List.getD_eq_getElem?_getD, hlt]
              rw [hg] at hs
              obtain ⟨ys, e1, hsz, h1, hh⟩ := hs.agg_inv
              rw [e1]
              refine .agg _ _ (by simpa using hsz) h1 fun j => ?_
              have e2 : (xs.toList.set off (lv H)).toArray.getD j poi = (xs.toList.set off (lv H)).getD j poi := by simp [Array.getD_eq_getD_getElem?, List.getD_eq_getElem?_getD]
              have e3 : ∀ j, xs.toList.getD j poi = xs.getD j poi := fun j => by simp [Array.getD_eq_getD_getElem?, List.getD_eq_getElem?_getD]
              rw [e2, setl_get j hemp]
              split
              · rename_i e; subst e
                have := hh j
                rw [← e3] at this
                exact emp_list hemp this (.inr rfl)
              · rw [e3]; exact (hh j).mono hag
            · have hge : env1.length ≤ d := Nat.le_of_not_lt hlt
              rw [put_some, List.set_eq_of_length_le hge, st_eq, List.set_eq_of_length_le hge]
              have := hr1.slot i
              rw [put_some, List.set_eq_of_length_le hge] at this
              exact this.mono hag
        · cases h
      · cases h
    · cases h
end
end Go.Vm
end
section
/- Packets, joined: the program. -/
open Go Go.Vm Go.Proofs Sp
namespace Sp
noncomputable section
/-- The packets of what is kept. -/
noncomputable def mkPs (s : Int) (kp : Nat → Bool) (X : Nat → Int) (m : Nat) : List Pk := (kl kp m).map fun q : Nat => (⟨s, (q : Int), smO (X (3 * q)), smO (X (3 * q + 1)), smO (X (3 * q + 2))⟩ : Pk)
/-- The run of the first i of them. -/
def sjF (kp : Nat → Bool) (m i : Nat) : Int := if i = 0 then 0 else 3 * (kat kp m 0 : Int)
def sjN (kp : Nat → Bool) (m i : Nat) : Nat := if i = 0 then 0 else 3 * (kat kp m (i - 1) + 1) - 3 * kat kp m 0
noncomputable def sjX (kp : Nat → Bool) (X : Nat → Int) (m i : Nat) : List Value := flts (mkX (kR kp X (3 * kat kp m 0)) (sjN kp m i))
noncomputable def sjH (kp : Nat → Bool) (X : Nat → Int) (m i : Nat) : List Value := ints (mkS (mkB (kR kp X (3 * kat kp m 0))) (sjN kp m i))
noncomputable def sjK (kp : Nat → Bool) (X : Nat → Int) (m i : Nat) : Nat := mkK (mkB (kR kp X (3 * kat kp m 0))) (sjN kp m i)
end
end Sp
namespace Qq
noncomputable section
def nmR : ByteArray := ⟨#[114]⟩
noncomputable def orcC16 : OrcV
  | [.agg ⟨[.string nm, .int .i64 f, .slice (some ⟨0, 0, none⟩) n _, .slice (some ⟨1, 0, none⟩) k _]⟩], [some (.row e1 1 true true true), some (.row e2 2 true true true)] =>
    some (.int .i64 0, [some (.row e1 1 true true true), some (.row e2 2 true true true)], okRun nm f n k e1 e2)
  | _, _ => none
theorem okC16 : OkV Try.prog 16 orcC16 := by
  intro args H ret H' vc h hv
  unfold orcC16 at h
  split at h
  · rename_i nm f n c k d e1 e2
    cases h
    obtain ⟨h1, h2⟩ := hv
    have := okCrT (fxs e1) (ihs e2) _ _ _ _ _ (show orcCrT (fxs e1) (ihs e2) [.agg ⟨[.string nm, .int .i64 f, .slice (some ⟨0, 0, none⟩) n c, .slice (some ⟨1, 0, none⟩) k d]⟩] [some (.row e1 1 true true true), some (.row e2 2 true true true)] = some _ from rfl) h1
    rwa [h2] at this
  · cases h
noncomputable def lpJ0 (bs : List Value) (s : Int) (kp : Nat → Bool) (X : Nat → Int) (m : Nat) : Lp where
  σ := Nat
  E _ := slots 78 [(2, .pointer (some ⟨1, 0, none⟩)), (4, .slice (some ⟨2, 0, none⟩) (mkPs s kp X m).length 0), (7, .pointer (some ⟨3, 0, none⟩))]
  Hp _ := [some (.row bs 1 true true true), some (.row [.string ⟨#[]⟩, .int .i64 0, .slice none 0 0, .slice none 0 0] 0 false true true), some (.row (pks (mkPs s kp X m)) 5 true true true), some (.row [.string nmR, .int .i64 0, .slice (some ⟨4, 0, none⟩) 0 0, .slice (some ⟨5, 0, none⟩) 0 0] 0 false true false), some (.row [] 1 true true true), some (.row [] 2 true true true)]
  I s := s = 0
  m _ := 0
noncomputable def lpSj (bs : List Value) (s : Int) (kp : Nat → Bool) (X : Nat → Int) (m : Nat) : Lp where
  σ := Nat
  E i := slots 78 [(2, .pointer (some ⟨1, 0, none⟩)), (7, .pointer (some ⟨2, 0, none⟩)), (30, .slice (some ⟨5, 0, none⟩) (mkPs s kp X m).length 0), (31, .int .i64 ((mkPs s kp X m).length : Int)), (32, .int .i64 (i : Int))]
  Hp i := [some (.row bs 1 true true true), some (.row [.string ⟨#[]⟩, .int .i64 0, .slice none 0 0, .slice none 0 0] 0 false true true), some (.row [.string nmR, .int .i64 (sjF kp m i), .slice (some ⟨3, 0, none⟩) (sjN kp m i) 0, .slice (some ⟨4, 0, none⟩) (sjK kp X m i) 0] 0 false true false), some (.row (sjX kp X m i) 1 true true true), some (.row (sjH kp X m i) 2 true true true), some (.row (pks (mkPs s kp X m)) 5 true true true)]
  I i := i ≤ (mkPs s kp X m).length
  m i := (mkPs s kp X m).length - i
noncomputable def hsSj (bs : List Value) (s : Int) (kp : Nat → Bool) (X : Nat → Int) (m : Nat) : Hs Try.prog where
  op y := if y = 102 then some (hAe Try.prog true) else if y = 103 then some (hCa Try.prog 7 (orcRc (mkPs s kp X m)) (okRc _)) else if y = 701 then some (hIa Try.prog) else if y = 702 then some (hLd Try.prog (gPk (mkPs s kp X m)))
    else if y = 1007 then some (hBn Try.prog 3 2) else if y = 1301 then some (hCa Try.prog 10 orcOwTG okOwTG) else if y = 1303 then some (hCa Try.prog 15 orcJn okJn) else if [1404, 1802].contains y then some (hCa Try.prog 16 orcC16 okC16) else none
  cut y := if y = 5 then some (lpJ0 bs s kp X m) else none
  lp y := if y = 6 then some (lpSj bs s kp X m) else none
  cl y := if y = 5 then keep 78 [2, 4, 7] else keep 78 [2, 7, 30, 31, 32]
  nl y := if y = 5 then [.cell 3 2 1, .cell 3 3 2] else []
  au := au2
theorem sj_t (bs : List Value) (n : Nat) (c : Nat) (s : Int) (kp : Nat → Bool) (X : Nat → Int) (m : Nat) (K : Value → Heap → Prop) :
    (fnP Try.prog c0 (hsSj bs s kp X m) (6 : FuncId) [Value.slice (some { block := (0 : Nat), off := (0 : Nat) }) n c] [some (AObj.row bs (1 : Nat) true true true)] K) =
    (Is (List.length bs = n * (1 : Nat) ∧ (∀ (v : Value), v ∈ bs → atom v = true) ∧ n * (1 : Nat) ≤ (140737488355328 : Nat) ∧ n ≤ (9223372036854775807 : Nat)) ∧ Is (n = (20 : Nat) * List.length (mkPs s kp X m) ∧ bs = bys (frs (mkPs s kp X m)) ∧ okPs (mkPs s kp X m)) ∧ br (decide ((12 : Int) < (↑(List.length (mkPs s kp X m)) : Int))) (K (Value.tuple #[Value.agg #[Value.string { data := #[] }, Value.int IntKind.i64 (0 : Int), Value.slice none (0 : Nat) (0 : Nat), Value.slice none (0 : Nat) (0 : Nat)], Value.bool false]) (some (AObj.row bs (1 : Nat) true true true) :: noH)) ((∃ (s_1 : Nat), Is (s_1 = (0 : Nat)) ∧ [poi, poi, Value.pointer (some { block := (1 : Nat), off := (0 : Nat) }), poi, Value.slice (some { block := (2 : Nat), off := (0 : Nat) }) (List.length (mkPs s kp X m)) (0 : Nat), poi, poi, Value.pointer (some { block := (3 : Nat), off := (0 : Nat) }), poi, poi, poi, poi, poi, poi, poi, poi, poi, poi, poi, poi, poi, poi, poi, poi, poi, poi, poi, poi, poi, poi, poi, poi, poi, poi, poi, poi, poi, poi, poi, poi, poi, poi, poi, poi, poi, poi, poi, poi, poi, poi, poi, poi, poi, poi, poi, poi, poi, poi, poi, poi, poi, poi, poi, poi, poi, poi, poi, poi, poi, poi, poi, poi, poi, poi, poi, poi, poi, poi] = [poi, poi, Value.pointer (some { block := (1 : Nat), off := (0 : Nat) }), poi, Value.slice (some { block := (2 : Nat), off := (0 : Nat) }) (List.length (mkPs s kp X m)) (0 : Nat), poi, poi, Value.pointer (some { block := (3 : Nat), off := (0 : Nat) }), poi, poi, poi, poi, poi, poi, poi, poi, poi, poi, poi, poi, poi, poi, poi, poi, poi, poi, poi, poi, poi, poi, poi, poi, poi, poi, poi, poi, poi, poi, poi, poi, poi, poi, poi, poi, poi, poi, poi, poi, poi, poi, poi, poi, poi, poi, poi, poi, poi, poi, poi, poi, poi, poi, poi, poi, poi, poi, poi, poi, poi, poi, poi, poi, poi, poi, poi, poi, poi, poi] ∧ some (AObj.row bs (1 : Nat) true true true) :: some (AObj.row [Value.string { data := #[] }, Value.int IntKind.i64 (0 : Int), Value.slice none (0 : Nat) (0 : Nat), Value.slice none (0 : Nat) (0 : Nat)] (0 : Nat) false true true) :: some (AObj.row (pks (mkPs s kp X m)) (5 : Nat) true true true) :: some (AObj.row [Value.string { data := #[(114 : UInt8)] }, Value.int IntKind.i64 (0 : Int), Value.slice (some { block := (4 : Nat), off := (0 : Nat) }) (0 : Nat) (0 : Nat), Value.slice (some { block := (5 : Nat), off := (0 : Nat) }) (0 : Nat) (0 : Nat)] (0 : Nat) false true false) :: some (AObj.row [] (1 : Nat) true true true) :: some (AObj.row [] (2 : Nat) true true true) :: noH = some (AObj.row bs (1 : Nat) true true true) :: some (AObj.row [Value.string { data := #[] }, Value.int IntKind.i64 (0 : Int), Value.slice none (0 : Nat) (0 : Nat), Value.slice none (0 : Nat) (0 : Nat)] (0 : Nat) false true true) :: some (AObj.row (pks (mkPs s kp X m)) (5 : Nat) true true true) :: some (AObj.row [Value.string { data := #[(114 : UInt8)] }, Value.int IntKind.i64 (0 : Int), Value.slice (some { block := (4 : Nat), off := (0 : Nat) }) (0 : Nat) (0 : Nat), Value.slice (some { block := (5 : Nat), off := (0 : Nat) }) (0 : Nat) (0 : Nat)] (0 : Nat) false true false) :: some (AObj.row [] (1 : Nat) true true true) :: some (AObj.row [] (2 : Nat) true true true) :: noH) ∧ ∀ (s_1 : Nat), Is (s_1 = (0 : Nat)) → (∃ (s_2 : Nat), Is (s_2 ≤ List.length (mkPs s kp X m)) ∧ [poi, poi, Value.pointer (some { block := (1 : Nat), off := (0 : Nat) }), poi, poi, poi, poi, Value.pointer (some { block := (2 : Nat), off := (0 : Nat) }), poi, poi, poi, poi, poi, poi, poi, poi, poi, poi, poi, poi, poi, poi, poi, poi, poi, poi, poi, poi, poi, poi, Value.slice (some { block := (5 : Nat), off := (0 : Nat) }) (List.length (mkPs s kp X m)) (0 : Nat), Value.int IntKind.i64 (↑(List.length (mkPs s kp X m)) : Int), Value.int IntKind.i64 (0 : Int), poi, poi, poi, poi, poi, poi, poi, poi, poi, poi, poi, poi, poi, poi, poi, poi, poi, poi, poi, poi, poi, poi, poi, poi, poi, poi, poi, poi, poi, poi, poi, poi, poi, poi, poi, poi, poi, poi, poi, poi, poi, poi, poi, poi, poi] = [poi, poi, Value.pointer (some { block := (1 : Nat), off := (0 : Nat) }), poi, poi, poi, poi, Value.pointer (some { block := (2 : Nat), off := (0 : Nat) }), poi, poi, poi, poi, poi, poi, poi, poi, poi, poi, poi, poi, poi, poi, poi, poi, poi, poi, poi, poi, poi, poi, Value.slice (some { block := (5 : Nat), off := (0 : Nat) }) (List.length (mkPs s kp X m)) (0 : Nat), Value.int IntKind.i64 (↑(List.length (mkPs s kp X m)) : Int), Value.int IntKind.i64 (↑s_2 : Int), poi, poi, poi, poi, poi, poi, poi, poi, poi, poi, poi, poi, poi, poi, poi, poi, poi, poi, poi, poi, poi, poi, poi, poi, poi, poi, poi, poi, poi, poi, poi, poi, poi, poi, poi, poi, poi, poi, poi, poi, poi, poi, poi, poi, poi] ∧ some (AObj.row bs (1 : Nat) true true true) :: some (AObj.row [Value.string { data := #[] }, Value.int IntKind.i64 (0 : Int), Value.slice none (0 : Nat) (0 : Nat), Value.slice none (0 : Nat) (0 : Nat)] (0 : Nat) false true true) :: some (AObj.row [Value.string { data := #[(114 : UInt8)] }, Value.int IntKind.i64 (0 : Int), Value.slice (some { block := (3 : Nat), off := (0 : Nat) }) (0 : Nat) (0 : Nat), Value.slice (some { block := (4 : Nat), off := (0 : Nat) }) (0 : Nat) (0 : Nat)] (0 : Nat) false true false) :: some (AObj.row [] (1 : Nat) true true true) :: some (AObj.row [] (2 : Nat) true true true) :: some (AObj.row (pks (mkPs s kp X m)) (5 : Nat) true true true) :: noH = some (AObj.row bs (1 : Nat) true true true) :: some (AObj.row [Value.string { data := #[] }, Value.int IntKind.i64 (0 : Int), Value.slice none (0 : Nat) (0 : Nat), Value.slice none (0 : Nat) (0 : Nat)] (0 : Nat) false true true) :: some (AObj.row [Value.string { data := #[(114 : UInt8)] }, Value.int IntKind.i64 (sjF kp m s_2), Value.slice (some { block := (3 : Nat), off := (0 : Nat) }) (sjN kp m s_2) (0 : Nat), Value.slice (some { block := (4 : Nat), off := (0 : Nat) }) (sjK kp X m s_2) (0 : Nat)] (0 : Nat) false true false) :: some (AObj.row (sjX kp X m s_2) (1 : Nat) true true true) :: some (AObj.row (sjH kp X m s_2) (2 : Nat) true true true) :: some (AObj.row (pks (mkPs s kp X m)) (5 : Nat) true true true) :: noH) ∧ ∀ (s_2 : Nat), Is (s_2 ≤ List.length (mkPs s kp X m)) → br (decide ((↑s_2 : Int) < (↑(List.length (mkPs s kp X m)) : Int))) (Is ((0 : Int) ≤ (↑s_2 : Int) ∧ (↑s_2 : Int) < (↑(List.length (mkPs s kp X m)) : Int)) ∧ Is ((if (0 : Nat) + Int.toNat (↑s_2 : Int) * (5 : Nat) + (5 : Nat) ≤ List.length (pks (mkPs s kp X m)) then some (Value.agg (List.toArray (List.take (5 : Nat) (List.drop ((0 : Nat) + Int.toNat (↑s_2 : Int) * (5 : Nat)) (pks (mkPs s kp X m)))))) else none) = some (Value.agg #[Value.int IntKind.i64 (oS (mkPs s kp X m) ((0 : Nat) + Int.toNat (↑s_2 : Int) * (5 : Nat))), Value.int IntKind.i64 (oC (mkPs s kp X m) ((0 : Nat) + Int.toNat (↑s_2 : Int) * (5 : Nat))), Value.float FloatKind.f32 (oX (mkPs s kp X m) ((0 : Nat) + Int.toNat (↑s_2 : Int) * (5 : Nat))), Value.float FloatKind.f32 (oY (mkPs s kp X m) ((0 : Nat) + Int.toNat (↑s_2 : Int) * (5 : Nat))), Value.float FloatKind.f32 (oZ (mkPs s kp X m) ((0 : Nat) + Int.toNat (↑s_2 : Int) * (5 : Nat)))])) ∧ br (decide (oC (mkPs s kp X m) ((0 : Nat) + Int.toNat (↑s_2 : Int) * (5 : Nat)) < (0 : Int))) (K (Value.tuple #[Value.agg #[Value.string { data := #[] }, Value.int IntKind.i64 (0 : Int), Value.slice none (0 : Nat) (0 : Nat), Value.slice none (0 : Nat) (0 : Nat)], Value.bool false]) (some (AObj.row bs (1 : Nat) true true true) :: noH)) (br (decide ((20 : Int) < oC (mkPs s kp X m) ((0 : Nat) + Int.toNat (↑s_2 : Int) * (5 : Nat)))) (K (Value.tuple #[Value.agg #[Value.string { data := #[] }, Value.int IntKind.i64 (0 : Int), Value.slice none (0 : Nat) (0 : Nat), Value.slice none (0 : Nat) (0 : Nat)], Value.bool false]) (some (AObj.row bs (1 : Nat) true true true) :: noH)) (Is True ∧ br ((↑s_2 : Int) == (0 : Int)) (∃ (s' : Nat), Is (s' ≤ List.length (mkPs s kp X m)) ∧ Is (List.length (mkPs s kp X m) - s' < List.length (mkPs s kp X m) - s_2) ∧ [poi, poi, Value.pointer (some { block := (1 : Nat), off := (0 : Nat) }), poi, poi, poi, poi, Value.pointer (some { block := (2 : Nat), off := (0 : Nat) }), poi, poi, poi, poi, poi, poi, poi, poi, poi, poi, poi, poi, poi, poi, poi, poi, poi, poi, poi, poi, poi, poi, Value.slice (some { block := (5 : Nat), off := (0 : Nat) }) (List.length (mkPs s kp X m)) (0 : Nat), Value.int IntKind.i64 (↑(List.length (mkPs s kp X m)) : Int), Value.int IntKind.i64 (IntKind.wrap IntKind.i64 ((↑s_2 : Int) + (1 : Int))), poi, poi, poi, poi, poi, poi, poi, poi, poi, poi, poi, poi, poi, poi, poi, poi, poi, poi, poi, poi, poi, poi, poi, poi, poi, poi, poi, poi, poi, poi, poi, poi, poi, poi, poi, poi, poi, poi, poi, poi, poi, poi, poi, poi, poi] = [poi, poi, Value.pointer (some { block := (1 : Nat), off := (0 : Nat) }), poi, poi, poi, poi, Value.pointer (some { block := (2 : Nat), off := (0 : Nat) }), poi, poi, poi, poi, poi, poi, poi, poi, poi, poi, poi, poi, poi, poi, poi, poi, poi, poi, poi, poi, poi, poi, Value.slice (some { block := (5 : Nat), off := (0 : Nat) }) (List.length (mkPs s kp X m)) (0 : Nat), Value.int IntKind.i64 (↑(List.length (mkPs s kp X m)) : Int), Value.int IntKind.i64 (↑s' : Int), poi, poi, poi, poi, poi, poi, poi, poi, poi, poi, poi, poi, poi, poi, poi, poi, poi, poi, poi, poi, poi, poi, poi, poi, poi, poi, poi, poi, poi, poi, poi, poi, poi, poi, poi, poi, poi, poi, poi, poi, poi, poi, poi, poi, poi] ∧ some (AObj.row bs (1 : Nat) true true true) :: some (AObj.row [Value.string { data := #[] }, Value.int IntKind.i64 (0 : Int), Value.slice none (0 : Nat) (0 : Nat), Value.slice none (0 : Nat) (0 : Nat)] (0 : Nat) false true true) :: some (AObj.row [Value.string { data := #[(114 : UInt8)] }, Value.int IntKind.i64 (IntKind.wrap IntKind.i64 ((3 : Int) * oC (mkPs s kp X m) ((0 : Nat) + Int.toNat (↑s_2 : Int) * (5 : Nat)))), Value.slice (some { block := (3 : Nat), off := (0 : Nat) }) (3 : Nat) (0 : Nat), Value.slice (some { block := (4 : Nat), off := (0 : Nat) }) (0 : Nat) (0 : Nat)] (0 : Nat) false true (false && List.all [Value.string { data := #[(114 : UInt8)] }, Value.int IntKind.i64 (IntKind.wrap IntKind.i64 ((3 : Int) * oC (mkPs s kp X m) ((0 : Nat) + Int.toNat (↑s_2 : Int) * (5 : Nat)))), Value.slice (some { block := (8 : Nat), off := (0 : Nat) }) (3 : Nat) (0 : Nat), Value.slice (some { block := (9 : Nat), off := (0 : Nat) }) (0 : Nat) (0 : Nat)] atom)) :: some (AObj.row [Value.float FloatKind.f32 (oX (mkPs s kp X m) ((0 : Nat) + Int.toNat (↑s_2 : Int) * (5 : Nat))), Value.float FloatKind.f32 (oY (mkPs s kp X m) ((0 : Nat) + Int.toNat (↑s_2 : Int) * (5 : Nat))), Value.float FloatKind.f32 (oZ (mkPs s kp X m) ((0 : Nat) + Int.toNat (↑s_2 : Int) * (5 : Nat)))] (1 : Nat) true true (List.all [Value.float FloatKind.f32 (oX (mkPs s kp X m) ((0 : Nat) + Int.toNat (↑s_2 : Int) * (5 : Nat))), Value.float FloatKind.f32 (oY (mkPs s kp X m) ((0 : Nat) + Int.toNat (↑s_2 : Int) * (5 : Nat))), Value.float FloatKind.f32 (oZ (mkPs s kp X m) ((0 : Nat) + Int.toNat (↑s_2 : Int) * (5 : Nat)))] atom)) :: some (AObj.row [] (2 : Nat) true true true) :: some (AObj.row (pks (mkPs s kp X m)) (5 : Nat) true true true) :: noH = some (AObj.row bs (1 : Nat) true true true) :: some (AObj.row [Value.string { data := #[] }, Value.int IntKind.i64 (0 : Int), Value.slice none (0 : Nat) (0 : Nat), Value.slice none (0 : Nat) (0 : Nat)] (0 : Nat) false true true) :: some (AObj.row [Value.string { data := #[(114 : UInt8)] }, Value.int IntKind.i64 (sjF kp m s'), Value.slice (some { block := (3 : Nat), off := (0 : Nat) }) (sjN kp m s') (0 : Nat), Value.slice (some { block := (4 : Nat), off := (0 : Nat) }) (sjK kp X m s') (0 : Nat)] (0 : Nat) false true false) :: some (AObj.row (sjX kp X m s') (1 : Nat) true true true) :: some (AObj.row (sjH kp X m s') (2 : Nat) true true true) :: some (AObj.row (pks (mkPs s kp X m)) (5 : Nat) true true true) :: noH) (Is (isRunG (sjN kp m s_2) (sjK kp X m s_2) (sjX kp X m s_2) (sjH kp X m s_2)) ∧ Is (okRun { data := #[(114 : UInt8)] } (sjF kp m s_2) (sjN kp m s_2) (sjK kp X m s_2) (sjX kp X m s_2) (sjH kp X m s_2) ∧ okRun { data := #[(114 : UInt8)] } (IntKind.wrap IntKind.i64 ((3 : Int) * oC (mkPs s kp X m) ((0 : Nat) + Int.toNat (↑s_2 : Int) * (5 : Nat)))) (3 : Nat) (0 : Nat) [Value.float FloatKind.f32 (oX (mkPs s kp X m) ((0 : Nat) + Int.toNat (↑s_2 : Int) * (5 : Nat))), Value.float FloatKind.f32 (oY (mkPs s kp X m) ((0 : Nat) + Int.toNat (↑s_2 : Int) * (5 : Nat))), Value.float FloatKind.f32 (oZ (mkPs s kp X m) ((0 : Nat) + Int.toNat (↑s_2 : Int) * (5 : Nat)))] [] ∧ sjF kp m s_2 + (↑(sjN kp m s_2) : Int) ≤ IntKind.wrap IntKind.i64 ((3 : Int) * oC (mkPs s kp X m) ((0 : Nat) + Int.toNat (↑s_2 : Int) * (5 : Nat))) ∧ IntKind.wrap IntKind.i64 ((3 : Int) * oC (mkPs s kp X m) ((0 : Nat) + Int.toNat (↑s_2 : Int) * (5 : Nat))) + (3 : Int) - sjF kp m s_2 ≤ (4096 : Int)) ∧ Is (okRun { data := #[(114 : UInt8)] } (sjF kp m s_2) (jnN (sjF kp m s_2) (IntKind.wrap IntKind.i64 ((3 : Int) * oC (mkPs s kp X m) ((0 : Nat) + Int.toNat (↑s_2 : Int) * (5 : Nat)))) (3 : Nat)) (jnK (sjF kp m s_2) (sjN kp m s_2) (sjX kp X m s_2) (sjH kp X m s_2) (IntKind.wrap IntKind.i64 ((3 : Int) * oC (mkPs s kp X m) ((0 : Nat) + Int.toNat (↑s_2 : Int) * (5 : Nat)))) (3 : Nat) [Value.float FloatKind.f32 (oX (mkPs s kp X m) ((0 : Nat) + Int.toNat (↑s_2 : Int) * (5 : Nat))), Value.float FloatKind.f32 (oY (mkPs s kp X m) ((0 : Nat) + Int.toNat (↑s_2 : Int) * (5 : Nat))), Value.float FloatKind.f32 (oZ (mkPs s kp X m) ((0 : Nat) + Int.toNat (↑s_2 : Int) * (5 : Nat)))] []) (jnX (sjF kp m s_2) (sjN kp m s_2) (sjX kp X m s_2) (sjH kp X m s_2) (IntKind.wrap IntKind.i64 ((3 : Int) * oC (mkPs s kp X m) ((0 : Nat) + Int.toNat (↑s_2 : Int) * (5 : Nat)))) (3 : Nat) [Value.float FloatKind.f32 (oX (mkPs s kp X m) ((0 : Nat) + Int.toNat (↑s_2 : Int) * (5 : Nat))), Value.float FloatKind.f32 (oY (mkPs s kp X m) ((0 : Nat) + Int.toNat (↑s_2 : Int) * (5 : Nat))), Value.float FloatKind.f32 (oZ (mkPs s kp X m) ((0 : Nat) + Int.toNat (↑s_2 : Int) * (5 : Nat)))] []) (jnH (sjF kp m s_2) (sjN kp m s_2) (sjX kp X m s_2) (sjH kp X m s_2) (IntKind.wrap IntKind.i64 ((3 : Int) * oC (mkPs s kp X m) ((0 : Nat) + Int.toNat (↑s_2 : Int) * (5 : Nat)))) (3 : Nat) [Value.float FloatKind.f32 (oX (mkPs s kp X m) ((0 : Nat) + Int.toNat (↑s_2 : Int) * (5 : Nat))), Value.float FloatKind.f32 (oY (mkPs s kp X m) ((0 : Nat) + Int.toNat (↑s_2 : Int) * (5 : Nat))), Value.float FloatKind.f32 (oZ (mkPs s kp X m) ((0 : Nat) + Int.toNat (↑s_2 : Int) * (5 : Nat)))] [])) ∧ ∃ (s' : Nat), Is (s' ≤ List.length (mkPs s kp X m)) ∧ Is (List.length (mkPs s kp X m) - s' < List.length (mkPs s kp X m) - s_2) ∧ [poi, poi, Value.pointer (some { block := (1 : Nat), off := (0 : Nat) }), poi, poi, poi, poi, Value.pointer (some { block := (2 : Nat), off := (0 : Nat) }), poi, poi, poi, poi, poi, poi, poi, poi, poi, poi, poi, poi, poi, poi, poi, poi, poi, poi, poi, poi, poi, poi, Value.slice (some { block := (5 : Nat), off := (0 : Nat) }) (List.length (mkPs s kp X m)) (0 : Nat), Value.int IntKind.i64 (↑(List.length (mkPs s kp X m)) : Int), Value.int IntKind.i64 (IntKind.wrap IntKind.i64 ((↑s_2 : Int) + (1 : Int))), poi, poi, poi, poi, poi, poi, poi, poi, poi, poi, poi, poi, poi, poi, poi, poi, poi, poi, poi, poi, poi, poi, poi, poi, poi, poi, poi, poi, poi, poi, poi, poi, poi, poi, poi, poi, poi, poi, poi, poi, poi, poi, poi, poi, poi] = [poi, poi, Value.pointer (some { block := (1 : Nat), off := (0 : Nat) }), poi, poi, poi, poi, Value.pointer (some { block := (2 : Nat), off := (0 : Nat) }), poi, poi, poi, poi, poi, poi, poi, poi, poi, poi, poi, poi, poi, poi, poi, poi, poi, poi, poi, poi, poi, poi, Value.slice (some { block := (5 : Nat), off := (0 : Nat) }) (List.length (mkPs s kp X m)) (0 : Nat), Value.int IntKind.i64 (↑(List.length (mkPs s kp X m)) : Int), Value.int IntKind.i64 (↑s' : Int), poi, poi, poi, poi, poi, poi, poi, poi, poi, poi, poi, poi, poi, poi, poi, poi, poi, poi, poi, poi, poi, poi, poi, poi, poi, poi, poi, poi, poi, poi, poi, poi, poi, poi, poi, poi, poi, poi, poi, poi, poi, poi, poi, poi, poi] ∧ some (AObj.row bs (1 : Nat) true true true) :: some (AObj.row [Value.string { data := #[] }, Value.int IntKind.i64 (0 : Int), Value.slice none (0 : Nat) (0 : Nat), Value.slice none (0 : Nat) (0 : Nat)] (0 : Nat) false true true) :: some (AObj.row [Value.string { data := #[(114 : UInt8)] }, Value.int IntKind.i64 (sjF kp m s_2), Value.slice (some { block := (3 : Nat), off := (0 : Nat) }) (jnN (sjF kp m s_2) (IntKind.wrap IntKind.i64 ((3 : Int) * oC (mkPs s kp X m) ((0 : Nat) + Int.toNat (↑s_2 : Int) * (5 : Nat)))) (3 : Nat)) (0 : Nat), Value.slice (some { block := (4 : Nat), off := (0 : Nat) }) (jnK (sjF kp m s_2) (sjN kp m s_2) (sjX kp X m s_2) (sjH kp X m s_2) (IntKind.wrap IntKind.i64 ((3 : Int) * oC (mkPs s kp X m) ((0 : Nat) + Int.toNat (↑s_2 : Int) * (5 : Nat)))) (3 : Nat) [Value.float FloatKind.f32 (oX (mkPs s kp X m) ((0 : Nat) + Int.toNat (↑s_2 : Int) * (5 : Nat))), Value.float FloatKind.f32 (oY (mkPs s kp X m) ((0 : Nat) + Int.toNat (↑s_2 : Int) * (5 : Nat))), Value.float FloatKind.f32 (oZ (mkPs s kp X m) ((0 : Nat) + Int.toNat (↑s_2 : Int) * (5 : Nat)))] []) (0 : Nat)] (0 : Nat) false true (false && List.all [Value.string { data := #[(114 : UInt8)] }, Value.int IntKind.i64 (sjF kp m s_2), Value.slice (some { block := (13 : Nat), off := (0 : Nat) }) (jnN (sjF kp m s_2) (IntKind.wrap IntKind.i64 ((3 : Int) * oC (mkPs s kp X m) ((0 : Nat) + Int.toNat (↑s_2 : Int) * (5 : Nat)))) (3 : Nat)) (0 : Nat), Value.slice (some { block := (14 : Nat), off := (0 : Nat) }) (jnK (sjF kp m s_2) (sjN kp m s_2) (sjX kp X m s_2) (sjH kp X m s_2) (IntKind.wrap IntKind.i64 ((3 : Int) * oC (mkPs s kp X m) ((0 : Nat) + Int.toNat (↑s_2 : Int) * (5 : Nat)))) (3 : Nat) [Value.float FloatKind.f32 (oX (mkPs s kp X m) ((0 : Nat) + Int.toNat (↑s_2 : Int) * (5 : Nat))), Value.float FloatKind.f32 (oY (mkPs s kp X m) ((0 : Nat) + Int.toNat (↑s_2 : Int) * (5 : Nat))), Value.float FloatKind.f32 (oZ (mkPs s kp X m) ((0 : Nat) + Int.toNat (↑s_2 : Int) * (5 : Nat)))] []) (0 : Nat)] atom)) :: some (AObj.row (jnX (sjF kp m s_2) (sjN kp m s_2) (sjX kp X m s_2) (sjH kp X m s_2) (IntKind.wrap IntKind.i64 ((3 : Int) * oC (mkPs s kp X m) ((0 : Nat) + Int.toNat (↑s_2 : Int) * (5 : Nat)))) (3 : Nat) [Value.float FloatKind.f32 (oX (mkPs s kp X m) ((0 : Nat) + Int.toNat (↑s_2 : Int) * (5 : Nat))), Value.float FloatKind.f32 (oY (mkPs s kp X m) ((0 : Nat) + Int.toNat (↑s_2 : Int) * (5 : Nat))), Value.float FloatKind.f32 (oZ (mkPs s kp X m) ((0 : Nat) + Int.toNat (↑s_2 : Int) * (5 : Nat)))] []) (1 : Nat) true true true) :: some (AObj.row (jnH (sjF kp m s_2) (sjN kp m s_2) (sjX kp X m s_2) (sjH kp X m s_2) (IntKind.wrap IntKind.i64 ((3 : Int) * oC (mkPs s kp X m) ((0 : Nat) + Int.toNat (↑s_2 : Int) * (5 : Nat)))) (3 : Nat) [Value.float FloatKind.f32 (oX (mkPs s kp X m) ((0 : Nat) + Int.toNat (↑s_2 : Int) * (5 : Nat))), Value.float FloatKind.f32 (oY (mkPs s kp X m) ((0 : Nat) + Int.toNat (↑s_2 : Int) * (5 : Nat))), Value.float FloatKind.f32 (oZ (mkPs s kp X m) ((0 : Nat) + Int.toNat (↑s_2 : Int) * (5 : Nat)))] []) (2 : Nat) true true true) :: some (AObj.row (pks (mkPs s kp X m)) (5 : Nat) true true true) :: noH = some (AObj.row bs (1 : Nat) true true true) :: some (AObj.row [Value.string { data := #[] }, Value.int IntKind.i64 (0 : Int), Value.slice none (0 : Nat) (0 : Nat), Value.slice none (0 : Nat) (0 : Nat)] (0 : Nat) false true true) :: some (AObj.row [Value.string { data := #[(114 : UInt8)] }, Value.int IntKind.i64 (sjF kp m s'), Value.slice (some { block := (3 : Nat), off := (0 : Nat) }) (sjN kp m s') (0 : Nat), Value.slice (some { block := (4 : Nat), off := (0 : Nat) }) (sjK kp X m s') (0 : Nat)] (0 : Nat) false true false) :: some (AObj.row (sjX kp X m s') (1 : Nat) true true true) :: some (AObj.row (sjH kp X m s') (2 : Nat) true true true) :: some (AObj.row (pks (mkPs s kp X m)) (5 : Nat) true true true) :: noH)))) (Is (okRun { data := #[(114 : UInt8)] } (sjF kp m s_2) (sjN kp m s_2) (sjK kp X m s_2) (sjX kp X m s_2) (sjH kp X m s_2)) ∧ K (Value.tuple #[Value.agg #[Value.string { data := #[(114 : UInt8)] }, Value.int IntKind.i64 (sjF kp m s_2), Value.slice (some { block := (1 : Nat), off := (0 : Nat) }) (sjN kp m s_2) (0 : Nat), Value.slice (some { block := (2 : Nat), off := (0 : Nat) }) (sjK kp X m s_2) (0 : Nat)], Value.bool true]) (some (AObj.row bs (1 : Nat) true true true) :: some (AObj.row (sjX kp X m s_2) (1 : Nat) true true true) :: some (AObj.row (sjH kp X m s_2) (2 : Nat) true true true) :: noH)))) := by kernel_rfl
end
end Qq
end
section
/- Samples of small integers; packets of what is kept: plain facts. -/
open Go Go.Vm Go.Proofs Sp
namespace Qq
noncomputable section
def smB (x : Nat) : Bool := decide (x < 4294967296) && (!(x == 2147483648) && ((!fEq x 0 || x == 0) && fEq x x))
theorem sm_all : ((List.range 256).all fun k => smB (smO ((k : Int) - 128))) = true := by kernel_rfl
theorem sm_bits {n : Int} (h0 : -128 ≤ n) (h1 : n ≤ 127) : smO n < 4294967296 ∧ smO n ≠ 2147483648 ∧ bz (smO n) = smO n ∧ fEq (smO n) (smO n) = true := by
  have := List.all_eq_true.1 sm_all (n + 128).toNat (List.mem_range.2 (by omega))
  rw [show (((n + 128).toNat : Nat) : Int) - 128 = n by omega, smB] at this
  simp only [Bool.and_eq_true, decide_eq_true_eq, Bool.not_eq_true', Bool.or_eq_true, beq_eq_false_iff_ne, beq_iff_eq] at this
  obtain ⟨q1, q2, q3, q4⟩ := this
  refine ⟨q1, q2, ?_, q4⟩
  rw [bz]
  split
  · rename_i he
    rcases q3 with h | h
    · rw [he] at h; cases h
    · exact h.symm
  · rfl
theorem sm_pkt {s c a b d : Int} (hs : 0 ≤ s ∧ s ≤ 255) (hc : 0 ≤ c ∧ c ≤ 65535) (ha : -128 ≤ a ∧ a ≤ 127) (hb : -128 ≤ b ∧ b ≤ 127) (hd : -128 ≤ d ∧ d ≤ 127) : okPkt ⟨s, c, smO a, smO b, smO d⟩ := by
  obtain ⟨a1, a2, a3, _⟩ := sm_bits ha.1 ha.2
  obtain ⟨b1, b2, b3, _⟩ := sm_bits hb.1 hb.2
  obtain ⟨d1, d2, d3, _⟩ := sm_bits hd.1 hd.2
  have ea := (Fl.lev_sm (n := a) (by omega)).2
  have eb := (Fl.lev_sm (n := b) (by omega)).2
  have ed := (Fl.lev_sm (n := d) (by omega)).2
  refine ⟨?_, a1, b1, d1, a2, b2, d2, a3, b3, d3⟩
  rw [pkE, pkI]
  refine fi_zero.2 fun e he => ?_
  simp only [List.mem_cons, List.not_mem_nil, or_false] at he
  rcases he with rfl | rfl | rfl
  · exact wi_zero.2 hs
  · exact wi_zero.2 hc
  · show fi [sE (smO a), sE (smO b), sE (smO d)] = 0
    rw [ea, eb, ed]; rfl
end
end Qq
end
section
/- Packets, joined: the contract. -/
open Go Go.Vm Go.Proofs Sp
namespace Sp
/-- Few threes of small numbers. -/
structure okX (s : Int) (X : Nat → Int) (m : Nat) : Prop where
  s : 0 ≤ s ∧ s ≤ 255
  m : m ≤ 12
  x : ∀ p, -128 ≤ X p ∧ X p ≤ 127
end Sp
namespace Qq
noncomputable section
section
variable {s : Int} {kp : Nat → Bool} {X : Nat → Int} {m : Nat}
theorem mkPs_len : (mkPs s kp X m).length = (kl kp m).length := by rw [mkPs, List.length_map]
theorem mkPs_at {i : Nat} (h : i < (kl kp m).length) : (mkPs s kp X m).getD i pk0 = ⟨s, kat kp m i, smO (X (3 * kat kp m i)), smO (X (3 * kat kp m i + 1)), smO (X (3 * kat kp m i + 2))⟩ := by
  rw [mkPs, List.getD_eq_getElem?_getD, List.getElem?_map, List.getElem?_eq_getElem h, kat, List.getD_eq_getElem?_getD, List.getElem?_eq_getElem h]; rfl
theorem mkPs_ok (h : okX s X m) : okPs (mkPs s kp X m) := by
  have := h.m
  refine ⟨fun p hp => ?_, by rw [mkPs_len]; have := kl_len (kp := kp) m; omega⟩
  rw [mkPs] at hp
  obtain ⟨q, hq, rfl⟩ := List.mem_map.1 hp
  have := (kl_mem.1 hq).1
  exact sm_pkt h.s (by omega) (h.x _) (h.x _) (h.x _)
theorem kR_ok (h : okX s X m) (f n : Nat) : RdOk (kR kp X f) n := by
  refine ⟨fun i _ => ?_, fun i _ hb => ?_⟩
  · rw [kR]
    split
    · have := h.x (f + i); show (X (f + i)).natAbs ≤ 16384; omega
    · exact Nat.zero_le _
  · rw [kR] at hb ⊢
    split at hb
    · cases hb
    · rw [if_neg (by assumption)]
theorem nmR_ok : nameB nmR = true := by decide
theorem sj_run (h : okX s X m) {i : Nat} (hi : i ≤ (kl kp m).length) : okRun nmR (sjF kp m i) (sjN kp m i) (sjK kp X m i) (sjX kp X m i) (sjH kp X m i) := by
  have hm := h.m
  have hl := kl_len (kp := kp) m
  have b1 : 0 ≤ sjF kp m i ∧ sjF kp m i ≤ 36 := by
    rw [sjF]
    split
    · omega
    · have := (kat_kp (kp := kp) (m := m) (i := 0) (by omega)).1; omega
  have b2 : sjN kp m i ≤ 40 := by
    rw [sjN]
    split
    · omega
    · have := (kat_kp (kp := kp) (m := m) (i := i - 1) (by omega)).1; omega
  exact okRun_mk (kR_ok h _ _) nmR_ok (by omega) (by omega) (by omega)
/-- Three samples that are known. -/
theorem three_x (Q : Nat → Int × Bool) : flts (mkX Q 3) = [.float .f32 (smO (Q 0).1), .float .f32 (smO (Q 1).1), .float .f32 (smO (Q 2).1)] := rfl
theorem three_h {Q : Nat → Int × Bool} (h : ∀ j, j < 3 → (Q j).2 = true) : mkS (mkB Q) 3 = [] ∧ mkK (mkB Q) 3 = 0 := by
  have h0 := h 0 (by decide)
  have h1 := h 1 (by decide)
  have h2 := h 2 (by decide)
  have e : mkS (mkB Q) 3 = [] := by
    have : mkS (mkB Q) 3 = mkS (fun _ => true) 3 := mkS_congr fun i hi => by
      rw [mkB]; exact h i hi
    rw [this]; rfl
  exact ⟨e, by rw [mkK, e]; rfl⟩
theorem sj_step (h : okX s X m) {i : Nat} (hi : i + 2 ≤ (kl kp m).length) :
    let c := kat kp m (i + 1)
    let e2 : List Value := [.float .f32 (smO (X (3 * c))), .float .f32 (smO (X (3 * c + 1))), .float .f32 (smO (X (3 * c + 2)))]
    okRun nmR (3 * (c : Int)) 3 0 e2 [] ∧ sjF kp m (i + 1) + sjN kp m (i + 1) ≤ 3 * (c : Int) ∧ 3 * (c : Int) + 3 - sjF kp m (i + 1) ≤ 4096 ∧ sjF kp m (i + 1) = sjF kp m (i + 2) ∧
    jnN (sjF kp m (i + 1)) (3 * (c : Int)) 3 = sjN kp m (i + 2) ∧ jnX (sjF kp m (i + 1)) (sjN kp m (i + 1)) (sjX kp X m (i + 1)) (sjH kp X m (i + 1)) (3 * (c : Int)) 3 e2 [] = sjX kp X m (i + 2) ∧
    jnH (sjF kp m (i + 1)) (sjN kp m (i + 1)) (sjX kp X m (i + 1)) (sjH kp X m (i + 1)) (3 * (c : Int)) 3 e2 [] = sjH kp X m (i + 2) ∧ jnK (sjF kp m (i + 1)) (sjN kp m (i + 1)) (sjX kp X m (i + 1)) (sjH kp X m (i + 1)) (3 * (c : Int)) 3 e2 [] = sjK kp X m (i + 2) := by
  intro c e2
  have hm := h.m
  obtain ⟨n1, n2⟩ := kl_next m i (by omega : i + 1 < (kl kp m).length)
  have n1 : kat kp m i < c := n1
  have hc := (kat_kp (kp := kp) (m := m) (i := i + 1) (by omega)).1
  have h0 := kat_up (kp := kp) (m := m) (i := i) (by omega)
  have eF : sjF kp m (i + 1) = 3 * (kat kp m 0 : Int) := by rw [sjF, if_neg (by omega)]
  have eF2 : sjF kp m (i + 2) = 3 * (kat kp m 0 : Int) := by rw [sjF, if_neg (by omega)]
  have eN : sjN kp m (i + 1) = 3 * (kat kp m i + 1) - 3 * kat kp m 0 := by rw [sjN, if_neg (by omega)]; rfl
  have eN2 : sjN kp m (i + 2) = 3 * (c + 1) - 3 * kat kp m 0 := by rw [sjN, if_neg (by omega)]; rfl
  have hQ : RdOk (fun r => (X (3 * c + r), true)) 3 := ⟨fun r _ => by have := h.x (3 * c + r); show (X (3 * c + r)).natAbs ≤ 16384; omega, fun _ _ hb => by cases hb⟩
  have e3 : flts (mkX (fun r => (X (3 * c + r), true)) 3) = e2 := rfl
  obtain ⟨h4, h5⟩ := three_h (Q := fun r => (X (3 * c + r), true)) fun _ _ => rfl
  have r2 : okRun nmR (3 * (c : Int)) 3 0 e2 [] := by
    have := okRun_mk (nm := nmR) (f := 3 * (c : Int)) hQ nmR_ok (by omega) (by omega) (by omega)
    rw [h4, h5, e3] at this
    exact this
  have eo : (3 * (c : Int) - sjF kp m (i + 1)).toNat = 3 * c - 3 * kat kp m 0 := by rw [eF]; omega
  have ej : ∀ j, j < 3 * (c + 1) - 3 * kat kp m 0 → jnQ (sjF kp m (i + 1)) (sjN kp m (i + 1)) (sjX kp X m (i + 1)) (sjH kp X m (i + 1)) (3 * (c : Int)) e2 [] j = kR kp X (3 * kat kp m 0) j := fun j hj => by
    rw [← kR_step (m := m) (i := i) (by omega) hj, jnQ, eo, eN]
    rw [jnR, jnR]
    by_cases c1 : j < 3 * (kat kp m i + 1) - 3 * kat kp m 0
    · rw [if_pos c1, if_pos c1, sjX, sjH, fxs_flts, ihs_ints, eN]
      exact mk_back (kR_ok h _ _) c1
    · rw [if_neg c1, if_neg c1]
      by_cases c2 : j < 3 * kat kp m (i + 1) - 3 * kat kp m 0
      · rw [if_pos c2, if_pos c2]
      · rw [if_neg c2, if_neg c2, ← e3, fxs_flts]
        have : ihs [] = mkS (mkB fun r => (X (3 * c + r), true)) 3 := by rw [h4]; rfl
        rw [this]
        exact mk_back (R := fun r => (X (3 * c + r), true)) hQ (by show j - (3 * c - 3 * kat kp m 0) < 3; omega)
  have eJ : jnN (sjF kp m (i + 1)) (3 * (c : Int)) 3 = sjN kp m (i + 2) := by rw [jnN, eF, eN2]; omega
  refine ⟨r2, ?_, ?_, eF.trans eF2.symm, eJ, ?_, ?_, ?_⟩
  · rw [eF, eN]; omega
  · rw [eF]; omega
  · rw [jnX, eJ, mkX_congr fun j hj => ej j (by rw [← eN2]; exact hj)]; rfl
  · rw [jnH, eJ, mkB_congr fun j hj => ej j (by rw [← eN2]; exact hj)]; rfl
  · rw [jnK, eJ, mkK_congr fun j hj => ej j (by rw [← eN2]; exact hj)]; rfl
theorem sj_zero : sjF kp m 0 = 0 ∧ sjN kp m 0 = 0 ∧ sjX kp X m 0 = [] ∧ sjH kp X m 0 = [] ∧ sjK kp X m 0 = 0 := by
  have e1 : sjN kp m 0 = 0 := rfl
  have e2 : mkS (mkB (kR kp X (3 * kat kp m 0))) 0 = [] := mkS_zero _
  refine ⟨rfl, rfl, ?_, ?_, ?_⟩
  · rw [sjX, e1]; rfl
  · rw [sjH, e1, e2]; rfl
  · rw [sjK, e1, mkK, e2]; rfl
theorem sj_one (hl : 0 < (kl kp m).length) :
    sjF kp m 1 = 3 * (kat kp m 0 : Int) ∧ sjN kp m 1 = 3 ∧ sjX kp X m 1 = [.float .f32 (smO (X (3 * kat kp m 0))), .float .f32 (smO (X (3 * kat kp m 0 + 1))), .float .f32 (smO (X (3 * kat kp m 0 + 2)))] ∧ sjH kp X m 1 = [] ∧ sjK kp X m 1 = 0 := by
  have eN : sjN kp m 1 = 3 := by rw [sjN, if_neg (by decide)]; show 3 * (kat kp m 0 + 1) - 3 * kat kp m 0 = 3; omega
  obtain ⟨h4, h5⟩ := three_h (Q := kR kp X (3 * kat kp m 0)) fun j hj => by rw [kR_one hl hj]
  refine ⟨by rw [sjF, if_neg (by decide)], eN, ?_, ?_, ?_⟩
  · rw [sjX, eN, three_x, kR_one hl (by decide), kR_one hl (by decide), kR_one hl (by decide)]; rfl
  · rw [sjH, eN, h4]; rfl
  · rw [sjK, eN, h5]
end
noncomputable def orcSj (s : Int) (kp : Nat → Bool) (X : Nat → Int) (m : Nat) : OrcV
  | [.slice (some ⟨0, 0, none⟩) n _], [some (.row bs 1 true true true)] =>
    some (.tuple #[.agg #[.string nmR, .int .i64 (sjF kp m (mkPs s kp X m).length), .slice (some ⟨1, 0, none⟩) (sjN kp m (mkPs s kp X m).length) 0, .slice (some ⟨2, 0, none⟩) (sjK kp X m (mkPs s kp X m).length) 0], .bool true],
      [some (.row bs 1 true true true), some (.row (sjX kp X m (mkPs s kp X m).length) 1 true true true), some (.row (sjH kp X m (mkPs s kp X m).length) 2 true true true)], n = 20 * (mkPs s kp X m).length ∧ bs = bys (frs (mkPs s kp X m)) ∧ okX s X m)
  | _, _ => none
set_option maxRecDepth 100000 in
set_option maxHeartbeats 1000000 in
theorem okSj (s : Int) (kp : Nat → Bool) (X : Nat → Int) (m : Nat) : OkV Try.prog 6 (orcSj s kp X m) := by
  intro args H ret H' vc h hv
  unfold orcSj at h
  split at h
  · rename_i n c bs
    cases h
    obtain ⟨rfl, rfl, hX⟩ := hv
    have hp := mkPs_ok (kp := kp) hX
    have hm := hX.m
    have hkl := kl_len (kp := kp) m
    have hL := mkPs_len (s := s) (kp := kp) (X := X) (m := m)
    refine fnP_res Qq.hm c0_ok (hs := hsSj (bys (frs (mkPs s kp X m))) s kp X m) ?_
    show fnP Try.prog c0 (hsSj (bys (frs (mkPs s kp X m))) s kp X m) 6 _ _ _
    rw [sj_t]
    have ha : ∀ v ∈ bys (frs (mkPs s kp X m)), atom v = true := fun v hv => by
      rw [bys] at hv
      obtain ⟨b, _, rfl⟩ := List.mem_map.1 hv
      rfl
    refine ⟨⟨by rw [bys_len, frs_len]; omega, ha, by omega, by omega⟩, ⟨rfl, rfl, hp⟩, br_of (fun h => by have := of_decide_eq_true h; omega) (fun _ => ⟨⟨(0 : Nat), ⟨rfl⟩, rfl, rfl⟩, fun _ _ => ⟨⟨(0 : Nat), ⟨Nat.zero_le _⟩, rfl, by obtain ⟨q1, q2, q3, q4, q5⟩ := sj_zero (kp := kp) (X := X) (m := m); rw [q1, q2, q3, q4, q5]⟩, fun i hi => br_of (fun hc => ?_) (fun hc => ?_)⟩⟩)⟩
    · have hc := lt_of_dec hc
      have hk : i < (kl kp m).length := by omega
      obtain ⟨k1, _⟩ := kat_kp hk
      have e : (0 + i * 5) / 5 = i := by omega
      have hat := mkPs_at (s := s) (kp := kp) (X := X) (m := m) hk
      have vC : oC (mkPs s kp X m) (0 + i * 5) = (kat kp m i : Int) := by rw [oC, e, hat]
      have vX : oX (mkPs s kp X m) (0 + i * 5) = smO (X (3 * kat kp m i)) := by rw [oX, e, hat]
      have vY : oY (mkPs s kp X m) (0 + i * 5) = smO (X (3 * kat kp m i + 1)) := by rw [oY, e, hat]
      have vZ : oZ (mkPs s kp X m) (0 + i * 5) = smO (X (3 * kat kp m i + 2)) := by rw [oZ, e, hat]
      have wC : IntKind.wrap .i64 (3 * (kat kp m i : Int)) = 3 * (kat kp m i : Int) := wrap_eq (by omega) (by omega)
      have hld := pk_ld hc
      rw [gPk] at hld
      simp only [Int.toNat_natCast]
      refine ⟨⟨by omega, by omega⟩, ⟨hld⟩, ?_⟩
      simp only [vC, vX, vY, vZ, wC]
      refine br_of (fun h => by have := of_decide_eq_true h; omega) (fun _ => br_of (fun h => by have := of_decide_eq_true h; omega) (fun _ => ⟨⟨trivial⟩, br_of (fun h0 => ?_) (fun h0 => ?_)⟩))
      · have h0 : i = 0 := by have := eq_of_beq h0; omega
        subst h0
        obtain ⟨q1, q2, q3, q4, q5⟩ := sj_one (X := X) hk
        refine ⟨1, ⟨by omega⟩, ⟨by omega⟩, by rw [up1 hc (by omega)], ?_⟩
        rw [q1, q2, q3, q4, q5]; rfl
      · obtain ⟨j, rfl⟩ : ∃ j, i = j + 1 := ⟨i - 1, by
          have : i ≠ 0 := fun e => by subst e; simp at h0
          omega⟩
        have r1 := sj_run (kp := kp) hX (i := j + 1) (by omega)
        have r3 := sj_run (kp := kp) hX (i := j + 2) (by omega)
        obtain ⟨q1, q2, q3, q4, q5, q6, q7, q8⟩ := sj_step (kp := kp) hX (i := j) (by omega)
        refine ⟨⟨r1.1⟩, ⟨r1, q1, q2, q3⟩, ?_, j + 2, ⟨by omega⟩, ⟨by omega⟩, by rw [up1 hc (by omega)], ?_⟩
        · rw [q5, q6, q7, q8, q4]; exact ⟨r3⟩
        · rw [q5, q6, q7, q8, q4]; rfl
    · have hc := ge_of_dec hc
      have : i = (mkPs s kp X m).length := by have := hi.out; omega
      subst this
      exact ⟨⟨sj_run hX (by omega)⟩, rfl, rfl⟩
  · cases h
end
end Qq
end
