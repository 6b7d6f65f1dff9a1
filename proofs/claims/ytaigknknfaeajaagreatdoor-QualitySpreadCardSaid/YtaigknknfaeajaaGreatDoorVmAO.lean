/- A load whose value is told from the cells. -/
import Derived.Test.YtaigknknfaeajaaGreatDoorZC
namespace Sp
noncomputable section
/-- The integer in a cell. -/
def iAt (cells : List Go.Value) (off : Nat) : Int := match cells[off]? with
  | some (.int _ n) => n
  | _ => 0
def gI (cells : List Go.Value) (off : Nat) : Go.Value := .int .i64 (iAt cells off)
end
end Sp
namespace Go.Vm
noncomputable section
def fLc (P : Program) (g : List Value → Nat → Value) (o : Oper) (env : List Value) (H : Heap) : Option (Out × Prop) :=
  match o.op with
  | .load t x =>
    match ev env x with
    | .pointer (some ⟨id, off, none⟩) =>
      match rd H id with
      | some (.row cells _ _ _ _) => some (⟨g cells off, [], [id], []⟩, evPart P t cells off = some (g cells off))
      | _ => none
    | _ => none
  | _ => none

def hLc (P : Program) (g : List Value → Nat → Value) : Hint P where
  fn := fLc P g
  ok := by
    intro o env H out vc h hv
    unfold fLc at h
    split at h
    · rename_i t x ho
      refine load_ok ho ?_
      unfold evLoad
      split at h
      · rename_i id off hx
        rw [hx]
        simp only
        split at h
        · rename_i hr
          rw [hr]; cases h
          simp only [hv, Option.map_some]
        · cases h
      · cases h
    · cases h
/-- The cells, with others from a place on. -/
def _root_.Sp.putL (cells : List Value) (off : Nat) (cs : List Value) : List Value := splice cells off cs
def fSp (P : Program) (o : Oper) (env : List Value) (H : Heap) : Option (Out × Prop) :=
  match o.op with
  | .store t x y =>
    match ev env x with
    | .pointer (some ⟨id, off, none⟩) =>
      match rd H id, P.info? t with
      | some (.row cells es more true flat), some i =>
        if (okv (ev env y) && Nat.beq (ev env y).cells.toList.length i.size && Nat.blt 0 (ev env y).cells.toList.length) = true then
          some (⟨undef, [(id, some (.row (Sp.putL cells off (ev env y).cells.toList) es more true (flat && (ev env y).cells.toList.all atom)))], [id], []⟩, off + (ev env y).cells.toList.length ≤ cells.length)
        else none
      | _, _ => none
    | _ => none
  | _ => none

def hSp (P : Program) : Hint P where
  fn := fSp P
  ok := by
    intro o env H out vc h hv
    unfold fSp at h
    split at h
    · rename_i t x y ho
      split at h
      · rename_i id off hx
        split at h
        · rename_i cells es more flat i hrd hi
          split at h
          · rename_i hc
            simp only [Bool.and_eq_true] at hc
            obtain ⟨⟨c1, c2⟩, c3⟩ := hc
            have c2 := Nat.eq_of_beq_eq_true c2
            have c3 : 0 < (ev env y).cells.toList.length := Nat.lt_of_lt_of_le (Nat.lt_succ_self 0) (Nat.le_of_ble_eq_true c3)
            cases h
            refine store_ok ho ?_
            unfold evStore
            rw [hx]
            simp only [hrd, hi]
            have hif : (okv (ev env y) && decide ((ev env y).cells.toList.length = i.size) && decide (off + (ev env y).cells.toList.length ≤ cells.length) && decide (0 < (ev env y).cells.toList.length)) = true := by
              rw [c1, decide_eq_true c2, decide_eq_true hv, decide_eq_true c3]; rfl
            rw [if_pos hif]
            rfl
          · cases h
        · cases h
      · cases h
    · cases h
end
end Go.Vm
