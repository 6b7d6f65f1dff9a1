/- Parts of the proof: VmAD, VmAE. -/
import Derived.Test.YtaigknknfaeajaaGreatDoorZC
section
/- A part of an array by an index that is not known. -/
namespace Go.Vm
noncomputable section
def fIx (P : Program) (g : Nat → Value) (o : Oper) (env : List Value) (_ : Heap) : Option (Out × Prop) :=
  match o.op with
  | .index t x i =>
    match P.underlying t, ev env x, ev env i with
    | some (.array len elem), .agg cs, .int _ n =>
      match P.info? elem with
      | some inf => some (⟨g n.toNat, [], [], []⟩, (0 ≤ n ∧ n < len) ∧ evPart P elem cs.toList (n.toNat * inf.size) = some (g n.toNat))
      | none => none
    | _, _, _ => none
  | _ => none

def hIx (P : Program) (g : Nat → Value) : Hint P where
  fn := fIx P g
  ok := by
    intro o env H out vc h hv
    unfold fIx at h
    split at h
    · rename_i t x i ho
      split at h
      · rename_i h1 h2 h3
        split at h
        · rename_i inf hi
          cases h
          refine index_ok ho ?_
          unfold evIndex
          rw [h1, h2, h3]
          simp only
          rw [hi]
          simp only
          rw [if_pos hv.1, hv.2]
          rfl
        · cases h
      · cases h
    · cases h
end
end Go.Vm
end
section
/- A nil list that is handed back, taken as a list like any other. -/
namespace Go.Vm
noncomputable section
theorem SmallRes.nil {P : Program} {f : FuncId} {args : List Value} {H H' : Heap} {rest : List Value} (h : SmallRes P f args H (.tuple (.slice none 0 0 :: rest).toArray) H') (es : Nat) :
    SmallRes P f args H (.tuple (.slice (some ⟨H'.length, 0, none⟩) 0 0 :: rest).toArray) (wr H' H'.length (lo es)) := by
  intro F A ψ w args' hh hb hA hψ hl
  refine (h F A ψ w args' hh hb hA hψ hl).mono ?_
  rintro e w' ⟨v', A', ψ', rfl, k1, k2, k3⟩
  have hn : ¬ A' H'.length := fun h => by have := k2 _ h; omega
  have hag := mono_new (ψ := ψ') (g := ⟨0, 0, 0, es⟩) hn
  refine ⟨v', _, _, rfl, k1.void hn es true true true, fun id hid => ?_, ?_⟩
  · obtain ⟨l1, l2⟩ := len_wr H' H'.length (lo es)
    rcases hid with h | rfl
    · have := k2 id h
      exact Nat.lt_of_lt_of_le this l1
    · exact l2
  · cases k3 with
    | atom _ h => cases h
    | tuple xs ys hs hk =>
      refine .tuple _ _ (by simpa using hs) fun i => ?_
      match i with
      | 0 => exact emp_list rfl (hk 0) (.inr rfl)
      | i + 1 =>
        have := (hk (i + 1)).mono hag
        exact this
end
end Go.Vm
end
