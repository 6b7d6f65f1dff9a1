/- A nil list that is handed back, taken as a list like any other. -/
import Derived.Test.YtaigknknfaeajaaGreatDoorZC
namespace Go.Vm
noncomputable section
theorem SmallRes.nil {P : Program} {f : FuncId} {args : List Value} {H H' : Heap} {rest : List Value} (h : SmallRes P f args H (.tuple (.slice none 0 0 :: rest).toArray) H') (es : Nat) :
    SmallRes P f args H (.tuple (.slice (some ⟨H'.length, 0, none⟩) 0 0 :: rest).toArray) (wr H' H'.length (lo es)) := by
  intro F A ψ w args' hh hb hA hψ hl
  refine (h F A ψ w args' hh hb hA hψ hl).mono ?_
  rintro e w' ⟨v', A', ψ', rfl, k1, k2, k3⟩
  have hn : ¬ A' H'.length := fun h => by have := k2 _ h; omega
  have hag := mono_new (ψ := ψ') (g := ⟨0, 0, 0, es⟩) hn
  refine ⟨v', _, _, rfl, k1.void hn es true true true, fun id hid => ?_, ?_⟩
  · obtain ⟨l1, l2⟩ := len_wr H' H'.length (lo es)
    rcases hid with h | rfl
    · have := k2 id h
      exact Nat.lt_of_lt_of_le this l1
    · exact l2
  · cases k3 with
    | atom _ h => cases h
    | tuple xs ys hs hk =>
      refine .tuple _ _ (by simpa using hs) fun i => ?_
      match i with
      | 0 => exact emp_list rfl (hk 0) (.inr rfl)
      | i + 1 =>
        have := (hk (i + 1)).mono hag
        exact this
end
end Go.Vm
