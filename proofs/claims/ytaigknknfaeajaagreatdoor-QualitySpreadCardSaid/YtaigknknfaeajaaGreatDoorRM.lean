/- Spans of windows above a limit: the program, and the reference. -/
import Derived.Test.YtaigknknfaeajaaGreatDoorRL
import Derived.Test.YtaigknknfaeajaaGreatDoorVmAO
import Derived.Test.YtaigknknfaeajaaGreatDoorZP
open Go Go.Vm Go.Proofs Sp
namespace Sp
noncomputable section
end
end Sp
namespace Qq
noncomputable section
/- The reference. -/
theorem iAt_ints {l : List Int} {i : Nat} (h : i < l.length) : iAt (ints l) i = l.getD i 0 := by
  rw [iAt, zint_at h]
theorem putL_last {l : List Int} {m : Nat} {v : Int} (h : l.length = m * 2) (h0 : 0 < m) : putL (ints l) ((m - 1) * 2 + 1) [.int .i64 v] = ints (l.take (l.length - 1) ++ [v]) := by
  have e : (m - 1) * 2 + 1 = l.length - 1 := by omega
  rw [putL, splice, e, List.drop_eq_nil_of_le (by rw [ints_len]; simp only [List.length_cons, List.length_nil]; omega), List.append_nil, ints_take, ← ints_app]
  rfl
theorem join_len {l : List Int} {x : Int} (h : 0 < l.length) : (l.take (l.length - 1) ++ [x]).length = l.length := by
  rw [List.length_append, List.length_take]; simp only [List.length_cons, List.length_nil]; omega
theorem new_len (l : List Int) (x y : Int) : (l ++ [x, y]).length / 2 = l.length / 2 + 1 := by
  rw [List.length_append]; simp only [List.length_cons, List.length_nil]; omega
end
end Qq
