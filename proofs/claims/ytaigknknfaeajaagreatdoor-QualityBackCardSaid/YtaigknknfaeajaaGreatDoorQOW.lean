/- A section of one's own, of the reference. -/
import Derived.Test.YtaigknknfaeajaaGreatDoorZG
import Derived.Test.YtaigknknfaeajaaGreatDoorZD
open Go Go.Vm Go.Proofs Sp
namespace Qq
noncomputable section
theorem ldm {zs : List Int} {i : Nat} (h : i * 2 + 2 ≤ zs.length) : (if i * 2 + 2 ≤ (ints zs).length then some (Value.agg (List.toArray (List.take 2 (List.drop (i * 2) (ints zs))))) else none) =
    some (.agg #[.int .i64 (zs.getD (i * 2) 0), .int .i64 (zs.getD (i * 2 + 1) 0)]) := by
  rw [ints_len, if_pos h, ints_pair h]
end
end Qq
