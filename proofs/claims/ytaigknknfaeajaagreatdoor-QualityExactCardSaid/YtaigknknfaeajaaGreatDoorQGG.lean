/- The law about what an intervention leaves. -/
import Derived.Test.YtaigknknfaeajaaGreatDoorQDD
import Derived.Test.YtaigknknfaeajaaGreatDoorQEE
open Go Go.Vm Go.Proofs Sp
namespace Qq
noncomputable section
noncomputable def orcLfV (zs : List Int) (ks : List (Int × ByteArray)) : OrcV
  | [.agg ⟨[.string nm, .slice (some ⟨0, 0, none⟩) n _c, .slice (some ⟨1, 0, none⟩) k _d]⟩, .int .i64 p], [some (.row e1 2 true true true), some (.row e2 2 true true true)] =>
    some (.tuple #[.agg #[.int .i64 (gz (lfE nm zs n ks k p) (lowN (pA zs ks n k p (aD ks p)) (pD zs ks n k p))), .int .i64 (gz (lfE nm zs n ks k p) (lowD (pA zs ks n k p (aD ks p)) (pD zs ks n k p))),
        .int .i64 (gz (lfE nm zs n ks k p) (lowN (pA zs ks n k (p + 1) (aD ks p)) (pD zs ks n k (p + 1)))), .int .i64 (gz (lfE nm zs n ks k p) (lowD (pA zs ks n k (p + 1) (aD ks p)) (pD zs ks n k (p + 1))))], .int .i64 (lfE nm zs n ks k p)],
      [some (.row e1 2 true true true), some (.row e2 2 true true true)], isSec zs ks n k e1 e2)
  | _, _ => none
theorem lf_okV (zs : List Int) (ks : List (Int × ByteArray)) : OkV Tryz.prog 52 (orcLfV zs ks) := by
  intro args H ret H' vc h hv
  unfold orcLfV at h
  split at h
  · cases h
    obtain ⟨rfl, rfl, h1⟩ := hv
    exact lf_ok ⟨rfl, rfl, h1⟩
  · cases h
end
end Qq
