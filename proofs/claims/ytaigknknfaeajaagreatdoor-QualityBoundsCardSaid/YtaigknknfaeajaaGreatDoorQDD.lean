/- The law about lines: its own functions. -/
import Derived.Test.YtaigknknfaeajaaGreatDoorZH
import Derived.Test.YtaigknknfaeajaaGreatDoorQJ
open Go Go.Vm Go.Proofs Sp
namespace Qq
noncomputable section
noncomputable def orcFdV (zs : List Int) (ks : List (Int × ByteArray)) : OrcV
  | [.agg ⟨[.string nm, .slice (some ⟨0, 0, none⟩) n _c, .slice (some ⟨1, 0, none⟩) k _d]⟩, .int .i64 p], [some (.row e1 2 true true true), some (.row e2 2 true true true)] =>
    some (.tuple #[.agg #[.int .i64 (gz (feE nm zs n ks k p) (p0D zs ks p)), .int .i64 (gz (feE nm zs n ks k p) (lowN (pL zs ks n k p) (pD zs ks n k p))), .int .i64 (gz (feE nm zs n ks k p) (lowD (pL zs ks n k p) (pD zs ks n k p))),
        .int .i64 (gz (feE nm zs n ks k p) (lowN (pS zs ks n k p) (pD zs ks n k p))), .int .i64 (gz (feE nm zs n ks k p) (lowD (pS zs ks n k p) (pD zs ks n k p)))], .int .i64 (feE nm zs n ks k p)], [some (.row e1 2 true true true), some (.row e2 2 true true true)], isSec zs ks n k e1 e2)
  | _, _ => none
theorem fd_okV (zs : List Int) (ks : List (Int × ByteArray)) : OkV Tryz.prog 41 (orcFdV zs ks) := by
  intro args H ret H' vc h hv
  unfold orcFdV at h
  split at h
  · cases h
    obtain ⟨rfl, rfl, h1⟩ := hv
    exact fd_ok ⟨rfl, rfl, h1⟩
  · cases h
noncomputable def orcPrV (zs : List Int) (ks : List (Int × ByteArray)) : OrcV
  | [.agg ⟨[.string nm, .slice (some ⟨0, 0, none⟩) n _c, .slice (some ⟨1, 0, none⟩) k _d]⟩, .int .i64 p, .int .i64 x], [some (.row e1 2 true true true), some (.row e2 2 true true true)] =>
    some (.tuple #[.agg #[.int .i64 (gz (prE nm zs n ks k p x) (lowN (pA zs ks n k p x) (pD zs ks n k p))), .int .i64 (gz (prE nm zs n ks k p x) (lowD (pA zs ks n k p x) (pD zs ks n k p)))], .int .i64 (prE nm zs n ks k p x)], [some (.row e1 2 true true true), some (.row e2 2 true true true)], isSec zs ks n k e1 e2)
  | _, _ => none
theorem pr_okV (zs : List Int) (ks : List (Int × ByteArray)) : OkV Tryz.prog 42 (orcPrV zs ks) := by
  intro args H ret H' vc h hv
  unfold orcPrV at h
  split at h
  · cases h
    obtain ⟨rfl, rfl, h1⟩ := hv
    exact pr_ok ⟨rfl, rfl, h1⟩
  · cases h
noncomputable def orcReV (zs : List Int) (ks : List (Int × ByteArray)) : OrcV
  | [.agg ⟨[.string nm, .slice (some ⟨0, 0, none⟩) n _c, .slice (some ⟨1, 0, none⟩) k _d]⟩, .int .i64 p, .int .i64 l], [some (.row e1 2 true true true), some (.row e2 2 true true true)] =>
    some (.tuple #[.int .i64 (gz (reE nm zs n ks k p l) (rdN zs ks n k p l)), .int .i64 (reE nm zs n ks k p l)], [some (.row e1 2 true true true), some (.row e2 2 true true true)], isSec zs ks n k e1 e2)
  | _, _ => none
theorem re_okV (zs : List Int) (ks : List (Int × ByteArray)) : OkV Tryz.prog 43 (orcReV zs ks) := by
  intro args H ret H' vc h hv
  unfold orcReV at h
  split at h
  · cases h
    obtain ⟨rfl, rfl, h1⟩ := hv
    exact re_ok ⟨rfl, rfl, h1⟩
  · cases h
noncomputable def bx (cs : List Value) : Option AObj := some (.row cs 0 false true true)
noncomputable def i0 : Value := .int .i64 0
end
end Qq
