/- Lines that are given, checked; Fits. -/
import Derived.Test.YtaigknknfaeajaaGreatDoorQFF
import Derived.Test.YtaigknknfaeajaaGreatDoorQDD
open Go Go.Vm Go.Proofs Sp
namespace Sp
noncomputable section
noncomputable def rtE (n d : Int) : Int := sel (fi [wi n (-999999999) 999999999, wi d 1 999999999]) (wh (decide ((1 : Int) < (Nat.gcd n.natAbs d.natAbs : Nat))) 1)
noncomputable def mxG (m : Int) : List Int → Int
  | [] => m
  | x :: r => mxG (if x > m then x else m) r
noncomputable def mxL (l : List Int) : Int := mxG (l.getD 0 0) (l.drop 1)
end
end Sp
namespace Qq
noncomputable section
noncomputable def s1 : List (Nat × Orc) := [(191, orcWhen), (173, orcFirst)]
noncomputable def s2 : List (Nat × Orc) := (174, orcWithin) :: s1
/- The greatest common divisor. -/
noncomputable def orcRt : Orc
  | [.agg ⟨[.int .i64 n, .int .i64 d]⟩], [] => some (.int .i64 (rtE n d), [])
  | _, _ => none
/- The greatest of a list. -/
noncomputable def orcMax : Orc
  | [.slice (some ⟨0, 0, none⟩) n _c], [some (.row cells es more rw true)] =>
    match intsOf cells with
    | some l => if n = l.length ∧ 0 < n ∧ n < 1000 then some (.int .i64 (mxL l), [some (.row cells es more rw true)]) else none
    | none => none
  | _, _ => none
/- Lines, checked. -/
noncomputable def t20 : List (Nat × Orc) := (132, orcDay) :: (206, orcRt) :: (120, orcMax) :: t2
end
end Qq
