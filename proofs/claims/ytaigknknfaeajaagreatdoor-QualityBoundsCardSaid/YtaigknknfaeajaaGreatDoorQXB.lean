/- What law 11 needs. -/
import Derived.Test.YtaigknknfaeajaaGreatDoorQXA
import Derived.Test.YtaigknknfaeajaaGreatDoorZP
