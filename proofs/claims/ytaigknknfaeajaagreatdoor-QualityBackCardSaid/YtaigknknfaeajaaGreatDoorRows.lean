/-
  NARROWER THAN 'FOR EVERY INPUT', by the rows' own cells (each row's printed sentence says how): QualityParts: laid · QualityWindows: laid · QualitySections: laid · QualityLines: laid · QualityLeft: laid · QualityFits: laid · QualityRanges: laid · QualityRanks: laid · QualityExact: laid · QualityBounds: laid · QualityMoments: laid · QualityAdds: laid · QualitySpread: laid · QualityTexts: laid · QualityBack: laid.
  DERIVED. THE GIVEN ROWS OF THIS SEAT. 15 by the template 'for every input the law returns true; each argument reads behind the call as it read before'; 0 by the template 'total and deterministic' (their statements: YtaigknknfaeajaaGreatDoorTotals.lean).
  GIVEN WITH THE SEED: the statements are not yours to turn. If you find one false, say at which input.
  Laid BY PROGRAM, IN A SANDBOX (cutbox-rows.mjs): the forced cells as the released guide's own fill.sh prints them over the translation c8167b6d4d795bad… (all of the seat's roots in one cut). By AI agents, Wed Nov 11 2026. No macro, syntax, notation, axiom, sorry.
-/
import Derived.Test.YtaigknknfaeajaaGreatDoorChecked
import GoSem.PinnedTables
import GoSem.Claim
import GoSem.ClaimJoined
import GoSem.ClaimMapViews
import Derived.JoinedTies
import Derived.KernelRfl
namespace Go.Proofs.YtaigknknfaeajaaGreatDoor
/- THE CELL 'sum', in the pinned program and in every row, IS THE sha256 OF THE DUMP (.gsa) THAT YtaigknknfaeajaaGreatDoorProg.lean LOADS. Nothing in Lean hashes anything: it is a label: what it is worth is what the hold of that sum in a sandbox is worth. -/
noncomputable def Tryz.pinned : Pinned := { name := "ytaigknknfaeajaagreatdoor", sum := "c8167b6d4d795badb4731fe776cc1f2c496b8b4fd1565f83bad0a429a5e0b828", checked := Tryz.checked }
namespace Rows
def none {H : Type} : Left H := { results := [], args := [] }

/- WHAT THE LISTED PACKAGE-LEVEL VARIABLES READ AS WHEN THE CALL BEGINS. Each datum BY PROGRAM (the guide's laid-datum.mjs) off the statement by which the dump's own 'gosem.cut.vars' lays the variable. In a bare row this is a premise. The card (YtaigknknfaeajaaGreatDoorCards.lean) ties it to the program's text. -/
def laid_math_bits_deBruijn32tab {H : Type} : DataW H := .agg [.lit (.int .u8 0), .lit (.int .u8 1), .lit (.int .u8 28), .lit (.int .u8 2), .lit (.int .u8 29), .lit (.int .u8 14), .lit (.int .u8 24), .lit (.int .u8 3), .lit (.int .u8 30), .lit (.int .u8 22), .lit (.int .u8 20), .lit (.int .u8 15), .lit (.int .u8 25), .lit (.int .u8 17), .lit (.int .u8 4), .lit (.int .u8 8), .lit (.int .u8 31), .lit (.int .u8 27), .lit (.int .u8 13), .lit (.int .u8 23), .lit (.int .u8 21), .lit (.int .u8 19), .lit (.int .u8 16), .lit (.int .u8 7), .lit (.int .u8 26), .lit (.int .u8 12), .lit (.int .u8 18), .lit (.int .u8 6), .lit (.int .u8 11), .lit (.int .u8 5), .lit (.int .u8 10), .lit (.int .u8 9)]
def laid_math_bits_deBruijn64tab {H : Type} : DataW H := .agg [.lit (.int .u8 0), .lit (.int .u8 1), .lit (.int .u8 56), .lit (.int .u8 2), .lit (.int .u8 57), .lit (.int .u8 49), .lit (.int .u8 28), .lit (.int .u8 3), .lit (.int .u8 61), .lit (.int .u8 58), .lit (.int .u8 42), .lit (.int .u8 50), .lit (.int .u8 38), .lit (.int .u8 29), .lit (.int .u8 17), .lit (.int .u8 4), .lit (.int .u8 62), .lit (.int .u8 47), .lit (.int .u8 59), .lit (.int .u8 36), .lit (.int .u8 45), .lit (.int .u8 43), .lit (.int .u8 51), .lit (.int .u8 22), .lit (.int .u8 53), .lit (.int .u8 39), .lit (.int .u8 33), .lit (.int .u8 30), .lit (.int .u8 24), .lit (.int .u8 18), .lit (.int .u8 12), .lit (.int .u8 5), .lit (.int .u8 63), .lit (.int .u8 55), .lit (.int .u8 48), .lit (.int .u8 27), .lit (.int .u8 60), .lit (.int .u8 41), .lit (.int .u8 37), .lit (.int .u8 16), .lit (.int .u8 46), .lit (.int .u8 35), .lit (.int .u8 44), .lit (.int .u8 21), .lit (.int .u8 52), .lit (.int .u8 32), .lit (.int .u8 23), .lit (.int .u8 11), .lit (.int .u8 54), .lit (.int .u8 26), .lit (.int .u8 40), .lit (.int .u8 15), .lit (.int .u8 34), .lit (.int .u8 20), .lit (.int .u8 31), .lit (.int .u8 10), .lit (.int .u8 25), .lit (.int .u8 14), .lit (.int .u8 19), .lit (.int .u8 9), .lit (.int .u8 13), .lit (.int .u8 8), .lit (.int .u8 7), .lit (.int .u8 6)]
def laid_internal_strconv_uint64pow10 {H : Type} : DataW H := .agg [.lit (.int .u64 1), .lit (.int .u64 10), .lit (.int .u64 100), .lit (.int .u64 1000), .lit (.int .u64 10000), .lit (.int .u64 100000), .lit (.int .u64 1000000), .lit (.int .u64 10000000), .lit (.int .u64 100000000), .lit (.int .u64 1000000000), .lit (.int .u64 10000000000), .lit (.int .u64 100000000000), .lit (.int .u64 1000000000000), .lit (.int .u64 10000000000000), .lit (.int .u64 100000000000000), .lit (.int .u64 1000000000000000), .lit (.int .u64 10000000000000000), .lit (.int .u64 100000000000000000), .lit (.int .u64 1000000000000000000), .lit (.int .u64 10000000000000000000)]
def laid_unicode_utf8_acceptRanges {H : Type} : DataW H := .agg [.agg [.lit (.int .u8 128), .lit (.int .u8 191)], .agg [.lit (.int .u8 160), .lit (.int .u8 191)], .agg [.lit (.int .u8 128), .lit (.int .u8 159)], .agg [.lit (.int .u8 144), .lit (.int .u8 191)], .agg [.lit (.int .u8 128), .lit (.int .u8 143)], .agg [.lit (.int .u8 0), .lit (.int .u8 0)], .agg [.lit (.int .u8 0), .lit (.int .u8 0)], .agg [.lit (.int .u8 0), .lit (.int .u8 0)], .agg [.lit (.int .u8 0), .lit (.int .u8 0)], .agg [.lit (.int .u8 0), .lit (.int .u8 0)], .agg [.lit (.int .u8 0), .lit (.int .u8 0)], .agg [.lit (.int .u8 0), .lit (.int .u8 0)], .agg [.lit (.int .u8 0), .lit (.int .u8 0)], .agg [.lit (.int .u8 0), .lit (.int .u8 0)], .agg [.lit (.int .u8 0), .lit (.int .u8 0)], .agg [.lit (.int .u8 0), .lit (.int .u8 0)]]
/-- One of Go's own tables, pinned by name: the form's constant. -/
def laid_unicode_utf8_first : DataW Unit := Go.Pinned.utf8First

/-- 'versinelaw08.QualityParts': WHATEVER THE INPUT: true; the input reads as it did. -/
def qualityPartsSpec : ChangeSpec := { name := "qualityParts", fn := fun _ => fun
  | [d1, d2] => { results := [.lit (.bool true)], args := [d1, d2] }
  | _ => none }
def qualityPartsRow : OpenClaim := { program := "ytaigknknfaeajaagreatdoor", sum := "c8167b6d4d795badb4731fe776cc1f2c496b8b4fd1565f83bad0a429a5e0b828", func := "versine/versinelaw08.QualityParts", spec := "qualityParts", inPlace := ["internal/abi.NoEscape", "internal/bytealg.MakeNoZero"], unfollowed := true, recurses := true, named := ["internal/strconv.uint64pow10", "math/bits.deBruijn32tab", "math/bits.deBruijn64tab"], apart := false, laid := [("math/bits.deBruijn32tab", laid_math_bits_deBruijn32tab), ("math/bits.deBruijn64tab", laid_math_bits_deBruijn64tab), ("internal/strconv.uint64pow10", laid_internal_strconv_uint64pow10)] }
def QualityPartsSaid : Prop := qualityPartsRow.holds Tryz.pinned (OpenSpec.ofChange qualityPartsSpec)

/-- ITS FALSE NEIGHBOUR: 'it returns false'. Refute it at one input. -/
def qualityPartsWrong : ChangeSpec := { name := "qualityParts", fn := fun _ => fun
  | [d1, d2] => { results := [.lit (.bool false)], args := [d1, d2] }
  | _ => none }
def QualityPartsWrongFalsely : Prop := qualityPartsRow.holds Tryz.pinned (OpenSpec.ofChange qualityPartsWrong)

/-- 'versinelaw08.QualityWindows': WHATEVER THE INPUT: true; the input reads as it did. -/
def qualityWindowsSpec : ChangeSpec := { name := "qualityWindows", fn := fun _ => fun
  | [d1, d2] => { results := [.lit (.bool true)], args := [d1, d2] }
  | _ => none }
def qualityWindowsRow : OpenClaim := { program := "ytaigknknfaeajaagreatdoor", sum := "c8167b6d4d795badb4731fe776cc1f2c496b8b4fd1565f83bad0a429a5e0b828", func := "versine/versinelaw08.QualityWindows", spec := "qualityWindows", inPlace := ["internal/abi.NoEscape", "internal/bytealg.MakeNoZero"], unfollowed := true, recurses := true, named := ["internal/strconv.uint64pow10", "math/bits.deBruijn32tab", "math/bits.deBruijn64tab"], apart := false, laid := [("math/bits.deBruijn32tab", laid_math_bits_deBruijn32tab), ("math/bits.deBruijn64tab", laid_math_bits_deBruijn64tab), ("internal/strconv.uint64pow10", laid_internal_strconv_uint64pow10)] }
def QualityWindowsSaid : Prop := qualityWindowsRow.holds Tryz.pinned (OpenSpec.ofChange qualityWindowsSpec)

/-- ITS FALSE NEIGHBOUR: 'it returns false'. Refute it at one input. -/
def qualityWindowsWrong : ChangeSpec := { name := "qualityWindows", fn := fun _ => fun
  | [d1, d2] => { results := [.lit (.bool false)], args := [d1, d2] }
  | _ => none }
def QualityWindowsWrongFalsely : Prop := qualityWindowsRow.holds Tryz.pinned (OpenSpec.ofChange qualityWindowsWrong)

/-- 'versinelaw08.QualitySections': WHATEVER THE INPUT: true; the input reads as it did. -/
def qualitySectionsSpec : ChangeSpec := { name := "qualitySections", fn := fun _ => fun
  | [d] => { results := [.lit (.bool true)], args := [d] }
  | _ => none }
def qualitySectionsRow : OpenClaim := { program := "ytaigknknfaeajaagreatdoor", sum := "c8167b6d4d795badb4731fe776cc1f2c496b8b4fd1565f83bad0a429a5e0b828", func := "versine/versinelaw08.QualitySections", spec := "qualitySections", inPlace := ["internal/abi.NoEscape", "internal/bytealg.MakeNoZero"], unfollowed := true, recurses := true, named := ["internal/strconv.uint64pow10", "math/bits.deBruijn32tab", "math/bits.deBruijn64tab"], apart := false, laid := [("math/bits.deBruijn32tab", laid_math_bits_deBruijn32tab), ("math/bits.deBruijn64tab", laid_math_bits_deBruijn64tab), ("internal/strconv.uint64pow10", laid_internal_strconv_uint64pow10)] }
def QualitySectionsSaid : Prop := qualitySectionsRow.holds Tryz.pinned (OpenSpec.ofChange qualitySectionsSpec)

/-- ITS FALSE NEIGHBOUR: 'it returns false'. Refute it at one input. -/
def qualitySectionsWrong : ChangeSpec := { name := "qualitySections", fn := fun _ => fun
  | [d] => { results := [.lit (.bool false)], args := [d] }
  | _ => none }
def QualitySectionsWrongFalsely : Prop := qualitySectionsRow.holds Tryz.pinned (OpenSpec.ofChange qualitySectionsWrong)

/-- 'versinelaw08.QualityLines': WHATEVER THE INPUT: true; the input reads as it did. -/
def qualityLinesSpec : ChangeSpec := { name := "qualityLines", fn := fun _ => fun
  | [d1, d2] => { results := [.lit (.bool true)], args := [d1, d2] }
  | _ => none }
def qualityLinesRow : OpenClaim := { program := "ytaigknknfaeajaagreatdoor", sum := "c8167b6d4d795badb4731fe776cc1f2c496b8b4fd1565f83bad0a429a5e0b828", func := "versine/versinelaw08.QualityLines", spec := "qualityLines", inPlace := ["internal/abi.NoEscape", "internal/bytealg.MakeNoZero"], unfollowed := true, recurses := true, named := ["internal/strconv.uint64pow10", "math/bits.deBruijn32tab", "math/bits.deBruijn64tab"], apart := false, laid := [("math/bits.deBruijn32tab", laid_math_bits_deBruijn32tab), ("math/bits.deBruijn64tab", laid_math_bits_deBruijn64tab), ("internal/strconv.uint64pow10", laid_internal_strconv_uint64pow10)] }
def QualityLinesSaid : Prop := qualityLinesRow.holds Tryz.pinned (OpenSpec.ofChange qualityLinesSpec)

/-- ITS FALSE NEIGHBOUR: 'it returns false'. Refute it at one input. -/
def qualityLinesWrong : ChangeSpec := { name := "qualityLines", fn := fun _ => fun
  | [d1, d2] => { results := [.lit (.bool false)], args := [d1, d2] }
  | _ => none }
def QualityLinesWrongFalsely : Prop := qualityLinesRow.holds Tryz.pinned (OpenSpec.ofChange qualityLinesWrong)

/-- 'versinelaw08.QualityLeft': WHATEVER THE INPUT: true; the input reads as it did. -/
def qualityLeftSpec : ChangeSpec := { name := "qualityLeft", fn := fun _ => fun
  | [d1, d2] => { results := [.lit (.bool true)], args := [d1, d2] }
  | _ => none }
def qualityLeftRow : OpenClaim := { program := "ytaigknknfaeajaagreatdoor", sum := "c8167b6d4d795badb4731fe776cc1f2c496b8b4fd1565f83bad0a429a5e0b828", func := "versine/versinelaw08.QualityLeft", spec := "qualityLeft", inPlace := ["internal/abi.NoEscape", "internal/bytealg.MakeNoZero"], unfollowed := true, recurses := true, named := ["internal/strconv.uint64pow10", "math/bits.deBruijn32tab", "math/bits.deBruijn64tab"], apart := false, laid := [("math/bits.deBruijn32tab", laid_math_bits_deBruijn32tab), ("math/bits.deBruijn64tab", laid_math_bits_deBruijn64tab), ("internal/strconv.uint64pow10", laid_internal_strconv_uint64pow10)] }
def QualityLeftSaid : Prop := qualityLeftRow.holds Tryz.pinned (OpenSpec.ofChange qualityLeftSpec)

/-- ITS FALSE NEIGHBOUR: 'it returns false'. Refute it at one input. -/
def qualityLeftWrong : ChangeSpec := { name := "qualityLeft", fn := fun _ => fun
  | [d1, d2] => { results := [.lit (.bool false)], args := [d1, d2] }
  | _ => none }
def QualityLeftWrongFalsely : Prop := qualityLeftRow.holds Tryz.pinned (OpenSpec.ofChange qualityLeftWrong)

/-- 'versinelaw08.QualityFits': WHATEVER THE INPUT: true; the input reads as it did. -/
def qualityFitsSpec : ChangeSpec := { name := "qualityFits", fn := fun _ => fun
  | [d1, d2, d3] => { results := [.lit (.bool true)], args := [d1, d2, d3] }
  | _ => none }
def qualityFitsRow : OpenClaim := { program := "ytaigknknfaeajaagreatdoor", sum := "c8167b6d4d795badb4731fe776cc1f2c496b8b4fd1565f83bad0a429a5e0b828", func := "versine/versinelaw08.QualityFits", spec := "qualityFits", inPlace := ["internal/abi.NoEscape", "internal/bytealg.MakeNoZero"], unfollowed := true, recurses := true, named := ["internal/strconv.uint64pow10", "math/bits.deBruijn32tab", "math/bits.deBruijn64tab"], apart := false, laid := [("math/bits.deBruijn32tab", laid_math_bits_deBruijn32tab), ("math/bits.deBruijn64tab", laid_math_bits_deBruijn64tab), ("internal/strconv.uint64pow10", laid_internal_strconv_uint64pow10)] }
def QualityFitsSaid : Prop := qualityFitsRow.holds Tryz.pinned (OpenSpec.ofChange qualityFitsSpec)

/-- ITS FALSE NEIGHBOUR: 'it returns false'. Refute it at one input. -/
def qualityFitsWrong : ChangeSpec := { name := "qualityFits", fn := fun _ => fun
  | [d1, d2, d3] => { results := [.lit (.bool false)], args := [d1, d2, d3] }
  | _ => none }
def QualityFitsWrongFalsely : Prop := qualityFitsRow.holds Tryz.pinned (OpenSpec.ofChange qualityFitsWrong)

/-- 'versinelaw08.QualityRanges': WHATEVER THE INPUT: true; the input reads as it did. -/
def qualityRangesSpec : ChangeSpec := { name := "qualityRanges", fn := fun _ => fun
  | [d1, d2] => { results := [.lit (.bool true)], args := [d1, d2] }
  | _ => none }
def qualityRangesRow : OpenClaim := { program := "ytaigknknfaeajaagreatdoor", sum := "c8167b6d4d795badb4731fe776cc1f2c496b8b4fd1565f83bad0a429a5e0b828", func := "versine/versinelaw08.QualityRanges", spec := "qualityRanges", inPlace := ["internal/abi.NoEscape", "internal/bytealg.MakeNoZero"], unfollowed := true, recurses := true, named := ["internal/strconv.uint64pow10", "math/bits.deBruijn32tab", "math/bits.deBruijn64tab"], apart := false, laid := [("math/bits.deBruijn32tab", laid_math_bits_deBruijn32tab), ("math/bits.deBruijn64tab", laid_math_bits_deBruijn64tab), ("internal/strconv.uint64pow10", laid_internal_strconv_uint64pow10)] }
def QualityRangesSaid : Prop := qualityRangesRow.holds Tryz.pinned (OpenSpec.ofChange qualityRangesSpec)

/-- ITS FALSE NEIGHBOUR: 'it returns false'. Refute it at one input. -/
def qualityRangesWrong : ChangeSpec := { name := "qualityRanges", fn := fun _ => fun
  | [d1, d2] => { results := [.lit (.bool false)], args := [d1, d2] }
  | _ => none }
def QualityRangesWrongFalsely : Prop := qualityRangesRow.holds Tryz.pinned (OpenSpec.ofChange qualityRangesWrong)

/-- 'versinelaw08.QualityRanks': WHATEVER THE INPUT: true; the input reads as it did. -/
def qualityRanksSpec : ChangeSpec := { name := "qualityRanks", fn := fun _ => fun
  | [d1, d2] => { results := [.lit (.bool true)], args := [d1, d2] }
  | _ => none }
def qualityRanksRow : OpenClaim := { program := "ytaigknknfaeajaagreatdoor", sum := "c8167b6d4d795badb4731fe776cc1f2c496b8b4fd1565f83bad0a429a5e0b828", func := "versine/versinelaw08.QualityRanks", spec := "qualityRanks", inPlace := ["internal/abi.NoEscape", "internal/bytealg.MakeNoZero"], unfollowed := true, recurses := true, named := ["internal/strconv.uint64pow10", "math/bits.deBruijn32tab", "math/bits.deBruijn64tab"], apart := false, laid := [("math/bits.deBruijn32tab", laid_math_bits_deBruijn32tab), ("math/bits.deBruijn64tab", laid_math_bits_deBruijn64tab), ("internal/strconv.uint64pow10", laid_internal_strconv_uint64pow10)] }
def QualityRanksSaid : Prop := qualityRanksRow.holds Tryz.pinned (OpenSpec.ofChange qualityRanksSpec)

/-- ITS FALSE NEIGHBOUR: 'it returns false'. Refute it at one input. -/
def qualityRanksWrong : ChangeSpec := { name := "qualityRanks", fn := fun _ => fun
  | [d1, d2] => { results := [.lit (.bool false)], args := [d1, d2] }
  | _ => none }
def QualityRanksWrongFalsely : Prop := qualityRanksRow.holds Tryz.pinned (OpenSpec.ofChange qualityRanksWrong)

/-- 'versinelaw08.QualityExact': WHATEVER THE INPUT: true; the input reads as it did. -/
def qualityExactSpec : ChangeSpec := { name := "qualityExact", fn := fun _ => fun
  | [d1, d2] => { results := [.lit (.bool true)], args := [d1, d2] }
  | _ => none }
def qualityExactRow : OpenClaim := { program := "ytaigknknfaeajaagreatdoor", sum := "c8167b6d4d795badb4731fe776cc1f2c496b8b4fd1565f83bad0a429a5e0b828", func := "versine/versinelaw08.QualityExact", spec := "qualityExact", inPlace := ["internal/abi.NoEscape", "internal/bytealg.MakeNoZero"], unfollowed := true, recurses := true, named := ["internal/strconv.uint64pow10", "math/bits.deBruijn32tab", "math/bits.deBruijn64tab"], apart := false, laid := [("math/bits.deBruijn32tab", laid_math_bits_deBruijn32tab), ("math/bits.deBruijn64tab", laid_math_bits_deBruijn64tab), ("internal/strconv.uint64pow10", laid_internal_strconv_uint64pow10)] }
def QualityExactSaid : Prop := qualityExactRow.holds Tryz.pinned (OpenSpec.ofChange qualityExactSpec)

/-- ITS FALSE NEIGHBOUR: 'it returns false'. Refute it at one input. -/
def qualityExactWrong : ChangeSpec := { name := "qualityExact", fn := fun _ => fun
  | [d1, d2] => { results := [.lit (.bool false)], args := [d1, d2] }
  | _ => none }
def QualityExactWrongFalsely : Prop := qualityExactRow.holds Tryz.pinned (OpenSpec.ofChange qualityExactWrong)

/-- 'versinelaw08.QualityBounds': WHATEVER THE INPUT: true; the input reads as it did. -/
def qualityBoundsSpec : ChangeSpec := { name := "qualityBounds", fn := fun _ => fun
  | [d1, d2, d3] => { results := [.lit (.bool true)], args := [d1, d2, d3] }
  | _ => none }
def qualityBoundsRow : OpenClaim := { program := "ytaigknknfaeajaagreatdoor", sum := "c8167b6d4d795badb4731fe776cc1f2c496b8b4fd1565f83bad0a429a5e0b828", func := "versine/versinelaw08.QualityBounds", spec := "qualityBounds", inPlace := ["internal/abi.NoEscape", "internal/bytealg.MakeNoZero"], unfollowed := true, recurses := true, named := ["internal/strconv.uint64pow10", "math/bits.deBruijn32tab", "math/bits.deBruijn64tab"], apart := false, laid := [("math/bits.deBruijn32tab", laid_math_bits_deBruijn32tab), ("math/bits.deBruijn64tab", laid_math_bits_deBruijn64tab), ("internal/strconv.uint64pow10", laid_internal_strconv_uint64pow10)] }
def QualityBoundsSaid : Prop := qualityBoundsRow.holds Tryz.pinned (OpenSpec.ofChange qualityBoundsSpec)

/-- ITS FALSE NEIGHBOUR: 'it returns false'. Refute it at one input. -/
def qualityBoundsWrong : ChangeSpec := { name := "qualityBounds", fn := fun _ => fun
  | [d1, d2, d3] => { results := [.lit (.bool false)], args := [d1, d2, d3] }
  | _ => none }
def QualityBoundsWrongFalsely : Prop := qualityBoundsRow.holds Tryz.pinned (OpenSpec.ofChange qualityBoundsWrong)

/-- 'versinelaw08.QualityMoments': WHATEVER THE INPUT: true; the input reads as it did. -/
def qualityMomentsSpec : ChangeSpec := { name := "qualityMoments", fn := fun _ => fun
  | [d1, d2] => { results := [.lit (.bool true)], args := [d1, d2] }
  | _ => none }
def qualityMomentsRow : OpenClaim := { program := "ytaigknknfaeajaagreatdoor", sum := "c8167b6d4d795badb4731fe776cc1f2c496b8b4fd1565f83bad0a429a5e0b828", func := "versine/versinelaw08.QualityMoments", spec := "qualityMoments", inPlace := ["internal/abi.NoEscape", "internal/bytealg.MakeNoZero"], unfollowed := true, recurses := true, named := ["internal/strconv.uint64pow10", "math/bits.deBruijn32tab", "math/bits.deBruijn64tab"], apart := false, laid := [("math/bits.deBruijn32tab", laid_math_bits_deBruijn32tab), ("math/bits.deBruijn64tab", laid_math_bits_deBruijn64tab), ("internal/strconv.uint64pow10", laid_internal_strconv_uint64pow10)] }
def QualityMomentsSaid : Prop := qualityMomentsRow.holds Tryz.pinned (OpenSpec.ofChange qualityMomentsSpec)

/-- ITS FALSE NEIGHBOUR: 'it returns false'. Refute it at one input. -/
def qualityMomentsWrong : ChangeSpec := { name := "qualityMoments", fn := fun _ => fun
  | [d1, d2] => { results := [.lit (.bool false)], args := [d1, d2] }
  | _ => none }
def QualityMomentsWrongFalsely : Prop := qualityMomentsRow.holds Tryz.pinned (OpenSpec.ofChange qualityMomentsWrong)

/-- 'versinelaw08.QualityAdds': WHATEVER THE INPUT: true; the input reads as it did. -/
def qualityAddsSpec : ChangeSpec := { name := "qualityAdds", fn := fun _ => fun
  | [d1, d2, d3] => { results := [.lit (.bool true)], args := [d1, d2, d3] }
  | _ => none }
def qualityAddsRow : OpenClaim := { program := "ytaigknknfaeajaagreatdoor", sum := "c8167b6d4d795badb4731fe776cc1f2c496b8b4fd1565f83bad0a429a5e0b828", func := "versine/versinelaw08.QualityAdds", spec := "qualityAdds", inPlace := ["internal/abi.NoEscape", "internal/bytealg.MakeNoZero"], unfollowed := true, recurses := true, named := ["internal/strconv.uint64pow10", "math/bits.deBruijn32tab", "math/bits.deBruijn64tab"], apart := false, laid := [("math/bits.deBruijn32tab", laid_math_bits_deBruijn32tab), ("math/bits.deBruijn64tab", laid_math_bits_deBruijn64tab), ("internal/strconv.uint64pow10", laid_internal_strconv_uint64pow10)] }
def QualityAddsSaid : Prop := qualityAddsRow.holds Tryz.pinned (OpenSpec.ofChange qualityAddsSpec)

/-- ITS FALSE NEIGHBOUR: 'it returns false'. Refute it at one input. -/
def qualityAddsWrong : ChangeSpec := { name := "qualityAdds", fn := fun _ => fun
  | [d1, d2, d3] => { results := [.lit (.bool false)], args := [d1, d2, d3] }
  | _ => none }
def QualityAddsWrongFalsely : Prop := qualityAddsRow.holds Tryz.pinned (OpenSpec.ofChange qualityAddsWrong)

/-- 'versinelaw08.QualitySpread': WHATEVER THE INPUT: true; the input reads as it did. -/
def qualitySpreadSpec : ChangeSpec := { name := "qualitySpread", fn := fun _ => fun
  | [d1, d2] => { results := [.lit (.bool true)], args := [d1, d2] }
  | _ => none }
def qualitySpreadRow : OpenClaim := { program := "ytaigknknfaeajaagreatdoor", sum := "c8167b6d4d795badb4731fe776cc1f2c496b8b4fd1565f83bad0a429a5e0b828", func := "versine/versinelaw08.QualitySpread", spec := "qualitySpread", inPlace := ["internal/abi.NoEscape", "internal/bytealg.MakeNoZero"], unfollowed := true, recurses := true, named := ["internal/strconv.uint64pow10", "math/bits.deBruijn32tab", "math/bits.deBruijn64tab"], apart := false, laid := [("math/bits.deBruijn32tab", laid_math_bits_deBruijn32tab), ("math/bits.deBruijn64tab", laid_math_bits_deBruijn64tab), ("internal/strconv.uint64pow10", laid_internal_strconv_uint64pow10)] }
def QualitySpreadSaid : Prop := qualitySpreadRow.holds Tryz.pinned (OpenSpec.ofChange qualitySpreadSpec)

/-- ITS FALSE NEIGHBOUR: 'it returns false'. Refute it at one input. -/
def qualitySpreadWrong : ChangeSpec := { name := "qualitySpread", fn := fun _ => fun
  | [d1, d2] => { results := [.lit (.bool false)], args := [d1, d2] }
  | _ => none }
def QualitySpreadWrongFalsely : Prop := qualitySpreadRow.holds Tryz.pinned (OpenSpec.ofChange qualitySpreadWrong)

/-- 'versinelaw08.QualityTexts': WHATEVER THE INPUT: true; the input reads as it did. -/
def qualityTextsSpec : ChangeSpec := { name := "qualityTexts", fn := fun _ => fun
  | [d1, d2] => { results := [.lit (.bool true)], args := [d1, d2] }
  | _ => none }
def qualityTextsRow : OpenClaim := { program := "ytaigknknfaeajaagreatdoor", sum := "c8167b6d4d795badb4731fe776cc1f2c496b8b4fd1565f83bad0a429a5e0b828", func := "versine/versinelaw08.QualityTexts", spec := "qualityTexts", inPlace := ["internal/abi.NoEscape", "internal/bytealg.MakeNoZero", "internal/bytealg.IndexByteString", "internal/bytealg.CountString", "internal/bytealg.IndexString"], unfollowed := true, recurses := true, named := ["internal/strconv.uint64pow10", "math/bits.deBruijn32tab", "math/bits.deBruijn64tab", "unicode/utf8.first", "unicode/utf8.acceptRanges", "internal/bytealg.MaxLen"], apart := false, laid := [("math/bits.deBruijn32tab", laid_math_bits_deBruijn32tab), ("math/bits.deBruijn64tab", laid_math_bits_deBruijn64tab), ("internal/strconv.uint64pow10", laid_internal_strconv_uint64pow10), ("unicode/utf8.acceptRanges", laid_unicode_utf8_acceptRanges), ("unicode/utf8.first", laid_unicode_utf8_first)] }
def QualityTextsSaid : Prop := qualityTextsRow.holds Tryz.pinned (OpenSpec.ofChange qualityTextsSpec)

/-- ITS FALSE NEIGHBOUR: 'it returns false'. Refute it at one input. -/
def qualityTextsWrong : ChangeSpec := { name := "qualityTexts", fn := fun _ => fun
  | [d1, d2] => { results := [.lit (.bool false)], args := [d1, d2] }
  | _ => none }
def QualityTextsWrongFalsely : Prop := qualityTextsRow.holds Tryz.pinned (OpenSpec.ofChange qualityTextsWrong)

/-- 'versinelaw08.QualityBack': WHATEVER THE INPUT: true; the input reads as it did. -/
def qualityBackSpec : ChangeSpec := { name := "qualityBack", fn := fun _ => fun
  | [d1, d2] => { results := [.lit (.bool true)], args := [d1, d2] }
  | _ => none }
def qualityBackRow : OpenClaim := { program := "ytaigknknfaeajaagreatdoor", sum := "c8167b6d4d795badb4731fe776cc1f2c496b8b4fd1565f83bad0a429a5e0b828", func := "versine/versinelaw08.QualityBack", spec := "qualityBack", inPlace := ["internal/abi.NoEscape", "internal/bytealg.MakeNoZero", "internal/bytealg.IndexByteString", "internal/bytealg.CountString", "internal/bytealg.IndexString"], unfollowed := true, recurses := true, named := ["internal/strconv.uint64pow10", "math/bits.deBruijn32tab", "math/bits.deBruijn64tab", "unicode/utf8.first", "unicode/utf8.acceptRanges", "internal/bytealg.MaxLen"], apart := false, laid := [("math/bits.deBruijn32tab", laid_math_bits_deBruijn32tab), ("math/bits.deBruijn64tab", laid_math_bits_deBruijn64tab), ("internal/strconv.uint64pow10", laid_internal_strconv_uint64pow10), ("unicode/utf8.acceptRanges", laid_unicode_utf8_acceptRanges), ("unicode/utf8.first", laid_unicode_utf8_first)] }
def QualityBackSaid : Prop := qualityBackRow.holds Tryz.pinned (OpenSpec.ofChange qualityBackSpec)

/-- ITS FALSE NEIGHBOUR: 'it returns false'. Refute it at one input. -/
def qualityBackWrong : ChangeSpec := { name := "qualityBack", fn := fun _ => fun
  | [d1, d2] => { results := [.lit (.bool false)], args := [d1, d2] }
  | _ => none }
def QualityBackWrongFalsely : Prop := qualityBackRow.holds Tryz.pinned (OpenSpec.ofChange qualityBackWrong)

/- THE SECOND FORM. 'bulk': how many values and letters a reading holds, each counted each time it is reached (what is shared counts as often as it is met; a slice's spare places count too). A statement '..UptoSaid' is the law's where the arguments, and the package variables that the reading takes, are together of bulk at most 1048576: NARROWER than '..Said'. Prove '..Said' where nothing that the law and all that it calls make is longer than what came in: it says more and counts as full. Else prove '..UptoSaid'. A law counts once. -/
mutual
def uptoBulk {H : Type} : DataW H → Nat
  | .lit (.string bytes) => bytes.length + 1
  | .lit _ => 1
  | .nil => 1
  | .ptr d => uptoBulk d + 1
  | .slice elems spare => uptoBulkAll elems + uptoBulkAll spare + 1
  | .agg parts => uptoBulkAll parts + 1
  | .iface _ d => uptoBulk d + 1
  | .map entries => uptoBulkEntries entries + 1
  | .held _ => 1
def uptoBulkAll {H : Type} : List (DataW H) → Nat
  | [] => 0
  | d :: r => uptoBulk d + uptoBulkAll r
def uptoBulkEntries {H : Type} : List (Lit × DataW H) → Nat
  | [] => 0
  | x :: r => uptoBulkEntry x + uptoBulkEntries r
def uptoBulkEntry {H : Type} : Lit × DataW H → Nat
  | (.string bytes, d) => bytes.length + uptoBulk d + 1
  | (_, d) => uptoBulk d + 1
 end
def uptoSmall : (H : Type) → List (DataW H) → Bool := fun _ ds => decide (uptoBulkAll ds ≤ 1048576)
def OpenSpec.upto (s : _root_.Go.ChangeSpec) : _root_.Go.OpenSpec := { _root_.Go.OpenSpec.ofChange s with cond := some uptoSmall }

/-- 'versinelaw08.QualityParts', WHERE WHAT IT READS IS OF BULK AT MOST 1048576: true; the input reads as it did. -/
def qualityPartsUptoRow : OpenClaim := { program := "ytaigknknfaeajaagreatdoor", sum := "c8167b6d4d795badb4731fe776cc1f2c496b8b4fd1565f83bad0a429a5e0b828", func := "versine/versinelaw08.QualityParts", spec := "qualityParts", inPlace := ["internal/abi.NoEscape", "internal/bytealg.MakeNoZero"], unfollowed := true, recurses := true, named := ["internal/strconv.uint64pow10", "math/bits.deBruijn32tab", "math/bits.deBruijn64tab"], apart := false, laid := [("math/bits.deBruijn32tab", laid_math_bits_deBruijn32tab), ("math/bits.deBruijn64tab", laid_math_bits_deBruijn64tab), ("internal/strconv.uint64pow10", laid_internal_strconv_uint64pow10)], narrowed := true }
def QualityPartsUptoSaid : Prop := qualityPartsUptoRow.holds Tryz.pinned (OpenSpec.upto qualityPartsSpec)

/-- 'versinelaw08.QualityWindows', WHERE WHAT IT READS IS OF BULK AT MOST 1048576: true; the input reads as it did. -/
def qualityWindowsUptoRow : OpenClaim := { program := "ytaigknknfaeajaagreatdoor", sum := "c8167b6d4d795badb4731fe776cc1f2c496b8b4fd1565f83bad0a429a5e0b828", func := "versine/versinelaw08.QualityWindows", spec := "qualityWindows", inPlace := ["internal/abi.NoEscape", "internal/bytealg.MakeNoZero"], unfollowed := true, recurses := true, named := ["internal/strconv.uint64pow10", "math/bits.deBruijn32tab", "math/bits.deBruijn64tab"], apart := false, laid := [("math/bits.deBruijn32tab", laid_math_bits_deBruijn32tab), ("math/bits.deBruijn64tab", laid_math_bits_deBruijn64tab), ("internal/strconv.uint64pow10", laid_internal_strconv_uint64pow10)], narrowed := true }
def QualityWindowsUptoSaid : Prop := qualityWindowsUptoRow.holds Tryz.pinned (OpenSpec.upto qualityWindowsSpec)

/-- 'versinelaw08.QualitySections', WHERE WHAT IT READS IS OF BULK AT MOST 1048576: true; the input reads as it did. -/
def qualitySectionsUptoRow : OpenClaim := { program := "ytaigknknfaeajaagreatdoor", sum := "c8167b6d4d795badb4731fe776cc1f2c496b8b4fd1565f83bad0a429a5e0b828", func := "versine/versinelaw08.QualitySections", spec := "qualitySections", inPlace := ["internal/abi.NoEscape", "internal/bytealg.MakeNoZero"], unfollowed := true, recurses := true, named := ["internal/strconv.uint64pow10", "math/bits.deBruijn32tab", "math/bits.deBruijn64tab"], apart := false, laid := [("math/bits.deBruijn32tab", laid_math_bits_deBruijn32tab), ("math/bits.deBruijn64tab", laid_math_bits_deBruijn64tab), ("internal/strconv.uint64pow10", laid_internal_strconv_uint64pow10)], narrowed := true }
def QualitySectionsUptoSaid : Prop := qualitySectionsUptoRow.holds Tryz.pinned (OpenSpec.upto qualitySectionsSpec)

/-- 'versinelaw08.QualityLines', WHERE WHAT IT READS IS OF BULK AT MOST 1048576: true; the input reads as it did. -/
def qualityLinesUptoRow : OpenClaim := { program := "ytaigknknfaeajaagreatdoor", sum := "c8167b6d4d795badb4731fe776cc1f2c496b8b4fd1565f83bad0a429a5e0b828", func := "versine/versinelaw08.QualityLines", spec := "qualityLines", inPlace := ["internal/abi.NoEscape", "internal/bytealg.MakeNoZero"], unfollowed := true, recurses := true, named := ["internal/strconv.uint64pow10", "math/bits.deBruijn32tab", "math/bits.deBruijn64tab"], apart := false, laid := [("math/bits.deBruijn32tab", laid_math_bits_deBruijn32tab), ("math/bits.deBruijn64tab", laid_math_bits_deBruijn64tab), ("internal/strconv.uint64pow10", laid_internal_strconv_uint64pow10)], narrowed := true }
def QualityLinesUptoSaid : Prop := qualityLinesUptoRow.holds Tryz.pinned (OpenSpec.upto qualityLinesSpec)

/-- 'versinelaw08.QualityLeft', WHERE WHAT IT READS IS OF BULK AT MOST 1048576: true; the input reads as it did. -/
def qualityLeftUptoRow : OpenClaim := { program := "ytaigknknfaeajaagreatdoor", sum := "c8167b6d4d795badb4731fe776cc1f2c496b8b4fd1565f83bad0a429a5e0b828", func := "versine/versinelaw08.QualityLeft", spec := "qualityLeft", inPlace := ["internal/abi.NoEscape", "internal/bytealg.MakeNoZero"], unfollowed := true, recurses := true, named := ["internal/strconv.uint64pow10", "math/bits.deBruijn32tab", "math/bits.deBruijn64tab"], apart := false, laid := [("math/bits.deBruijn32tab", laid_math_bits_deBruijn32tab), ("math/bits.deBruijn64tab", laid_math_bits_deBruijn64tab), ("internal/strconv.uint64pow10", laid_internal_strconv_uint64pow10)], narrowed := true }
def QualityLeftUptoSaid : Prop := qualityLeftUptoRow.holds Tryz.pinned (OpenSpec.upto qualityLeftSpec)

/-- 'versinelaw08.QualityFits', WHERE WHAT IT READS IS OF BULK AT MOST 1048576: true; the input reads as it did. -/
def qualityFitsUptoRow : OpenClaim := { program := "ytaigknknfaeajaagreatdoor", sum := "c8167b6d4d795badb4731fe776cc1f2c496b8b4fd1565f83bad0a429a5e0b828", func := "versine/versinelaw08.QualityFits", spec := "qualityFits", inPlace := ["internal/abi.NoEscape", "internal/bytealg.MakeNoZero"], unfollowed := true, recurses := true, named := ["internal/strconv.uint64pow10", "math/bits.deBruijn32tab", "math/bits.deBruijn64tab"], apart := false, laid := [("math/bits.deBruijn32tab", laid_math_bits_deBruijn32tab), ("math/bits.deBruijn64tab", laid_math_bits_deBruijn64tab), ("internal/strconv.uint64pow10", laid_internal_strconv_uint64pow10)], narrowed := true }
def QualityFitsUptoSaid : Prop := qualityFitsUptoRow.holds Tryz.pinned (OpenSpec.upto qualityFitsSpec)

/-- 'versinelaw08.QualityRanges', WHERE WHAT IT READS IS OF BULK AT MOST 1048576: true; the input reads as it did. -/
def qualityRangesUptoRow : OpenClaim := { program := "ytaigknknfaeajaagreatdoor", sum := "c8167b6d4d795badb4731fe776cc1f2c496b8b4fd1565f83bad0a429a5e0b828", func := "versine/versinelaw08.QualityRanges", spec := "qualityRanges", inPlace := ["internal/abi.NoEscape", "internal/bytealg.MakeNoZero"], unfollowed := true, recurses := true, named := ["internal/strconv.uint64pow10", "math/bits.deBruijn32tab", "math/bits.deBruijn64tab"], apart := false, laid := [("math/bits.deBruijn32tab", laid_math_bits_deBruijn32tab), ("math/bits.deBruijn64tab", laid_math_bits_deBruijn64tab), ("internal/strconv.uint64pow10", laid_internal_strconv_uint64pow10)], narrowed := true }
def QualityRangesUptoSaid : Prop := qualityRangesUptoRow.holds Tryz.pinned (OpenSpec.upto qualityRangesSpec)

/-- 'versinelaw08.QualityRanks', WHERE WHAT IT READS IS OF BULK AT MOST 1048576: true; the input reads as it did. -/
def qualityRanksUptoRow : OpenClaim := { program := "ytaigknknfaeajaagreatdoor", sum := "c8167b6d4d795badb4731fe776cc1f2c496b8b4fd1565f83bad0a429a5e0b828", func := "versine/versinelaw08.QualityRanks", spec := "qualityRanks", inPlace := ["internal/abi.NoEscape", "internal/bytealg.MakeNoZero"], unfollowed := true, recurses := true, named := ["internal/strconv.uint64pow10", "math/bits.deBruijn32tab", "math/bits.deBruijn64tab"], apart := false, laid := [("math/bits.deBruijn32tab", laid_math_bits_deBruijn32tab), ("math/bits.deBruijn64tab", laid_math_bits_deBruijn64tab), ("internal/strconv.uint64pow10", laid_internal_strconv_uint64pow10)], narrowed := true }
def QualityRanksUptoSaid : Prop := qualityRanksUptoRow.holds Tryz.pinned (OpenSpec.upto qualityRanksSpec)

/-- 'versinelaw08.QualityExact', WHERE WHAT IT READS IS OF BULK AT MOST 1048576: true; the input reads as it did. -/
def qualityExactUptoRow : OpenClaim := { program := "ytaigknknfaeajaagreatdoor", sum := "c8167b6d4d795badb4731fe776cc1f2c496b8b4fd1565f83bad0a429a5e0b828", func := "versine/versinelaw08.QualityExact", spec := "qualityExact", inPlace := ["internal/abi.NoEscape", "internal/bytealg.MakeNoZero"], unfollowed := true, recurses := true, named := ["internal/strconv.uint64pow10", "math/bits.deBruijn32tab", "math/bits.deBruijn64tab"], apart := false, laid := [("math/bits.deBruijn32tab", laid_math_bits_deBruijn32tab), ("math/bits.deBruijn64tab", laid_math_bits_deBruijn64tab), ("internal/strconv.uint64pow10", laid_internal_strconv_uint64pow10)], narrowed := true }
def QualityExactUptoSaid : Prop := qualityExactUptoRow.holds Tryz.pinned (OpenSpec.upto qualityExactSpec)

/-- 'versinelaw08.QualityBounds', WHERE WHAT IT READS IS OF BULK AT MOST 1048576: true; the input reads as it did. -/
def qualityBoundsUptoRow : OpenClaim := { program := "ytaigknknfaeajaagreatdoor", sum := "c8167b6d4d795badb4731fe776cc1f2c496b8b4fd1565f83bad0a429a5e0b828", func := "versine/versinelaw08.QualityBounds", spec := "qualityBounds", inPlace := ["internal/abi.NoEscape", "internal/bytealg.MakeNoZero"], unfollowed := true, recurses := true, named := ["internal/strconv.uint64pow10", "math/bits.deBruijn32tab", "math/bits.deBruijn64tab"], apart := false, laid := [("math/bits.deBruijn32tab", laid_math_bits_deBruijn32tab), ("math/bits.deBruijn64tab", laid_math_bits_deBruijn64tab), ("internal/strconv.uint64pow10", laid_internal_strconv_uint64pow10)], narrowed := true }
def QualityBoundsUptoSaid : Prop := qualityBoundsUptoRow.holds Tryz.pinned (OpenSpec.upto qualityBoundsSpec)

/-- 'versinelaw08.QualityMoments', WHERE WHAT IT READS IS OF BULK AT MOST 1048576: true; the input reads as it did. -/
def qualityMomentsUptoRow : OpenClaim := { program := "ytaigknknfaeajaagreatdoor", sum := "c8167b6d4d795badb4731fe776cc1f2c496b8b4fd1565f83bad0a429a5e0b828", func := "versine/versinelaw08.QualityMoments", spec := "qualityMoments", inPlace := ["internal/abi.NoEscape", "internal/bytealg.MakeNoZero"], unfollowed := true, recurses := true, named := ["internal/strconv.uint64pow10", "math/bits.deBruijn32tab", "math/bits.deBruijn64tab"], apart := false, laid := [("math/bits.deBruijn32tab", laid_math_bits_deBruijn32tab), ("math/bits.deBruijn64tab", laid_math_bits_deBruijn64tab), ("internal/strconv.uint64pow10", laid_internal_strconv_uint64pow10)], narrowed := true }
def QualityMomentsUptoSaid : Prop := qualityMomentsUptoRow.holds Tryz.pinned (OpenSpec.upto qualityMomentsSpec)

/-- 'versinelaw08.QualityAdds', WHERE WHAT IT READS IS OF BULK AT MOST 1048576: true; the input reads as it did. -/
def qualityAddsUptoRow : OpenClaim := { program := "ytaigknknfaeajaagreatdoor", sum := "c8167b6d4d795badb4731fe776cc1f2c496b8b4fd1565f83bad0a429a5e0b828", func := "versine/versinelaw08.QualityAdds", spec := "qualityAdds", inPlace := ["internal/abi.NoEscape", "internal/bytealg.MakeNoZero"], unfollowed := true, recurses := true, named := ["internal/strconv.uint64pow10", "math/bits.deBruijn32tab", "math/bits.deBruijn64tab"], apart := false, laid := [("math/bits.deBruijn32tab", laid_math_bits_deBruijn32tab), ("math/bits.deBruijn64tab", laid_math_bits_deBruijn64tab), ("internal/strconv.uint64pow10", laid_internal_strconv_uint64pow10)], narrowed := true }
def QualityAddsUptoSaid : Prop := qualityAddsUptoRow.holds Tryz.pinned (OpenSpec.upto qualityAddsSpec)

/-- 'versinelaw08.QualitySpread', WHERE WHAT IT READS IS OF BULK AT MOST 1048576: true; the input reads as it did. -/
def qualitySpreadUptoRow : OpenClaim := { program := "ytaigknknfaeajaagreatdoor", sum := "c8167b6d4d795badb4731fe776cc1f2c496b8b4fd1565f83bad0a429a5e0b828", func := "versine/versinelaw08.QualitySpread", spec := "qualitySpread", inPlace := ["internal/abi.NoEscape", "internal/bytealg.MakeNoZero"], unfollowed := true, recurses := true, named := ["internal/strconv.uint64pow10", "math/bits.deBruijn32tab", "math/bits.deBruijn64tab"], apart := false, laid := [("math/bits.deBruijn32tab", laid_math_bits_deBruijn32tab), ("math/bits.deBruijn64tab", laid_math_bits_deBruijn64tab), ("internal/strconv.uint64pow10", laid_internal_strconv_uint64pow10)], narrowed := true }
def QualitySpreadUptoSaid : Prop := qualitySpreadUptoRow.holds Tryz.pinned (OpenSpec.upto qualitySpreadSpec)

/-- 'versinelaw08.QualityTexts', WHERE WHAT IT READS IS OF BULK AT MOST 1048576: true; the input reads as it did. -/
def qualityTextsUptoRow : OpenClaim := { program := "ytaigknknfaeajaagreatdoor", sum := "c8167b6d4d795badb4731fe776cc1f2c496b8b4fd1565f83bad0a429a5e0b828", func := "versine/versinelaw08.QualityTexts", spec := "qualityTexts", inPlace := ["internal/abi.NoEscape", "internal/bytealg.MakeNoZero", "internal/bytealg.IndexByteString", "internal/bytealg.CountString", "internal/bytealg.IndexString"], unfollowed := true, recurses := true, named := ["internal/strconv.uint64pow10", "math/bits.deBruijn32tab", "math/bits.deBruijn64tab", "unicode/utf8.first", "unicode/utf8.acceptRanges", "internal/bytealg.MaxLen"], apart := false, laid := [("math/bits.deBruijn32tab", laid_math_bits_deBruijn32tab), ("math/bits.deBruijn64tab", laid_math_bits_deBruijn64tab), ("internal/strconv.uint64pow10", laid_internal_strconv_uint64pow10), ("unicode/utf8.acceptRanges", laid_unicode_utf8_acceptRanges), ("unicode/utf8.first", laid_unicode_utf8_first)], narrowed := true }
def QualityTextsUptoSaid : Prop := qualityTextsUptoRow.holds Tryz.pinned (OpenSpec.upto qualityTextsSpec)

/-- 'versinelaw08.QualityBack', WHERE WHAT IT READS IS OF BULK AT MOST 1048576: true; the input reads as it did. -/
def qualityBackUptoRow : OpenClaim := { program := "ytaigknknfaeajaagreatdoor", sum := "c8167b6d4d795badb4731fe776cc1f2c496b8b4fd1565f83bad0a429a5e0b828", func := "versine/versinelaw08.QualityBack", spec := "qualityBack", inPlace := ["internal/abi.NoEscape", "internal/bytealg.MakeNoZero", "internal/bytealg.IndexByteString", "internal/bytealg.CountString", "internal/bytealg.IndexString"], unfollowed := true, recurses := true, named := ["internal/strconv.uint64pow10", "math/bits.deBruijn32tab", "math/bits.deBruijn64tab", "unicode/utf8.first", "unicode/utf8.acceptRanges", "internal/bytealg.MaxLen"], apart := false, laid := [("math/bits.deBruijn32tab", laid_math_bits_deBruijn32tab), ("math/bits.deBruijn64tab", laid_math_bits_deBruijn64tab), ("internal/strconv.uint64pow10", laid_internal_strconv_uint64pow10), ("unicode/utf8.acceptRanges", laid_unicode_utf8_acceptRanges), ("unicode/utf8.first", laid_unicode_utf8_first)], narrowed := true }
def QualityBackUptoSaid : Prop := qualityBackUptoRow.holds Tryz.pinned (OpenSpec.upto qualityBackSpec)

end Rows
end Go.Proofs.YtaigknknfaeajaaGreatDoor
