/-
  DERIVED. GIVEN WITH THE SEED: THE CARDS: each row of YtaigknknfaeajaaGreatDoorRows.lean that lists a variable, with what it lists TIED to the program's text (the seventh form; the later family's looks); each row that meets fmt, with fmt's text TOLD by the authors' own Lean function (tested against real Go, not proved from fmt's source: count such statements apart). THE CARD IS WHAT COUNTS. Prove the row's statement (the work); the ties are given (YtaigknknfaeajaaGreatDoorTie.lean); close each card by the builder's one call (the guide's Derived/Test/ToyasCard.lean, 'card_holds'). Laid BY PROGRAM, IN A SANDBOX (cutbox-door.mjs). By AI agents, Wed Nov 11 2026. No macro, syntax, notation, axiom, sorry.
-/
import Derived.Test.YtaigknknfaeajaaGreatDoorRows
import GoSem.ClaimSeven
namespace Go.Proofs.YtaigknknfaeajaaGreatDoor
namespace Rows

/-- THE TIED CARD OF 'versinelaw08.QualityParts'. -/
def qualityPartsCard : Claim7 := { stood := { row := qualityPartsRow, standIns := [], harness := (true, "476780b8474583dd50713e090344d8796cd804ebab54954e5d6f57dab0c3dc78"), looks := false }, kinds := [], alts := [], laidByText := true, laidKinds := [.data, .data, .data], laidTests := true, laidLooks := .later }
def QualityPartsCardSaid : Prop := Claim7.holds Tryz.pinned (.plain (OpenSpec.ofChange qualityPartsSpec)) qualityPartsCard

/-- THE TIED CARD OF 'versinelaw08.QualityWindows'. -/
def qualityWindowsCard : Claim7 := { stood := { row := qualityWindowsRow, standIns := [], harness := (true, "476780b8474583dd50713e090344d8796cd804ebab54954e5d6f57dab0c3dc78"), looks := false }, kinds := [], alts := [], laidByText := true, laidKinds := [.data, .data, .data], laidTests := true, laidLooks := .later }
def QualityWindowsCardSaid : Prop := Claim7.holds Tryz.pinned (.plain (OpenSpec.ofChange qualityWindowsSpec)) qualityWindowsCard

/-- THE TIED CARD OF 'versinelaw08.QualitySections'. -/
def qualitySectionsCard : Claim7 := { stood := { row := qualitySectionsRow, standIns := [], harness := (true, "476780b8474583dd50713e090344d8796cd804ebab54954e5d6f57dab0c3dc78"), looks := false }, kinds := [], alts := [], laidByText := true, laidKinds := [.data, .data, .data], laidTests := true, laidLooks := .later }
def QualitySectionsCardSaid : Prop := Claim7.holds Tryz.pinned (.plain (OpenSpec.ofChange qualitySectionsSpec)) qualitySectionsCard

/-- THE TIED CARD OF 'versinelaw08.QualityLines'. -/
def qualityLinesCard : Claim7 := { stood := { row := qualityLinesRow, standIns := [], harness := (true, "476780b8474583dd50713e090344d8796cd804ebab54954e5d6f57dab0c3dc78"), looks := false }, kinds := [], alts := [], laidByText := true, laidKinds := [.data, .data, .data], laidTests := true, laidLooks := .later }
def QualityLinesCardSaid : Prop := Claim7.holds Tryz.pinned (.plain (OpenSpec.ofChange qualityLinesSpec)) qualityLinesCard

/-- THE TIED CARD OF 'versinelaw08.QualityLeft'. -/
def qualityLeftCard : Claim7 := { stood := { row := qualityLeftRow, standIns := [], harness := (true, "476780b8474583dd50713e090344d8796cd804ebab54954e5d6f57dab0c3dc78"), looks := false }, kinds := [], alts := [], laidByText := true, laidKinds := [.data, .data, .data], laidTests := true, laidLooks := .later }
def QualityLeftCardSaid : Prop := Claim7.holds Tryz.pinned (.plain (OpenSpec.ofChange qualityLeftSpec)) qualityLeftCard

/-- THE TIED CARD OF 'versinelaw08.QualityFits'. -/
def qualityFitsCard : Claim7 := { stood := { row := qualityFitsRow, standIns := [], harness := (true, "476780b8474583dd50713e090344d8796cd804ebab54954e5d6f57dab0c3dc78"), looks := false }, kinds := [], alts := [], laidByText := true, laidKinds := [.data, .data, .data], laidTests := true, laidLooks := .later }
def QualityFitsCardSaid : Prop := Claim7.holds Tryz.pinned (.plain (OpenSpec.ofChange qualityFitsSpec)) qualityFitsCard

/-- THE TIED CARD OF 'versinelaw08.QualityRanges'. -/
def qualityRangesCard : Claim7 := { stood := { row := qualityRangesRow, standIns := [], harness := (true, "476780b8474583dd50713e090344d8796cd804ebab54954e5d6f57dab0c3dc78"), looks := false }, kinds := [], alts := [], laidByText := true, laidKinds := [.data, .data, .data], laidTests := true, laidLooks := .later }
def QualityRangesCardSaid : Prop := Claim7.holds Tryz.pinned (.plain (OpenSpec.ofChange qualityRangesSpec)) qualityRangesCard

/-- THE TIED CARD OF 'versinelaw08.QualityRanks'. -/
def qualityRanksCard : Claim7 := { stood := { row := qualityRanksRow, standIns := [], harness := (true, "476780b8474583dd50713e090344d8796cd804ebab54954e5d6f57dab0c3dc78"), looks := false }, kinds := [], alts := [], laidByText := true, laidKinds := [.data, .data, .data], laidTests := true, laidLooks := .later }
def QualityRanksCardSaid : Prop := Claim7.holds Tryz.pinned (.plain (OpenSpec.ofChange qualityRanksSpec)) qualityRanksCard

/-- THE TIED CARD OF 'versinelaw08.QualityExact'. -/
def qualityExactCard : Claim7 := { stood := { row := qualityExactRow, standIns := [], harness := (true, "476780b8474583dd50713e090344d8796cd804ebab54954e5d6f57dab0c3dc78"), looks := false }, kinds := [], alts := [], laidByText := true, laidKinds := [.data, .data, .data], laidTests := true, laidLooks := .later }
def QualityExactCardSaid : Prop := Claim7.holds Tryz.pinned (.plain (OpenSpec.ofChange qualityExactSpec)) qualityExactCard

/-- THE TIED CARD OF 'versinelaw08.QualityBounds'. -/
def qualityBoundsCard : Claim7 := { stood := { row := qualityBoundsRow, standIns := [], harness := (true, "476780b8474583dd50713e090344d8796cd804ebab54954e5d6f57dab0c3dc78"), looks := false }, kinds := [], alts := [], laidByText := true, laidKinds := [.data, .data, .data], laidTests := true, laidLooks := .later }
def QualityBoundsCardSaid : Prop := Claim7.holds Tryz.pinned (.plain (OpenSpec.ofChange qualityBoundsSpec)) qualityBoundsCard

/-- THE TIED CARD OF 'versinelaw08.QualityMoments'. -/
def qualityMomentsCard : Claim7 := { stood := { row := qualityMomentsRow, standIns := [], harness := (true, "476780b8474583dd50713e090344d8796cd804ebab54954e5d6f57dab0c3dc78"), looks := false }, kinds := [], alts := [], laidByText := true, laidKinds := [.data, .data, .data], laidTests := true, laidLooks := .later }
def QualityMomentsCardSaid : Prop := Claim7.holds Tryz.pinned (.plain (OpenSpec.ofChange qualityMomentsSpec)) qualityMomentsCard

/-- THE TIED CARD OF 'versinelaw08.QualityAdds'. -/
def qualityAddsCard : Claim7 := { stood := { row := qualityAddsRow, standIns := [], harness := (true, "476780b8474583dd50713e090344d8796cd804ebab54954e5d6f57dab0c3dc78"), looks := false }, kinds := [], alts := [], laidByText := true, laidKinds := [.data, .data, .data], laidTests := true, laidLooks := .later }
def QualityAddsCardSaid : Prop := Claim7.holds Tryz.pinned (.plain (OpenSpec.ofChange qualityAddsSpec)) qualityAddsCard

/-- THE TIED CARD OF 'versinelaw08.QualitySpread'. -/
def qualitySpreadCard : Claim7 := { stood := { row := qualitySpreadRow, standIns := [], harness := (true, "476780b8474583dd50713e090344d8796cd804ebab54954e5d6f57dab0c3dc78"), looks := false }, kinds := [], alts := [], laidByText := true, laidKinds := [.data, .data, .data], laidTests := true, laidLooks := .later }
def QualitySpreadCardSaid : Prop := Claim7.holds Tryz.pinned (.plain (OpenSpec.ofChange qualitySpreadSpec)) qualitySpreadCard

/-- THE TIED CARD OF 'versinelaw08.QualityTexts'. -/
def qualityTextsCard : Claim7 := { stood := { row := qualityTextsRow, standIns := [], harness := (true, "476780b8474583dd50713e090344d8796cd804ebab54954e5d6f57dab0c3dc78"), looks := false }, kinds := [], alts := [], laidByText := true, laidKinds := [.data, .data, .data, .data, .pinned], laidTests := true, laidLooks := .later }
def QualityTextsCardSaid : Prop := Claim7.holds Tryz.pinned (.plain (OpenSpec.ofChange qualityTextsSpec)) qualityTextsCard

/-- THE TIED CARD OF 'versinelaw08.QualityBack'. -/
def qualityBackCard : Claim7 := { stood := { row := qualityBackRow, standIns := [], harness := (true, "476780b8474583dd50713e090344d8796cd804ebab54954e5d6f57dab0c3dc78"), looks := false }, kinds := [], alts := [], laidByText := true, laidKinds := [.data, .data, .data, .data, .pinned], laidTests := true, laidLooks := .later }
def QualityBackCardSaid : Prop := Claim7.holds Tryz.pinned (.plain (OpenSpec.ofChange qualityBackSpec)) qualityBackCard

/-- THE SECOND FORM's CARD OF 'versinelaw08.QualityParts'. -/
def qualityPartsUptoCard : Claim7 := { stood := { row := qualityPartsUptoRow, standIns := [], harness := (true, "476780b8474583dd50713e090344d8796cd804ebab54954e5d6f57dab0c3dc78"), looks := false }, kinds := [], alts := [], laidByText := true, laidKinds := [.data, .data, .data], laidTests := true, laidLooks := .later }
def QualityPartsUptoCardSaid : Prop := Claim7.holds Tryz.pinned (.plain (OpenSpec.upto qualityPartsSpec)) qualityPartsUptoCard

/-- THE SECOND FORM's CARD OF 'versinelaw08.QualityWindows'. -/
def qualityWindowsUptoCard : Claim7 := { stood := { row := qualityWindowsUptoRow, standIns := [], harness := (true, "476780b8474583dd50713e090344d8796cd804ebab54954e5d6f57dab0c3dc78"), looks := false }, kinds := [], alts := [], laidByText := true, laidKinds := [.data, .data, .data], laidTests := true, laidLooks := .later }
def QualityWindowsUptoCardSaid : Prop := Claim7.holds Tryz.pinned (.plain (OpenSpec.upto qualityWindowsSpec)) qualityWindowsUptoCard

/-- THE SECOND FORM's CARD OF 'versinelaw08.QualitySections'. -/
def qualitySectionsUptoCard : Claim7 := { stood := { row := qualitySectionsUptoRow, standIns := [], harness := (true, "476780b8474583dd50713e090344d8796cd804ebab54954e5d6f57dab0c3dc78"), looks := false }, kinds := [], alts := [], laidByText := true, laidKinds := [.data, .data, .data], laidTests := true, laidLooks := .later }
def QualitySectionsUptoCardSaid : Prop := Claim7.holds Tryz.pinned (.plain (OpenSpec.upto qualitySectionsSpec)) qualitySectionsUptoCard

/-- THE SECOND FORM's CARD OF 'versinelaw08.QualityLines'. -/
def qualityLinesUptoCard : Claim7 := { stood := { row := qualityLinesUptoRow, standIns := [], harness := (true, "476780b8474583dd50713e090344d8796cd804ebab54954e5d6f57dab0c3dc78"), looks := false }, kinds := [], alts := [], laidByText := true, laidKinds := [.data, .data, .data], laidTests := true, laidLooks := .later }
def QualityLinesUptoCardSaid : Prop := Claim7.holds Tryz.pinned (.plain (OpenSpec.upto qualityLinesSpec)) qualityLinesUptoCard

/-- THE SECOND FORM's CARD OF 'versinelaw08.QualityLeft'. -/
def qualityLeftUptoCard : Claim7 := { stood := { row := qualityLeftUptoRow, standIns := [], harness := (true, "476780b8474583dd50713e090344d8796cd804ebab54954e5d6f57dab0c3dc78"), looks := false }, kinds := [], alts := [], laidByText := true, laidKinds := [.data, .data, .data], laidTests := true, laidLooks := .later }
def QualityLeftUptoCardSaid : Prop := Claim7.holds Tryz.pinned (.plain (OpenSpec.upto qualityLeftSpec)) qualityLeftUptoCard

/-- THE SECOND FORM's CARD OF 'versinelaw08.QualityFits'. -/
def qualityFitsUptoCard : Claim7 := { stood := { row := qualityFitsUptoRow, standIns := [], harness := (true, "476780b8474583dd50713e090344d8796cd804ebab54954e5d6f57dab0c3dc78"), looks := false }, kinds := [], alts := [], laidByText := true, laidKinds := [.data, .data, .data], laidTests := true, laidLooks := .later }
def QualityFitsUptoCardSaid : Prop := Claim7.holds Tryz.pinned (.plain (OpenSpec.upto qualityFitsSpec)) qualityFitsUptoCard

/-- THE SECOND FORM's CARD OF 'versinelaw08.QualityRanges'. -/
def qualityRangesUptoCard : Claim7 := { stood := { row := qualityRangesUptoRow, standIns := [], harness := (true, "476780b8474583dd50713e090344d8796cd804ebab54954e5d6f57dab0c3dc78"), looks := false }, kinds := [], alts := [], laidByText := true, laidKinds := [.data, .data, .data], laidTests := true, laidLooks := .later }
def QualityRangesUptoCardSaid : Prop := Claim7.holds Tryz.pinned (.plain (OpenSpec.upto qualityRangesSpec)) qualityRangesUptoCard

/-- THE SECOND FORM's CARD OF 'versinelaw08.QualityRanks'. -/
def qualityRanksUptoCard : Claim7 := { stood := { row := qualityRanksUptoRow, standIns := [], harness := (true, "476780b8474583dd50713e090344d8796cd804ebab54954e5d6f57dab0c3dc78"), looks := false }, kinds := [], alts := [], laidByText := true, laidKinds := [.data, .data, .data], laidTests := true, laidLooks := .later }
def QualityRanksUptoCardSaid : Prop := Claim7.holds Tryz.pinned (.plain (OpenSpec.upto qualityRanksSpec)) qualityRanksUptoCard

/-- THE SECOND FORM's CARD OF 'versinelaw08.QualityExact'. -/
def qualityExactUptoCard : Claim7 := { stood := { row := qualityExactUptoRow, standIns := [], harness := (true, "476780b8474583dd50713e090344d8796cd804ebab54954e5d6f57dab0c3dc78"), looks := false }, kinds := [], alts := [], laidByText := true, laidKinds := [.data, .data, .data], laidTests := true, laidLooks := .later }
def QualityExactUptoCardSaid : Prop := Claim7.holds Tryz.pinned (.plain (OpenSpec.upto qualityExactSpec)) qualityExactUptoCard

/-- THE SECOND FORM's CARD OF 'versinelaw08.QualityBounds'. -/
def qualityBoundsUptoCard : Claim7 := { stood := { row := qualityBoundsUptoRow, standIns := [], harness := (true, "476780b8474583dd50713e090344d8796cd804ebab54954e5d6f57dab0c3dc78"), looks := false }, kinds := [], alts := [], laidByText := true, laidKinds := [.data, .data, .data], laidTests := true, laidLooks := .later }
def QualityBoundsUptoCardSaid : Prop := Claim7.holds Tryz.pinned (.plain (OpenSpec.upto qualityBoundsSpec)) qualityBoundsUptoCard

/-- THE SECOND FORM's CARD OF 'versinelaw08.QualityMoments'. -/
def qualityMomentsUptoCard : Claim7 := { stood := { row := qualityMomentsUptoRow, standIns := [], harness := (true, "476780b8474583dd50713e090344d8796cd804ebab54954e5d6f57dab0c3dc78"), looks := false }, kinds := [], alts := [], laidByText := true, laidKinds := [.data, .data, .data], laidTests := true, laidLooks := .later }
def QualityMomentsUptoCardSaid : Prop := Claim7.holds Tryz.pinned (.plain (OpenSpec.upto qualityMomentsSpec)) qualityMomentsUptoCard

/-- THE SECOND FORM's CARD OF 'versinelaw08.QualityAdds'. -/
def qualityAddsUptoCard : Claim7 := { stood := { row := qualityAddsUptoRow, standIns := [], harness := (true, "476780b8474583dd50713e090344d8796cd804ebab54954e5d6f57dab0c3dc78"), looks := false }, kinds := [], alts := [], laidByText := true, laidKinds := [.data, .data, .data], laidTests := true, laidLooks := .later }
def QualityAddsUptoCardSaid : Prop := Claim7.holds Tryz.pinned (.plain (OpenSpec.upto qualityAddsSpec)) qualityAddsUptoCard

/-- THE SECOND FORM's CARD OF 'versinelaw08.QualitySpread'. -/
def qualitySpreadUptoCard : Claim7 := { stood := { row := qualitySpreadUptoRow, standIns := [], harness := (true, "476780b8474583dd50713e090344d8796cd804ebab54954e5d6f57dab0c3dc78"), looks := false }, kinds := [], alts := [], laidByText := true, laidKinds := [.data, .data, .data], laidTests := true, laidLooks := .later }
def QualitySpreadUptoCardSaid : Prop := Claim7.holds Tryz.pinned (.plain (OpenSpec.upto qualitySpreadSpec)) qualitySpreadUptoCard

/-- THE SECOND FORM's CARD OF 'versinelaw08.QualityTexts'. -/
def qualityTextsUptoCard : Claim7 := { stood := { row := qualityTextsUptoRow, standIns := [], harness := (true, "476780b8474583dd50713e090344d8796cd804ebab54954e5d6f57dab0c3dc78"), looks := false }, kinds := [], alts := [], laidByText := true, laidKinds := [.data, .data, .data, .data, .pinned], laidTests := true, laidLooks := .later }
def QualityTextsUptoCardSaid : Prop := Claim7.holds Tryz.pinned (.plain (OpenSpec.upto qualityTextsSpec)) qualityTextsUptoCard

/-- THE SECOND FORM's CARD OF 'versinelaw08.QualityBack'. -/
def qualityBackUptoCard : Claim7 := { stood := { row := qualityBackUptoRow, standIns := [], harness := (true, "476780b8474583dd50713e090344d8796cd804ebab54954e5d6f57dab0c3dc78"), looks := false }, kinds := [], alts := [], laidByText := true, laidKinds := [.data, .data, .data, .data, .pinned], laidTests := true, laidLooks := .later }
def QualityBackUptoCardSaid : Prop := Claim7.holds Tryz.pinned (.plain (OpenSpec.upto qualityBackSpec)) qualityBackUptoCard
end Rows
end Go.Proofs.YtaigknknfaeajaaGreatDoor
