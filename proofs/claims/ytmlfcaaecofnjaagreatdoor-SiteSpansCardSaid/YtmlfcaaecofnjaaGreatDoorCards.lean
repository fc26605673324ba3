/-
  DERIVED. GIVEN WITH THE SEED: THE CARDS: each row of YtmlfcaaecofnjaaGreatDoorRows.lean that lists a variable, with what it lists TIED to the program's text (the seventh form; the later family's looks); each row that meets fmt, with fmt's text TOLD by the authors' own Lean function (tested against real Go, not proved from fmt's source: count such statements apart). THE CARD IS WHAT COUNTS. Prove the row's statement (the work); the ties are given (YtmlfcaaecofnjaaGreatDoorTie.lean); close each card by the builder's one call (the guide's Derived/Test/ToyasCard.lean, 'card_holds'). Laid BY PROGRAM, IN A SANDBOX (cutbox-door.mjs). By AI agents, Wed Nov 11 2026. No macro, syntax, notation, axiom, sorry.
-/
import Derived.Test.YtmlfcaaecofnjaaGreatDoorRows
import GoSem.ClaimSeven
namespace Go.Proofs.YtmlfcaaecofnjaaGreatDoor
namespace Rows

/-- THE TIED CARD OF 'nacellelaw01.SiteSpans'. -/
def siteSpansCard : Claim7 := { stood := { row := siteSpansRow, standIns := [], harness := (true, "34d7b204f2e3fc4ebf822479184bfeb310fe2a18cc541f5555db87938ed187ff"), looks := false }, kinds := [], alts := [], laidByText := true, laidKinds := [.data, .data, .data, .data], laidTests := true, laidLooks := .later }
def SiteSpansCardSaid : Prop := Claim7.holds Tryz.pinned (.plain (OpenSpec.ofChange siteSpansSpec)) siteSpansCard

/-- THE TIED CARD OF 'nacellelaw01.SiteSets'. -/
def siteSetsCard : Claim7 := { stood := { row := siteSetsRow, standIns := [], harness := (true, "34d7b204f2e3fc4ebf822479184bfeb310fe2a18cc541f5555db87938ed187ff"), looks := false }, kinds := [], alts := [], laidByText := true, laidKinds := [.data, .data, .data, .data], laidTests := true, laidLooks := .later }
def SiteSetsCardSaid : Prop := Claim7.holds Tryz.pinned (.plain (OpenSpec.ofChange siteSetsSpec)) siteSetsCard

/-- THE TIED CARD OF 'nacellelaw01.SiteLaws'. -/
def siteLawsCard : Claim7 := { stood := { row := siteLawsRow, standIns := [], harness := (true, "34d7b204f2e3fc4ebf822479184bfeb310fe2a18cc541f5555db87938ed187ff"), looks := false }, kinds := [], alts := [], laidByText := true, laidKinds := [.data, .data, .data, .data], laidTests := true, laidLooks := .later }
def SiteLawsCardSaid : Prop := Claim7.holds Tryz.pinned (.plain (OpenSpec.ofChange siteLawsSpec)) siteLawsCard

/-- THE TIED CARD OF 'nacellelaw01.SiteLayouts'. -/
def siteLayoutsCard : Claim7 := { stood := { row := siteLayoutsRow, standIns := [], harness := (true, "34d7b204f2e3fc4ebf822479184bfeb310fe2a18cc541f5555db87938ed187ff"), looks := false }, kinds := [], alts := [], laidByText := true, laidKinds := [.data, .data, .data, .data], laidTests := true, laidLooks := .later }
def SiteLayoutsCardSaid : Prop := Claim7.holds Tryz.pinned (.plain (OpenSpec.ofChange siteLayoutsSpec)) siteLayoutsCard

/-- THE TIED CARD OF 'nacellelaw01.SiteTurned'. -/
def siteTurnedCard : Claim7 := { stood := { row := siteTurnedRow, standIns := [], harness := (true, "34d7b204f2e3fc4ebf822479184bfeb310fe2a18cc541f5555db87938ed187ff"), looks := false }, kinds := [], alts := [], laidByText := true, laidKinds := [.data, .data, .data, .data], laidTests := true, laidLooks := .later }
def SiteTurnedCardSaid : Prop := Claim7.holds Tryz.pinned (.plain (OpenSpec.ofChange siteTurnedSpec)) siteTurnedCard

/-- THE TIED CARD OF 'nacellelaw01.SiteRoses'. -/
def siteRosesCard : Claim7 := { stood := { row := siteRosesRow, standIns := [], harness := (true, "34d7b204f2e3fc4ebf822479184bfeb310fe2a18cc541f5555db87938ed187ff"), looks := false }, kinds := [], alts := [], laidByText := true, laidKinds := [.data, .data, .data, .data], laidTests := true, laidLooks := .later }
def SiteRosesCardSaid : Prop := Claim7.holds Tryz.pinned (.plain (OpenSpec.ofChange siteRosesSpec)) siteRosesCard

/-- THE TIED CARD OF 'nacellelaw01.SiteSeries'. -/
def siteSeriesCard : Claim7 := { stood := { row := siteSeriesRow, standIns := [], harness := (true, "34d7b204f2e3fc4ebf822479184bfeb310fe2a18cc541f5555db87938ed187ff"), looks := false }, kinds := [], alts := [], laidByText := true, laidKinds := [.data, .data, .data, .data], laidTests := true, laidLooks := .later }
def SiteSeriesCardSaid : Prop := Claim7.holds Tryz.pinned (.plain (OpenSpec.ofChange siteSeriesSpec)) siteSeriesCard

/-- THE TIED CARD OF 'nacellelaw01.SiteLevels'. -/
def siteLevelsCard : Claim7 := { stood := { row := siteLevelsRow, standIns := [], harness := (true, "34d7b204f2e3fc4ebf822479184bfeb310fe2a18cc541f5555db87938ed187ff"), looks := false }, kinds := [], alts := [], laidByText := true, laidKinds := [.data, .data, .data, .data], laidTests := true, laidLooks := .later }
def SiteLevelsCardSaid : Prop := Claim7.holds Tryz.pinned (.plain (OpenSpec.ofChange siteLevelsSpec)) siteLevelsCard

/-- THE SECOND FORM's CARD OF 'nacellelaw01.SiteSpans'. -/
def siteSpansUptoCard : Claim7 := { stood := { row := siteSpansUptoRow, standIns := [], harness := (true, "34d7b204f2e3fc4ebf822479184bfeb310fe2a18cc541f5555db87938ed187ff"), looks := false }, kinds := [], alts := [], laidByText := true, laidKinds := [.data, .data, .data, .data], laidTests := true, laidLooks := .later }
def SiteSpansUptoCardSaid : Prop := Claim7.holds Tryz.pinned (.plain (OpenSpec.upto siteSpansSpec)) siteSpansUptoCard

/-- THE SECOND FORM's CARD OF 'nacellelaw01.SiteSets'. -/
def siteSetsUptoCard : Claim7 := { stood := { row := siteSetsUptoRow, standIns := [], harness := (true, "34d7b204f2e3fc4ebf822479184bfeb310fe2a18cc541f5555db87938ed187ff"), looks := false }, kinds := [], alts := [], laidByText := true, laidKinds := [.data, .data, .data, .data], laidTests := true, laidLooks := .later }
def SiteSetsUptoCardSaid : Prop := Claim7.holds Tryz.pinned (.plain (OpenSpec.upto siteSetsSpec)) siteSetsUptoCard

/-- THE SECOND FORM's CARD OF 'nacellelaw01.SiteLaws'. -/
def siteLawsUptoCard : Claim7 := { stood := { row := siteLawsUptoRow, standIns := [], harness := (true, "34d7b204f2e3fc4ebf822479184bfeb310fe2a18cc541f5555db87938ed187ff"), looks := false }, kinds := [], alts := [], laidByText := true, laidKinds := [.data, .data, .data, .data], laidTests := true, laidLooks := .later }
def SiteLawsUptoCardSaid : Prop := Claim7.holds Tryz.pinned (.plain (OpenSpec.upto siteLawsSpec)) siteLawsUptoCard

/-- THE SECOND FORM's CARD OF 'nacellelaw01.SiteLayouts'. -/
def siteLayoutsUptoCard : Claim7 := { stood := { row := siteLayoutsUptoRow, standIns := [], harness := (true, "34d7b204f2e3fc4ebf822479184bfeb310fe2a18cc541f5555db87938ed187ff"), looks := false }, kinds := [], alts := [], laidByText := true, laidKinds := [.data, .data, .data, .data], laidTests := true, laidLooks := .later }
def SiteLayoutsUptoCardSaid : Prop := Claim7.holds Tryz.pinned (.plain (OpenSpec.upto siteLayoutsSpec)) siteLayoutsUptoCard

/-- THE SECOND FORM's CARD OF 'nacellelaw01.SiteTurned'. -/
def siteTurnedUptoCard : Claim7 := { stood := { row := siteTurnedUptoRow, standIns := [], harness := (true, "34d7b204f2e3fc4ebf822479184bfeb310fe2a18cc541f5555db87938ed187ff"), looks := false }, kinds := [], alts := [], laidByText := true, laidKinds := [.data, .data, .data, .data], laidTests := true, laidLooks := .later }
def SiteTurnedUptoCardSaid : Prop := Claim7.holds Tryz.pinned (.plain (OpenSpec.upto siteTurnedSpec)) siteTurnedUptoCard

/-- THE SECOND FORM's CARD OF 'nacellelaw01.SiteRoses'. -/
def siteRosesUptoCard : Claim7 := { stood := { row := siteRosesUptoRow, standIns := [], harness := (true, "34d7b204f2e3fc4ebf822479184bfeb310fe2a18cc541f5555db87938ed187ff"), looks := false }, kinds := [], alts := [], laidByText := true, laidKinds := [.data, .data, .data, .data], laidTests := true, laidLooks := .later }
def SiteRosesUptoCardSaid : Prop := Claim7.holds Tryz.pinned (.plain (OpenSpec.upto siteRosesSpec)) siteRosesUptoCard

/-- THE SECOND FORM's CARD OF 'nacellelaw01.SiteSeries'. -/
def siteSeriesUptoCard : Claim7 := { stood := { row := siteSeriesUptoRow, standIns := [], harness := (true, "34d7b204f2e3fc4ebf822479184bfeb310fe2a18cc541f5555db87938ed187ff"), looks := false }, kinds := [], alts := [], laidByText := true, laidKinds := [.data, .data, .data, .data], laidTests := true, laidLooks := .later }
def SiteSeriesUptoCardSaid : Prop := Claim7.holds Tryz.pinned (.plain (OpenSpec.upto siteSeriesSpec)) siteSeriesUptoCard

/-- THE SECOND FORM's CARD OF 'nacellelaw01.SiteLevels'. -/
def siteLevelsUptoCard : Claim7 := { stood := { row := siteLevelsUptoRow, standIns := [], harness := (true, "34d7b204f2e3fc4ebf822479184bfeb310fe2a18cc541f5555db87938ed187ff"), looks := false }, kinds := [], alts := [], laidByText := true, laidKinds := [.data, .data, .data, .data], laidTests := true, laidLooks := .later }
def SiteLevelsUptoCardSaid : Prop := Claim7.holds Tryz.pinned (.plain (OpenSpec.upto siteLevelsSpec)) siteLevelsUptoCard
end Rows
end Go.Proofs.YtmlfcaaecofnjaaGreatDoor
