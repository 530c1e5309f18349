/-
  DERIVED. GIVEN WITH THE SEED: THE CARDS: each row of YtjpfdhhiofjpbaaGreatDoorRows.lean that lists a variable, with what it lists TIED to the program's text (the seventh form; the later family's looks); each row that meets fmt, with fmt's text TOLD by the authors' own Lean function (tested against real Go, not proved from fmt's source: count such statements apart). THE CARD IS WHAT COUNTS. Prove the row's statement (the work); the ties are given (YtjpfdhhiofjpbaaGreatDoorTie.lean); close each card by the builder's one call (the guide's Derived/Test/ToyasCard.lean, 'card_holds'). Laid BY PROGRAM, IN A SANDBOX (cutbox-door.mjs). By AI agents, Wed Nov 11 2026. No macro, syntax, notation, axiom, sorry.
-/
import Derived.Test.YtjpfdhhiofjpbaaGreatDoorRows
import GoSem.ClaimSeven
namespace Go.Proofs.YtjpfdhhiofjpbaaGreatDoor
namespace Rows

/-- THE TIED CARD OF 'steeninglaw09.PlacesNear'. -/
def placesNearCard : Claim7 := { stood := { row := placesNearRow, standIns := [], harness := (true, "69048db090a3b34bcb19ed5fa0d07e2e54e2c7327e62030076f747f695d83a78"), looks := false }, kinds := [], alts := [], laidByText := true, laidKinds := [.data, .data, .data], laidTests := true, laidLooks := .later }
def PlacesNearCardSaid : Prop := Claim7.holds Tryz.pinned (.plain (OpenSpec.ofChange placesNearSpec)) placesNearCard

/-- THE TIED CARD OF 'steeninglaw09.PlacesWho'. -/
def placesWhoCard : Claim7 := { stood := { row := placesWhoRow, standIns := [], harness := (true, "69048db090a3b34bcb19ed5fa0d07e2e54e2c7327e62030076f747f695d83a78"), looks := false }, kinds := [], alts := [], laidByText := true, laidKinds := [.data, .data, .data], laidTests := true, laidLooks := .later }
def PlacesWhoCardSaid : Prop := Claim7.holds Tryz.pinned (.plain (OpenSpec.ofChange placesWhoSpec)) placesWhoCard

/-- THE TIED CARD OF 'steeninglaw09.PlacesFree'. -/
def placesFreeCard : Claim7 := { stood := { row := placesFreeRow, standIns := [], harness := (true, "69048db090a3b34bcb19ed5fa0d07e2e54e2c7327e62030076f747f695d83a78"), looks := false }, kinds := [], alts := [], laidByText := true, laidKinds := [.data, .data, .data], laidTests := true, laidLooks := .later }
def PlacesFreeCardSaid : Prop := Claim7.holds Tryz.pinned (.plain (OpenSpec.ofChange placesFreeSpec)) placesFreeCard

/-- THE TIED CARD OF 'steeninglaw09.PlacesEach'. -/
def placesEachCard : Claim7 := { stood := { row := placesEachRow, standIns := [], harness := (true, "69048db090a3b34bcb19ed5fa0d07e2e54e2c7327e62030076f747f695d83a78"), looks := false }, kinds := [], alts := [], laidByText := true, laidKinds := [.data, .data, .data], laidTests := true, laidLooks := .later }
def PlacesEachCardSaid : Prop := Claim7.holds Tryz.pinned (.plain (OpenSpec.ofChange placesEachSpec)) placesEachCard

/-- THE TIED CARD OF 'steeninglaw09.PlacesLoosen'. -/
def placesLoosenCard : Claim7 := { stood := { row := placesLoosenRow, standIns := [], harness := (true, "69048db090a3b34bcb19ed5fa0d07e2e54e2c7327e62030076f747f695d83a78"), looks := false }, kinds := [], alts := [], laidByText := true, laidKinds := [.data, .data, .data], laidTests := true, laidLooks := .later }
def PlacesLoosenCardSaid : Prop := Claim7.holds Tryz.pinned (.plain (OpenSpec.ofChange placesLoosenSpec)) placesLoosenCard

/-- THE TIED CARD OF 'steeninglaw09.PlacesStreet'. -/
def placesStreetCard : Claim7 := { stood := { row := placesStreetRow, standIns := [], harness := (true, "69048db090a3b34bcb19ed5fa0d07e2e54e2c7327e62030076f747f695d83a78"), looks := false }, kinds := [], alts := [], laidByText := true, laidKinds := [.data, .data, .data], laidTests := true, laidLooks := .later }
def PlacesStreetCardSaid : Prop := Claim7.holds Tryz.pinned (.plain (OpenSpec.ofChange placesStreetSpec)) placesStreetCard

/-- THE TIED CARD OF 'steeninglaw09.PlacesWhole'. -/
def placesWholeCard : Claim7 := { stood := { row := placesWholeRow, standIns := [], harness := (true, "69048db090a3b34bcb19ed5fa0d07e2e54e2c7327e62030076f747f695d83a78"), looks := false }, kinds := [], alts := [], laidByText := true, laidKinds := [.data, .data, .data], laidTests := true, laidLooks := .later }
def PlacesWholeCardSaid : Prop := Claim7.holds Tryz.pinned (.plain (OpenSpec.ofChange placesWholeSpec)) placesWholeCard

/-- THE TIED CARD OF 'steeninglaw09.PlacesMore'. -/
def placesMoreCard : Claim7 := { stood := { row := placesMoreRow, standIns := [], harness := (true, "69048db090a3b34bcb19ed5fa0d07e2e54e2c7327e62030076f747f695d83a78"), looks := false }, kinds := [], alts := [], laidByText := true, laidKinds := [.data, .data, .data], laidTests := true, laidLooks := .later }
def PlacesMoreCardSaid : Prop := Claim7.holds Tryz.pinned (.plain (OpenSpec.ofChange placesMoreSpec)) placesMoreCard

/-- THE TIED CARD OF 'steeninglaw09.PlacesLooser'. -/
def placesLooserCard : Claim7 := { stood := { row := placesLooserRow, standIns := [], harness := (true, "69048db090a3b34bcb19ed5fa0d07e2e54e2c7327e62030076f747f695d83a78"), looks := false }, kinds := [], alts := [], laidByText := true, laidKinds := [.data, .data, .data], laidTests := true, laidLooks := .later }
def PlacesLooserCardSaid : Prop := Claim7.holds Tryz.pinned (.plain (OpenSpec.ofChange placesLooserSpec)) placesLooserCard

/-- THE TIED CARD OF 'steeninglaw09.PlacesBest'. -/
def placesBestCard : Claim7 := { stood := { row := placesBestRow, standIns := [], harness := (true, "69048db090a3b34bcb19ed5fa0d07e2e54e2c7327e62030076f747f695d83a78"), looks := false }, kinds := [], alts := [], laidByText := true, laidKinds := [.data, .data, .data], laidTests := true, laidLooks := .later }
def PlacesBestCardSaid : Prop := Claim7.holds Tryz.pinned (.plain (OpenSpec.ofChange placesBestSpec)) placesBestCard

/-- THE TIED CARD OF 'steeninglaw09.PlacesDecide'. -/
def placesDecideCard : Claim7 := { stood := { row := placesDecideRow, standIns := [], harness := (true, "69048db090a3b34bcb19ed5fa0d07e2e54e2c7327e62030076f747f695d83a78"), looks := false }, kinds := [], alts := [], laidByText := true, laidKinds := [.data, .data, .data], laidTests := true, laidLooks := .later }
def PlacesDecideCardSaid : Prop := Claim7.holds Tryz.pinned (.plain (OpenSpec.ofChange placesDecideSpec)) placesDecideCard

/-- THE TIED CARD OF 'steeninglaw09.PlacesJudge'. -/
def placesJudgeCard : Claim7 := { stood := { row := placesJudgeRow, standIns := [], harness := (true, "69048db090a3b34bcb19ed5fa0d07e2e54e2c7327e62030076f747f695d83a78"), looks := false }, kinds := [], alts := [], laidByText := true, laidKinds := [.data, .data, .data], laidTests := true, laidLooks := .later }
def PlacesJudgeCardSaid : Prop := Claim7.holds Tryz.pinned (.plain (OpenSpec.ofChange placesJudgeSpec)) placesJudgeCard

/-- THE TIED CARD OF 'steeninglaw09.PlacesSpot'. -/
def placesSpotCard : Claim7 := { stood := { row := placesSpotRow, standIns := [], harness := (true, "69048db090a3b34bcb19ed5fa0d07e2e54e2c7327e62030076f747f695d83a78"), looks := false }, kinds := [], alts := [], laidByText := true, laidKinds := [.data, .data, .data], laidTests := true, laidLooks := .later }
def PlacesSpotCardSaid : Prop := Claim7.holds Tryz.pinned (.plain (OpenSpec.ofChange placesSpotSpec)) placesSpotCard

/-- THE TIED CARD OF 'steeningtop.TopDug'. -/
def topDugCard : Claim7 := { stood := { row := topDugRow, standIns := [], harness := (true, "69048db090a3b34bcb19ed5fa0d07e2e54e2c7327e62030076f747f695d83a78"), looks := false }, kinds := [], alts := [], laidByText := true, laidKinds := [.data, .data, .data], laidTests := true, laidLooks := .later }
def TopDugCardSaid : Prop := Claim7.holds Tryz.pinned (.plain (OpenSpec.ofChange topDugSpec)) topDugCard

/-- THE TIED CARD OF 'steeningtop.TopToldApart'. -/
def topToldApartCard : Claim7 := { stood := { row := topToldApartRow, standIns := [], harness := (true, "69048db090a3b34bcb19ed5fa0d07e2e54e2c7327e62030076f747f695d83a78"), looks := false }, kinds := [], alts := [], laidByText := true, laidKinds := [.data, .data, .data], laidTests := true, laidLooks := .later }
def TopToldApartCardSaid : Prop := Claim7.holds Tryz.pinned (.plain (OpenSpec.ofChange topToldApartSpec)) topToldApartCard

/-- THE SECOND FORM's CARD OF 'steeninglaw09.PlacesNear'. -/
def placesNearUptoCard : Claim7 := { stood := { row := placesNearUptoRow, standIns := [], harness := (true, "69048db090a3b34bcb19ed5fa0d07e2e54e2c7327e62030076f747f695d83a78"), looks := false }, kinds := [], alts := [], laidByText := true, laidKinds := [.data, .data, .data], laidTests := true, laidLooks := .later }
def PlacesNearUptoCardSaid : Prop := Claim7.holds Tryz.pinned (.plain (OpenSpec.upto placesNearSpec)) placesNearUptoCard

/-- THE SECOND FORM's CARD OF 'steeninglaw09.PlacesWho'. -/
def placesWhoUptoCard : Claim7 := { stood := { row := placesWhoUptoRow, standIns := [], harness := (true, "69048db090a3b34bcb19ed5fa0d07e2e54e2c7327e62030076f747f695d83a78"), looks := false }, kinds := [], alts := [], laidByText := true, laidKinds := [.data, .data, .data], laidTests := true, laidLooks := .later }
def PlacesWhoUptoCardSaid : Prop := Claim7.holds Tryz.pinned (.plain (OpenSpec.upto placesWhoSpec)) placesWhoUptoCard

/-- THE SECOND FORM's CARD OF 'steeninglaw09.PlacesFree'. -/
def placesFreeUptoCard : Claim7 := { stood := { row := placesFreeUptoRow, standIns := [], harness := (true, "69048db090a3b34bcb19ed5fa0d07e2e54e2c7327e62030076f747f695d83a78"), looks := false }, kinds := [], alts := [], laidByText := true, laidKinds := [.data, .data, .data], laidTests := true, laidLooks := .later }
def PlacesFreeUptoCardSaid : Prop := Claim7.holds Tryz.pinned (.plain (OpenSpec.upto placesFreeSpec)) placesFreeUptoCard

/-- THE SECOND FORM's CARD OF 'steeninglaw09.PlacesEach'. -/
def placesEachUptoCard : Claim7 := { stood := { row := placesEachUptoRow, standIns := [], harness := (true, "69048db090a3b34bcb19ed5fa0d07e2e54e2c7327e62030076f747f695d83a78"), looks := false }, kinds := [], alts := [], laidByText := true, laidKinds := [.data, .data, .data], laidTests := true, laidLooks := .later }
def PlacesEachUptoCardSaid : Prop := Claim7.holds Tryz.pinned (.plain (OpenSpec.upto placesEachSpec)) placesEachUptoCard

/-- THE SECOND FORM's CARD OF 'steeninglaw09.PlacesLoosen'. -/
def placesLoosenUptoCard : Claim7 := { stood := { row := placesLoosenUptoRow, standIns := [], harness := (true, "69048db090a3b34bcb19ed5fa0d07e2e54e2c7327e62030076f747f695d83a78"), looks := false }, kinds := [], alts := [], laidByText := true, laidKinds := [.data, .data, .data], laidTests := true, laidLooks := .later }
def PlacesLoosenUptoCardSaid : Prop := Claim7.holds Tryz.pinned (.plain (OpenSpec.upto placesLoosenSpec)) placesLoosenUptoCard

/-- THE SECOND FORM's CARD OF 'steeninglaw09.PlacesStreet'. -/
def placesStreetUptoCard : Claim7 := { stood := { row := placesStreetUptoRow, standIns := [], harness := (true, "69048db090a3b34bcb19ed5fa0d07e2e54e2c7327e62030076f747f695d83a78"), looks := false }, kinds := [], alts := [], laidByText := true, laidKinds := [.data, .data, .data], laidTests := true, laidLooks := .later }
def PlacesStreetUptoCardSaid : Prop := Claim7.holds Tryz.pinned (.plain (OpenSpec.upto placesStreetSpec)) placesStreetUptoCard

/-- THE SECOND FORM's CARD OF 'steeninglaw09.PlacesWhole'. -/
def placesWholeUptoCard : Claim7 := { stood := { row := placesWholeUptoRow, standIns := [], harness := (true, "69048db090a3b34bcb19ed5fa0d07e2e54e2c7327e62030076f747f695d83a78"), looks := false }, kinds := [], alts := [], laidByText := true, laidKinds := [.data, .data, .data], laidTests := true, laidLooks := .later }
def PlacesWholeUptoCardSaid : Prop := Claim7.holds Tryz.pinned (.plain (OpenSpec.upto placesWholeSpec)) placesWholeUptoCard

/-- THE SECOND FORM's CARD OF 'steeninglaw09.PlacesMore'. -/
def placesMoreUptoCard : Claim7 := { stood := { row := placesMoreUptoRow, standIns := [], harness := (true, "69048db090a3b34bcb19ed5fa0d07e2e54e2c7327e62030076f747f695d83a78"), looks := false }, kinds := [], alts := [], laidByText := true, laidKinds := [.data, .data, .data], laidTests := true, laidLooks := .later }
def PlacesMoreUptoCardSaid : Prop := Claim7.holds Tryz.pinned (.plain (OpenSpec.upto placesMoreSpec)) placesMoreUptoCard

/-- THE SECOND FORM's CARD OF 'steeninglaw09.PlacesLooser'. -/
def placesLooserUptoCard : Claim7 := { stood := { row := placesLooserUptoRow, standIns := [], harness := (true, "69048db090a3b34bcb19ed5fa0d07e2e54e2c7327e62030076f747f695d83a78"), looks := false }, kinds := [], alts := [], laidByText := true, laidKinds := [.data, .data, .data], laidTests := true, laidLooks := .later }
def PlacesLooserUptoCardSaid : Prop := Claim7.holds Tryz.pinned (.plain (OpenSpec.upto placesLooserSpec)) placesLooserUptoCard

/-- THE SECOND FORM's CARD OF 'steeninglaw09.PlacesBest'. -/
def placesBestUptoCard : Claim7 := { stood := { row := placesBestUptoRow, standIns := [], harness := (true, "69048db090a3b34bcb19ed5fa0d07e2e54e2c7327e62030076f747f695d83a78"), looks := false }, kinds := [], alts := [], laidByText := true, laidKinds := [.data, .data, .data], laidTests := true, laidLooks := .later }
def PlacesBestUptoCardSaid : Prop := Claim7.holds Tryz.pinned (.plain (OpenSpec.upto placesBestSpec)) placesBestUptoCard

/-- THE SECOND FORM's CARD OF 'steeninglaw09.PlacesDecide'. -/
def placesDecideUptoCard : Claim7 := { stood := { row := placesDecideUptoRow, standIns := [], harness := (true, "69048db090a3b34bcb19ed5fa0d07e2e54e2c7327e62030076f747f695d83a78"), looks := false }, kinds := [], alts := [], laidByText := true, laidKinds := [.data, .data, .data], laidTests := true, laidLooks := .later }
def PlacesDecideUptoCardSaid : Prop := Claim7.holds Tryz.pinned (.plain (OpenSpec.upto placesDecideSpec)) placesDecideUptoCard

/-- THE SECOND FORM's CARD OF 'steeninglaw09.PlacesJudge'. -/
def placesJudgeUptoCard : Claim7 := { stood := { row := placesJudgeUptoRow, standIns := [], harness := (true, "69048db090a3b34bcb19ed5fa0d07e2e54e2c7327e62030076f747f695d83a78"), looks := false }, kinds := [], alts := [], laidByText := true, laidKinds := [.data, .data, .data], laidTests := true, laidLooks := .later }
def PlacesJudgeUptoCardSaid : Prop := Claim7.holds Tryz.pinned (.plain (OpenSpec.upto placesJudgeSpec)) placesJudgeUptoCard

/-- THE SECOND FORM's CARD OF 'steeninglaw09.PlacesSpot'. -/
def placesSpotUptoCard : Claim7 := { stood := { row := placesSpotUptoRow, standIns := [], harness := (true, "69048db090a3b34bcb19ed5fa0d07e2e54e2c7327e62030076f747f695d83a78"), looks := false }, kinds := [], alts := [], laidByText := true, laidKinds := [.data, .data, .data], laidTests := true, laidLooks := .later }
def PlacesSpotUptoCardSaid : Prop := Claim7.holds Tryz.pinned (.plain (OpenSpec.upto placesSpotSpec)) placesSpotUptoCard

/-- THE SECOND FORM's CARD OF 'steeningtop.TopDug'. -/
def topDugUptoCard : Claim7 := { stood := { row := topDugUptoRow, standIns := [], harness := (true, "69048db090a3b34bcb19ed5fa0d07e2e54e2c7327e62030076f747f695d83a78"), looks := false }, kinds := [], alts := [], laidByText := true, laidKinds := [.data, .data, .data], laidTests := true, laidLooks := .later }
def TopDugUptoCardSaid : Prop := Claim7.holds Tryz.pinned (.plain (OpenSpec.upto topDugSpec)) topDugUptoCard

/-- THE SECOND FORM's CARD OF 'steeningtop.TopToldApart'. -/
def topToldApartUptoCard : Claim7 := { stood := { row := topToldApartUptoRow, standIns := [], harness := (true, "69048db090a3b34bcb19ed5fa0d07e2e54e2c7327e62030076f747f695d83a78"), looks := false }, kinds := [], alts := [], laidByText := true, laidKinds := [.data, .data, .data], laidTests := true, laidLooks := .later }
def TopToldApartUptoCardSaid : Prop := Claim7.holds Tryz.pinned (.plain (OpenSpec.upto topToldApartSpec)) topToldApartUptoCard
end Rows
end Go.Proofs.YtjpfdhhiofjpbaaGreatDoor
