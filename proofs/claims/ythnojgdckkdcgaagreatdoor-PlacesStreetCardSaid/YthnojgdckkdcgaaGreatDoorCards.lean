/-
  DERIVED. GIVEN WITH THE SEED: THE CARDS: each row of YthnojgdckkdcgaaGreatDoorRows.lean that lists a variable, with what it lists TIED to the program's text (the seventh form; the later family's looks); each row that meets fmt, with fmt's text TOLD by the authors' own Lean function (tested against real Go, not proved from fmt's source: count such statements apart). THE CARD IS WHAT COUNTS. Prove the row's statement (the work); the ties are given (YthnojgdckkdcgaaGreatDoorTie.lean); close each card by the builder's one call (the guide's Derived/Test/ToyasCard.lean, 'card_holds'). Laid BY PROGRAM, IN A SANDBOX (cutbox-door.mjs). By AI agents, Wed Nov 11 2026. No macro, syntax, notation, axiom, sorry.
-/
import Derived.Test.YthnojgdckkdcgaaGreatDoorRows
import GoSem.ClaimSeven
namespace Go.Proofs.YthnojgdckkdcgaaGreatDoor
namespace Rows

/-- THE TIED CARD OF 'steeningtop.TopTwoBooks'. -/
def topTwoBooksCard : Claim7 := { stood := { row := topTwoBooksRow, standIns := [], harness := (true, "be4817d901a3592be5ffe04929981df5e9fc1cead1a3ca6f8071c08015b421ea"), looks := false }, kinds := [], alts := [], laidByText := true, laidKinds := [.data, .data], laidTests := true, laidLooks := .later }
def TopTwoBooksCardSaid : Prop := Claim7.holds Tryz.pinned (.plain (OpenSpec.ofChange topTwoBooksSpec)) topTwoBooksCard

/-- THE TIED CARD OF 'steeninglaw09.PlacesStreet'. -/
def placesStreetCard : Claim7 := { stood := { row := placesStreetRow, standIns := [], harness := (true, "be4817d901a3592be5ffe04929981df5e9fc1cead1a3ca6f8071c08015b421ea"), looks := false }, kinds := [], alts := [], laidByText := true, laidKinds := [.data, .data, .data], laidTests := true, laidLooks := .later }
def PlacesStreetCardSaid : Prop := Claim7.holds Tryz.pinned (.plain (OpenSpec.ofChange placesStreetSpec)) placesStreetCard

/-- THE TIED CARD OF 'steeningtop.TopDug'. -/
def topDugCard : Claim7 := { stood := { row := topDugRow, standIns := [], harness := (true, "be4817d901a3592be5ffe04929981df5e9fc1cead1a3ca6f8071c08015b421ea"), looks := false }, kinds := [], alts := [], laidByText := true, laidKinds := [.data, .data, .data], laidTests := true, laidLooks := .later }
def TopDugCardSaid : Prop := Claim7.holds Tryz.pinned (.plain (OpenSpec.ofChange topDugSpec)) topDugCard

/-- THE TIED CARD OF 'steeningtop.TopToldApart'. -/
def topToldApartCard : Claim7 := { stood := { row := topToldApartRow, standIns := [], harness := (true, "be4817d901a3592be5ffe04929981df5e9fc1cead1a3ca6f8071c08015b421ea"), looks := false }, kinds := [], alts := [], laidByText := true, laidKinds := [.data, .data, .data], laidTests := true, laidLooks := .later }
def TopToldApartCardSaid : Prop := Claim7.holds Tryz.pinned (.plain (OpenSpec.ofChange topToldApartSpec)) topToldApartCard

/-- THE SECOND FORM's CARD OF 'steeningtop.TopTwoBooks'. -/
def topTwoBooksUptoCard : Claim7 := { stood := { row := topTwoBooksUptoRow, standIns := [], harness := (true, "be4817d901a3592be5ffe04929981df5e9fc1cead1a3ca6f8071c08015b421ea"), looks := false }, kinds := [], alts := [], laidByText := true, laidKinds := [.data, .data], laidTests := true, laidLooks := .later }
def TopTwoBooksUptoCardSaid : Prop := Claim7.holds Tryz.pinned (.plain (OpenSpec.upto topTwoBooksSpec)) topTwoBooksUptoCard

/-- THE SECOND FORM's CARD OF 'steeninglaw09.PlacesStreet'. -/
def placesStreetUptoCard : Claim7 := { stood := { row := placesStreetUptoRow, standIns := [], harness := (true, "be4817d901a3592be5ffe04929981df5e9fc1cead1a3ca6f8071c08015b421ea"), looks := false }, kinds := [], alts := [], laidByText := true, laidKinds := [.data, .data, .data], laidTests := true, laidLooks := .later }
def PlacesStreetUptoCardSaid : Prop := Claim7.holds Tryz.pinned (.plain (OpenSpec.upto placesStreetSpec)) placesStreetUptoCard

/-- THE SECOND FORM's CARD OF 'steeningtop.TopDug'. -/
def topDugUptoCard : Claim7 := { stood := { row := topDugUptoRow, standIns := [], harness := (true, "be4817d901a3592be5ffe04929981df5e9fc1cead1a3ca6f8071c08015b421ea"), looks := false }, kinds := [], alts := [], laidByText := true, laidKinds := [.data, .data, .data], laidTests := true, laidLooks := .later }
def TopDugUptoCardSaid : Prop := Claim7.holds Tryz.pinned (.plain (OpenSpec.upto topDugSpec)) topDugUptoCard

/-- THE SECOND FORM's CARD OF 'steeningtop.TopToldApart'. -/
def topToldApartUptoCard : Claim7 := { stood := { row := topToldApartUptoRow, standIns := [], harness := (true, "be4817d901a3592be5ffe04929981df5e9fc1cead1a3ca6f8071c08015b421ea"), looks := false }, kinds := [], alts := [], laidByText := true, laidKinds := [.data, .data, .data], laidTests := true, laidLooks := .later }
def TopToldApartUptoCardSaid : Prop := Claim7.holds Tryz.pinned (.plain (OpenSpec.upto topToldApartSpec)) topToldApartUptoCard
end Rows
end Go.Proofs.YthnojgdckkdcgaaGreatDoor
