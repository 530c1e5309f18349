/-
  DERIVED. GIVEN WITH THE SEED: THE CARDS: each row of YtbbnpneabmldnaaDoorRows.lean that lists a variable, with what it lists TIED to the program's text (the seventh form; the later family's looks); each row that meets fmt, with fmt's text TOLD by the authors' own Lean function (tested against real Go, not proved from fmt's source: count such statements apart). THE CARD IS WHAT COUNTS. Prove the row's statement (the work); the ties are given (YtbbnpneabmldnaaDoorTie.lean); close each card by the builder's one call (the guide's Derived/Test/ToyasCard.lean, 'card_holds'). Laid BY PROGRAM, IN A SANDBOX (cutbox-door.mjs). By AI agents, Wed Nov 11 2026. No macro, syntax, notation, axiom, sorry.
-/
import Derived.Test.YtbbnpneabmldnaaDoorRows
import GoSem.ClaimSeven
namespace Go.Proofs.YtbbnpneabmldnaaDoor
namespace Rows

/-- THE TIED CARD OF 'steeninglaw02.ShaftsPrice'. -/
def shaftsPriceCard : Claim7 := { stood := { row := shaftsPriceRow, standIns := [], harness := (true, "a79b833ad5c74cbea164e392a64e78eeb51d8a43487005101e289f4b9e7d22dc"), looks := false }, kinds := [], alts := [], laidByText := true, laidKinds := [.data], laidTests := true, laidLooks := .later }
def ShaftsPriceCardSaid : Prop := Claim7.holds Tryd.pinned (.plain (OpenSpec.ofChange shaftsPriceSpec)) shaftsPriceCard

/-- THE TIED CARD OF 'steeninglaw02.ShaftsCheap'. -/
def shaftsCheapCard : Claim7 := { stood := { row := shaftsCheapRow, standIns := [], harness := (true, "a79b833ad5c74cbea164e392a64e78eeb51d8a43487005101e289f4b9e7d22dc"), looks := false }, kinds := [], alts := [], laidByText := true, laidKinds := [.data], laidTests := true, laidLooks := .later }
def ShaftsCheapCardSaid : Prop := Claim7.holds Tryd.pinned (.plain (OpenSpec.ofChange shaftsCheapSpec)) shaftsCheapCard

/-- THE TIED CARD OF 'steeninglaw02.ShaftsTimes'. -/
def shaftsTimesCard : Claim7 := { stood := { row := shaftsTimesRow, standIns := [], harness := (true, "a79b833ad5c74cbea164e392a64e78eeb51d8a43487005101e289f4b9e7d22dc"), looks := false }, kinds := [], alts := [], laidByText := true, laidKinds := [.data], laidTests := true, laidLooks := .later }
def ShaftsTimesCardSaid : Prop := Claim7.holds Tryd.pinned (.plain (OpenSpec.ofChange shaftsTimesSpec)) shaftsTimesCard

/-- THE TIED CARD OF 'steeninglaw02.ShaftsParts'. -/
def shaftsPartsCard : Claim7 := { stood := { row := shaftsPartsRow, standIns := [], harness := (true, "a79b833ad5c74cbea164e392a64e78eeb51d8a43487005101e289f4b9e7d22dc"), looks := false }, kinds := [], alts := [], laidByText := true, laidKinds := [.data], laidTests := true, laidLooks := .later }
def ShaftsPartsCardSaid : Prop := Claim7.holds Tryd.pinned (.plain (OpenSpec.ofChange shaftsPartsSpec)) shaftsPartsCard

/-- THE TIED CARD OF 'steeninglaw02.ShaftsFewest'. -/
def shaftsFewestCard : Claim7 := { stood := { row := shaftsFewestRow, standIns := [], harness := (true, "a79b833ad5c74cbea164e392a64e78eeb51d8a43487005101e289f4b9e7d22dc"), looks := false }, kinds := [], alts := [], laidByText := true, laidKinds := [.data], laidTests := true, laidLooks := .later }
def ShaftsFewestCardSaid : Prop := Claim7.holds Tryd.pinned (.plain (OpenSpec.ofChange shaftsFewestSpec)) shaftsFewestCard

/-- THE TIED CARD OF 'steeninglaw02.ShaftsHours'. -/
def shaftsHoursCard : Claim7 := { stood := { row := shaftsHoursRow, standIns := [], harness := (true, "a79b833ad5c74cbea164e392a64e78eeb51d8a43487005101e289f4b9e7d22dc"), looks := false }, kinds := [], alts := [], laidByText := true, laidKinds := [.data], laidTests := true, laidLooks := .later }
def ShaftsHoursCardSaid : Prop := Claim7.holds Tryd.pinned (.plain (OpenSpec.ofChange shaftsHoursSpec)) shaftsHoursCard

/-- THE TIED CARD OF 'steeninglaw02.ShaftsDeep'. -/
def shaftsDeepCard : Claim7 := { stood := { row := shaftsDeepRow, standIns := [], harness := (true, "a79b833ad5c74cbea164e392a64e78eeb51d8a43487005101e289f4b9e7d22dc"), looks := false }, kinds := [], alts := [], laidByText := true, laidKinds := [.data], laidTests := true, laidLooks := .later }
def ShaftsDeepCardSaid : Prop := Claim7.holds Tryd.pinned (.plain (OpenSpec.ofChange shaftsDeepSpec)) shaftsDeepCard

/-- THE TIED CARD OF 'steeninglaw02.ShaftsDown'. -/
def shaftsDownCard : Claim7 := { stood := { row := shaftsDownRow, standIns := [], harness := (true, "a79b833ad5c74cbea164e392a64e78eeb51d8a43487005101e289f4b9e7d22dc"), looks := false }, kinds := [], alts := [], laidByText := true, laidKinds := [.data], laidTests := true, laidLooks := .later }
def ShaftsDownCardSaid : Prop := Claim7.holds Tryd.pinned (.plain (OpenSpec.ofChange shaftsDownSpec)) shaftsDownCard

/-- THE TIED CARD OF 'steeninglaw02.ShaftsSafer'. -/
def shaftsSaferCard : Claim7 := { stood := { row := shaftsSaferRow, standIns := [], harness := (true, "a79b833ad5c74cbea164e392a64e78eeb51d8a43487005101e289f4b9e7d22dc"), looks := false }, kinds := [], alts := [], laidByText := true, laidKinds := [.data], laidTests := true, laidLooks := .later }
def ShaftsSaferCardSaid : Prop := Claim7.holds Tryd.pinned (.plain (OpenSpec.ofChange shaftsSaferSpec)) shaftsSaferCard

/-- THE TIED CARD OF 'steeninglaw02.ShaftsEach'. -/
def shaftsEachCard : Claim7 := { stood := { row := shaftsEachRow, standIns := [], harness := (true, "a79b833ad5c74cbea164e392a64e78eeb51d8a43487005101e289f4b9e7d22dc"), looks := false }, kinds := [], alts := [], laidByText := true, laidKinds := [.data], laidTests := true, laidLooks := .later }
def ShaftsEachCardSaid : Prop := Claim7.holds Tryd.pinned (.plain (OpenSpec.ofChange shaftsEachSpec)) shaftsEachCard

/-- THE TIED CARD OF 'steeninglaw02.ShaftsRing'. -/
def shaftsRingCard : Claim7 := { stood := { row := shaftsRingRow, standIns := [], harness := (true, "a79b833ad5c74cbea164e392a64e78eeb51d8a43487005101e289f4b9e7d22dc"), looks := false }, kinds := [], alts := [], laidByText := true, laidKinds := [.data], laidTests := true, laidLooks := .later }
def ShaftsRingCardSaid : Prop := Claim7.holds Tryd.pinned (.plain (OpenSpec.ofChange shaftsRingSpec)) shaftsRingCard

/-- THE TIED CARD OF 'steeninglaw02.ShaftsFalls'. -/
def shaftsFallsCard : Claim7 := { stood := { row := shaftsFallsRow, standIns := [], harness := (true, "a79b833ad5c74cbea164e392a64e78eeb51d8a43487005101e289f4b9e7d22dc"), looks := false }, kinds := [], alts := [], laidByText := true, laidKinds := [.data], laidTests := true, laidLooks := .later }
def ShaftsFallsCardSaid : Prop := Claim7.holds Tryd.pinned (.plain (OpenSpec.ofChange shaftsFallsSpec)) shaftsFallsCard

/-- THE SECOND FORM's CARD OF 'steeninglaw02.ShaftsPrice'. -/
def shaftsPriceUptoCard : Claim7 := { stood := { row := shaftsPriceUptoRow, standIns := [], harness := (true, "a79b833ad5c74cbea164e392a64e78eeb51d8a43487005101e289f4b9e7d22dc"), looks := false }, kinds := [], alts := [], laidByText := true, laidKinds := [.data], laidTests := true, laidLooks := .later }
def ShaftsPriceUptoCardSaid : Prop := Claim7.holds Tryd.pinned (.plain (OpenSpec.upto shaftsPriceSpec)) shaftsPriceUptoCard

/-- THE SECOND FORM's CARD OF 'steeninglaw02.ShaftsCheap'. -/
def shaftsCheapUptoCard : Claim7 := { stood := { row := shaftsCheapUptoRow, standIns := [], harness := (true, "a79b833ad5c74cbea164e392a64e78eeb51d8a43487005101e289f4b9e7d22dc"), looks := false }, kinds := [], alts := [], laidByText := true, laidKinds := [.data], laidTests := true, laidLooks := .later }
def ShaftsCheapUptoCardSaid : Prop := Claim7.holds Tryd.pinned (.plain (OpenSpec.upto shaftsCheapSpec)) shaftsCheapUptoCard

/-- THE SECOND FORM's CARD OF 'steeninglaw02.ShaftsTimes'. -/
def shaftsTimesUptoCard : Claim7 := { stood := { row := shaftsTimesUptoRow, standIns := [], harness := (true, "a79b833ad5c74cbea164e392a64e78eeb51d8a43487005101e289f4b9e7d22dc"), looks := false }, kinds := [], alts := [], laidByText := true, laidKinds := [.data], laidTests := true, laidLooks := .later }
def ShaftsTimesUptoCardSaid : Prop := Claim7.holds Tryd.pinned (.plain (OpenSpec.upto shaftsTimesSpec)) shaftsTimesUptoCard

/-- THE SECOND FORM's CARD OF 'steeninglaw02.ShaftsParts'. -/
def shaftsPartsUptoCard : Claim7 := { stood := { row := shaftsPartsUptoRow, standIns := [], harness := (true, "a79b833ad5c74cbea164e392a64e78eeb51d8a43487005101e289f4b9e7d22dc"), looks := false }, kinds := [], alts := [], laidByText := true, laidKinds := [.data], laidTests := true, laidLooks := .later }
def ShaftsPartsUptoCardSaid : Prop := Claim7.holds Tryd.pinned (.plain (OpenSpec.upto shaftsPartsSpec)) shaftsPartsUptoCard

/-- THE SECOND FORM's CARD OF 'steeninglaw02.ShaftsFewest'. -/
def shaftsFewestUptoCard : Claim7 := { stood := { row := shaftsFewestUptoRow, standIns := [], harness := (true, "a79b833ad5c74cbea164e392a64e78eeb51d8a43487005101e289f4b9e7d22dc"), looks := false }, kinds := [], alts := [], laidByText := true, laidKinds := [.data], laidTests := true, laidLooks := .later }
def ShaftsFewestUptoCardSaid : Prop := Claim7.holds Tryd.pinned (.plain (OpenSpec.upto shaftsFewestSpec)) shaftsFewestUptoCard

/-- THE SECOND FORM's CARD OF 'steeninglaw02.ShaftsHours'. -/
def shaftsHoursUptoCard : Claim7 := { stood := { row := shaftsHoursUptoRow, standIns := [], harness := (true, "a79b833ad5c74cbea164e392a64e78eeb51d8a43487005101e289f4b9e7d22dc"), looks := false }, kinds := [], alts := [], laidByText := true, laidKinds := [.data], laidTests := true, laidLooks := .later }
def ShaftsHoursUptoCardSaid : Prop := Claim7.holds Tryd.pinned (.plain (OpenSpec.upto shaftsHoursSpec)) shaftsHoursUptoCard

/-- THE SECOND FORM's CARD OF 'steeninglaw02.ShaftsDeep'. -/
def shaftsDeepUptoCard : Claim7 := { stood := { row := shaftsDeepUptoRow, standIns := [], harness := (true, "a79b833ad5c74cbea164e392a64e78eeb51d8a43487005101e289f4b9e7d22dc"), looks := false }, kinds := [], alts := [], laidByText := true, laidKinds := [.data], laidTests := true, laidLooks := .later }
def ShaftsDeepUptoCardSaid : Prop := Claim7.holds Tryd.pinned (.plain (OpenSpec.upto shaftsDeepSpec)) shaftsDeepUptoCard

/-- THE SECOND FORM's CARD OF 'steeninglaw02.ShaftsDown'. -/
def shaftsDownUptoCard : Claim7 := { stood := { row := shaftsDownUptoRow, standIns := [], harness := (true, "a79b833ad5c74cbea164e392a64e78eeb51d8a43487005101e289f4b9e7d22dc"), looks := false }, kinds := [], alts := [], laidByText := true, laidKinds := [.data], laidTests := true, laidLooks := .later }
def ShaftsDownUptoCardSaid : Prop := Claim7.holds Tryd.pinned (.plain (OpenSpec.upto shaftsDownSpec)) shaftsDownUptoCard

/-- THE SECOND FORM's CARD OF 'steeninglaw02.ShaftsSafer'. -/
def shaftsSaferUptoCard : Claim7 := { stood := { row := shaftsSaferUptoRow, standIns := [], harness := (true, "a79b833ad5c74cbea164e392a64e78eeb51d8a43487005101e289f4b9e7d22dc"), looks := false }, kinds := [], alts := [], laidByText := true, laidKinds := [.data], laidTests := true, laidLooks := .later }
def ShaftsSaferUptoCardSaid : Prop := Claim7.holds Tryd.pinned (.plain (OpenSpec.upto shaftsSaferSpec)) shaftsSaferUptoCard

/-- THE SECOND FORM's CARD OF 'steeninglaw02.ShaftsEach'. -/
def shaftsEachUptoCard : Claim7 := { stood := { row := shaftsEachUptoRow, standIns := [], harness := (true, "a79b833ad5c74cbea164e392a64e78eeb51d8a43487005101e289f4b9e7d22dc"), looks := false }, kinds := [], alts := [], laidByText := true, laidKinds := [.data], laidTests := true, laidLooks := .later }
def ShaftsEachUptoCardSaid : Prop := Claim7.holds Tryd.pinned (.plain (OpenSpec.upto shaftsEachSpec)) shaftsEachUptoCard

/-- THE SECOND FORM's CARD OF 'steeninglaw02.ShaftsRing'. -/
def shaftsRingUptoCard : Claim7 := { stood := { row := shaftsRingUptoRow, standIns := [], harness := (true, "a79b833ad5c74cbea164e392a64e78eeb51d8a43487005101e289f4b9e7d22dc"), looks := false }, kinds := [], alts := [], laidByText := true, laidKinds := [.data], laidTests := true, laidLooks := .later }
def ShaftsRingUptoCardSaid : Prop := Claim7.holds Tryd.pinned (.plain (OpenSpec.upto shaftsRingSpec)) shaftsRingUptoCard

/-- THE SECOND FORM's CARD OF 'steeninglaw02.ShaftsFalls'. -/
def shaftsFallsUptoCard : Claim7 := { stood := { row := shaftsFallsUptoRow, standIns := [], harness := (true, "a79b833ad5c74cbea164e392a64e78eeb51d8a43487005101e289f4b9e7d22dc"), looks := false }, kinds := [], alts := [], laidByText := true, laidKinds := [.data], laidTests := true, laidLooks := .later }
def ShaftsFallsUptoCardSaid : Prop := Claim7.holds Tryd.pinned (.plain (OpenSpec.upto shaftsFallsSpec)) shaftsFallsUptoCard
end Rows
end Go.Proofs.YtbbnpneabmldnaaDoor
