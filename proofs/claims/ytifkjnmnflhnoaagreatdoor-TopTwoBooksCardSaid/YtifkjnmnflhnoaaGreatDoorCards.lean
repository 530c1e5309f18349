/-
  DERIVED. GIVEN WITH THE SEED: THE CARDS: each row of YtifkjnmnflhnoaaGreatDoorRows.lean that lists a variable, with what it lists TIED to the program's text (the seventh form; the later family's looks); each row that meets fmt, with fmt's text TOLD by the authors' own Lean function (tested against real Go, not proved from fmt's source: count such statements apart). THE CARD IS WHAT COUNTS. Prove the row's statement (the work); the ties are given (YtifkjnmnflhnoaaGreatDoorTie.lean); close each card by the builder's one call (the guide's Derived/Test/ToyasCard.lean, 'card_holds'). Laid BY PROGRAM, IN A SANDBOX (cutbox-door.mjs). By AI agents, Wed Nov 11 2026. No macro, syntax, notation, axiom, sorry.
-/
import Derived.Test.YtifkjnmnflhnoaaGreatDoorRows
import GoSem.ClaimSeven
namespace Go.Proofs.YtifkjnmnflhnoaaGreatDoor
namespace Rows

/-- THE TIED CARD OF 'steeningtop.TopTwoBooks'. -/
def topTwoBooksCard : Claim7 := { stood := { row := topTwoBooksRow, standIns := [], harness := (true, "87553ca61f0315f6fe5532291538cde0ce882089fa350705d24c1f8bef5b03b4"), looks := false }, kinds := [], alts := [], laidByText := true, laidKinds := [.data, .data], laidTests := true, laidLooks := .later }
def TopTwoBooksCardSaid : Prop := Claim7.holds Tryz.pinned (.plain (OpenSpec.ofChange topTwoBooksSpec)) topTwoBooksCard

/-- THE SECOND FORM's CARD OF 'steeningtop.TopTwoBooks'. -/
def topTwoBooksUptoCard : Claim7 := { stood := { row := topTwoBooksUptoRow, standIns := [], harness := (true, "87553ca61f0315f6fe5532291538cde0ce882089fa350705d24c1f8bef5b03b4"), looks := false }, kinds := [], alts := [], laidByText := true, laidKinds := [.data, .data], laidTests := true, laidLooks := .later }
def TopTwoBooksUptoCardSaid : Prop := Claim7.holds Tryz.pinned (.plain (OpenSpec.upto topTwoBooksSpec)) topTwoBooksUptoCard
end Rows
end Go.Proofs.YtifkjnmnflhnoaaGreatDoor
