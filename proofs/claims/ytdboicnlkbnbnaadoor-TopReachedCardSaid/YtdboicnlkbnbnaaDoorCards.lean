/-
  DERIVED. GIVEN WITH THE SEED: THE CARDS: each row of YtdboicnlkbnbnaaDoorRows.lean that lists a variable, with what it lists TIED to the program's text (the seventh form; the later family's looks); each row that meets fmt, with fmt's text TOLD by the authors' own Lean function (tested against real Go, not proved from fmt's source: count such statements apart). THE CARD IS WHAT COUNTS. Prove the row's statement (the work); the ties are given (YtdboicnlkbnbnaaDoorTie.lean); close each card by the builder's one call (the guide's Derived/Test/ToyasCard.lean, 'card_holds'). Laid BY PROGRAM, IN A SANDBOX (cutbox-door.mjs). By AI agents, Wed Nov 11 2026. No macro, syntax, notation, axiom, sorry.
-/
import Derived.Test.YtdboicnlkbnbnaaDoorRows
import GoSem.ClaimSeven
namespace Go.Proofs.YtdboicnlkbnbnaaDoor
namespace Rows

/-- THE TIED CARD OF 'steeningtop.TopReached'. -/
def topReachedCard : Claim7 := { stood := { row := topReachedRow, standIns := [], harness := (true, "a4fe78a3b8532fe99870d9c87874a56a12f077dcaa8121d62cd264199cafe349"), looks := false }, kinds := [], alts := [], laidByText := true, laidKinds := [.data], laidTests := true, laidLooks := .later }
def TopReachedCardSaid : Prop := Claim7.holds Tryd.pinned (.plain (OpenSpec.ofChange topReachedSpec)) topReachedCard

/-- THE SECOND FORM's CARD OF 'steeningtop.TopReached'. -/
def topReachedUptoCard : Claim7 := { stood := { row := topReachedUptoRow, standIns := [], harness := (true, "a4fe78a3b8532fe99870d9c87874a56a12f077dcaa8121d62cd264199cafe349"), looks := false }, kinds := [], alts := [], laidByText := true, laidKinds := [.data], laidTests := true, laidLooks := .later }
def TopReachedUptoCardSaid : Prop := Claim7.holds Tryd.pinned (.plain (OpenSpec.upto topReachedSpec)) topReachedUptoCard
end Rows
end Go.Proofs.YtdboicnlkbnbnaaDoor
