/-
  DERIVED. GIVEN WITH THE SEED: THE CARDS: each row of YthnojgdckkdcgaaDoorRows.lean that lists a variable, with what it lists TIED to the program's text (the seventh form; the later family's looks); each row that meets fmt, with fmt's text TOLD by the authors' own Lean function (tested against real Go, not proved from fmt's source: count such statements apart). THE CARD IS WHAT COUNTS. Prove the row's statement (the work); the ties are given (YthnojgdckkdcgaaDoorTie.lean); close each card by the builder's one call (the guide's Derived/Test/ToyasCard.lean, 'card_holds'). Laid BY PROGRAM, IN A SANDBOX (cutbox-door.mjs). By AI agents, Wed Nov 11 2026. No macro, syntax, notation, axiom, sorry.
-/
import Derived.Test.YthnojgdckkdcgaaDoorRows
import GoSem.ClaimSeven
namespace Go.Proofs.YthnojgdckkdcgaaDoor
namespace Rows

/-- THE TIED CARD OF 'steeningtop.TopCaught'. -/
def topCaughtCard : Claim7 := { stood := { row := topCaughtRow, standIns := [], harness := (true, "3148783cb98051df318a8e4787213c7e8c1f48aa460869dfddbe25dcabea8b5b"), looks := false }, kinds := [], alts := [], laidByText := true, laidKinds := [.data, .data], laidTests := true, laidLooks := .later }
def TopCaughtCardSaid : Prop := Claim7.holds Tryd.pinned (.plain (OpenSpec.ofChange topCaughtSpec)) topCaughtCard

/-- THE SECOND FORM's CARD OF 'steeningtop.TopCaught'. -/
def topCaughtUptoCard : Claim7 := { stood := { row := topCaughtUptoRow, standIns := [], harness := (true, "3148783cb98051df318a8e4787213c7e8c1f48aa460869dfddbe25dcabea8b5b"), looks := false }, kinds := [], alts := [], laidByText := true, laidKinds := [.data, .data], laidTests := true, laidLooks := .later }
def TopCaughtUptoCardSaid : Prop := Claim7.holds Tryd.pinned (.plain (OpenSpec.upto topCaughtSpec)) topCaughtUptoCard
end Rows
end Go.Proofs.YthnojgdckkdcgaaDoor
