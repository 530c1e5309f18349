/-
  DERIVED. GIVEN WITH THE SEED: THE CARDS: each row of YtcdlbpmffkoejaaDoorRows.lean that lists a variable, with what it lists TIED to the program's text (the seventh form; the later family's looks); each row that meets fmt, with fmt's text TOLD by the authors' own Lean function (tested against real Go, not proved from fmt's source: count such statements apart). THE CARD IS WHAT COUNTS. Prove the row's statement (the work); the ties are given (YtcdlbpmffkoejaaDoorTie.lean); close each card by the builder's one call (the guide's Derived/Test/ToyasCard.lean, 'card_holds'). Laid BY PROGRAM, IN A SANDBOX (cutbox-door.mjs). By AI agents, Wed Nov 11 2026. No macro, syntax, notation, axiom, sorry.
-/
import Derived.Test.YtcdlbpmffkoejaaDoorRows
import GoSem.ClaimSeven
namespace Go.Proofs.YtcdlbpmffkoejaaDoor
namespace Rows

/-- THE TIED CARD OF 'steeninglaw05.QuarrelsSum'. -/
def quarrelsSumCard : Claim7 := { stood := { row := quarrelsSumRow, standIns := [], harness := (true, "f94608b4695d94855f411e37084ac51af42f89ffe9ba9e20655697a89dd97d1e"), looks := false }, kinds := [], alts := [], laidByText := true, laidKinds := [.data, .data], laidTests := true, laidLooks := .later }
def QuarrelsSumCardSaid : Prop := Claim7.holds Tryd.pinned (.plain (OpenSpec.ofChange quarrelsSumSpec)) quarrelsSumCard

/-- THE SECOND FORM's CARD OF 'steeninglaw05.QuarrelsSum'. -/
def quarrelsSumUptoCard : Claim7 := { stood := { row := quarrelsSumUptoRow, standIns := [], harness := (true, "f94608b4695d94855f411e37084ac51af42f89ffe9ba9e20655697a89dd97d1e"), looks := false }, kinds := [], alts := [], laidByText := true, laidKinds := [.data, .data], laidTests := true, laidLooks := .later }
def QuarrelsSumUptoCardSaid : Prop := Claim7.holds Tryd.pinned (.plain (OpenSpec.upto quarrelsSumSpec)) quarrelsSumUptoCard
end Rows
end Go.Proofs.YtcdlbpmffkoejaaDoor
