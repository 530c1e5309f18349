/-
  NARROWER THAN 'FOR EVERY INPUT', by the rows' own cells (each row's printed sentence says how): ShaftsPrice: laid · ShaftsCheap: laid · ShaftsTimes: laid · ShaftsParts: laid · ShaftsFewest: laid · ShaftsHours: laid · ShaftsDeep: laid · ShaftsDown: laid · ShaftsSafer: laid · ShaftsEach: laid · ShaftsRing: laid · ShaftsFalls: laid.
  DERIVED. THE GIVEN ROWS OF THIS SEAT. 12 by the template 'for every input the law returns true; each argument reads behind the call as it read before'; 0 by the template 'total and deterministic' (their statements: YtbbnpneabmldnaaDoorTotals.lean).
  GIVEN WITH THE SEED: the statements are not yours to turn. If you find one false, say at which input.
  Laid BY PROGRAM, IN A SANDBOX (cutbox-rows.mjs): the forced cells as the released guide's own fill.sh prints them over the translation 3295da3ae2835438… (all of the seat's roots in one cut). By AI agents, Wed Nov 11 2026. No macro, syntax, notation, axiom, sorry.
-/
import Derived.Test.YtbbnpneabmldnaaDoorChecked
import GoSem.Claim
import GoSem.ClaimJoined
import GoSem.ClaimMapViews
import Derived.JoinedTies
import Derived.KernelRfl
namespace Go.Proofs.YtbbnpneabmldnaaDoor
/- THE CELL 'sum', in the pinned program and in every row, IS THE sha256 OF THE DUMP (.gsa) THAT YtbbnpneabmldnaaDoorProg.lean LOADS. Nothing in Lean hashes anything: it is a label: what it is worth is what the hold of that sum in a sandbox is worth. -/
noncomputable def Tryd.pinned : Pinned := { name := "ytbbnpneabmldnaadoor", sum := "3295da3ae2835438647a84c1ad7d25da305769740b5b87cb17b76f72440e8965", checked := Tryd.checked }
namespace Rows
def none {H : Type} : Left H := { results := [], args := [] }

/- WHAT THE LISTED PACKAGE-LEVEL VARIABLES READ AS WHEN THE CALL BEGINS. Each datum BY PROGRAM (the guide's laid-datum.mjs) off the statement by which the dump's own 'gosem.cut.vars' lays the variable. In a bare row this is a premise. The card (YtbbnpneabmldnaaDoorCards.lean) ties it to the program's text. -/
def laid_steening_shafts_none {H : Type} : DataW H := .agg [.lit (.int .i64 (-1)), .lit (.int .i64 0), .lit (.int .i64 0)]

/-- 'steeninglaw02.ShaftsPrice': WHATEVER THE INPUT: true; the input reads as it did. -/
def shaftsPriceSpec : ChangeSpec := { name := "shaftsPrice", fn := fun _ => fun
  | [d1, d2] => { results := [.lit (.bool true)], args := [d1, d2] }
  | _ => none }
def shaftsPriceRow : OpenClaim := { program := "ytbbnpneabmldnaadoor", sum := "3295da3ae2835438647a84c1ad7d25da305769740b5b87cb17b76f72440e8965", func := "steening/steeninglaw02.ShaftsPrice", spec := "shaftsPrice", unfollowed := true, recurses := true, named := ["steening/shafts.none"], apart := false, laid := [("steening/shafts.none", laid_steening_shafts_none)] }
def ShaftsPriceSaid : Prop := shaftsPriceRow.holds Tryd.pinned (OpenSpec.ofChange shaftsPriceSpec)

/-- ITS FALSE NEIGHBOUR: 'it returns false'. Refute it at one input. -/
def shaftsPriceWrong : ChangeSpec := { name := "shaftsPrice", fn := fun _ => fun
  | [d1, d2] => { results := [.lit (.bool false)], args := [d1, d2] }
  | _ => none }
def ShaftsPriceWrongFalsely : Prop := shaftsPriceRow.holds Tryd.pinned (OpenSpec.ofChange shaftsPriceWrong)

/-- 'steeninglaw02.ShaftsCheap': WHATEVER THE INPUT: true; the input reads as it did. -/
def shaftsCheapSpec : ChangeSpec := { name := "shaftsCheap", fn := fun _ => fun
  | [d1, d2] => { results := [.lit (.bool true)], args := [d1, d2] }
  | _ => none }
def shaftsCheapRow : OpenClaim := { program := "ytbbnpneabmldnaadoor", sum := "3295da3ae2835438647a84c1ad7d25da305769740b5b87cb17b76f72440e8965", func := "steening/steeninglaw02.ShaftsCheap", spec := "shaftsCheap", unfollowed := true, recurses := true, named := ["steening/shafts.none"], apart := false, laid := [("steening/shafts.none", laid_steening_shafts_none)] }
def ShaftsCheapSaid : Prop := shaftsCheapRow.holds Tryd.pinned (OpenSpec.ofChange shaftsCheapSpec)

/-- ITS FALSE NEIGHBOUR: 'it returns false'. Refute it at one input. -/
def shaftsCheapWrong : ChangeSpec := { name := "shaftsCheap", fn := fun _ => fun
  | [d1, d2] => { results := [.lit (.bool false)], args := [d1, d2] }
  | _ => none }
def ShaftsCheapWrongFalsely : Prop := shaftsCheapRow.holds Tryd.pinned (OpenSpec.ofChange shaftsCheapWrong)

/-- 'steeninglaw02.ShaftsTimes': WHATEVER THE INPUT: true; the input reads as it did. -/
def shaftsTimesSpec : ChangeSpec := { name := "shaftsTimes", fn := fun _ => fun
  | [d1, d2] => { results := [.lit (.bool true)], args := [d1, d2] }
  | _ => none }
def shaftsTimesRow : OpenClaim := { program := "ytbbnpneabmldnaadoor", sum := "3295da3ae2835438647a84c1ad7d25da305769740b5b87cb17b76f72440e8965", func := "steening/steeninglaw02.ShaftsTimes", spec := "shaftsTimes", unfollowed := true, recurses := true, named := ["steening/shafts.none"], apart := false, laid := [("steening/shafts.none", laid_steening_shafts_none)] }
def ShaftsTimesSaid : Prop := shaftsTimesRow.holds Tryd.pinned (OpenSpec.ofChange shaftsTimesSpec)

/-- ITS FALSE NEIGHBOUR: 'it returns false'. Refute it at one input. -/
def shaftsTimesWrong : ChangeSpec := { name := "shaftsTimes", fn := fun _ => fun
  | [d1, d2] => { results := [.lit (.bool false)], args := [d1, d2] }
  | _ => none }
def ShaftsTimesWrongFalsely : Prop := shaftsTimesRow.holds Tryd.pinned (OpenSpec.ofChange shaftsTimesWrong)

/-- 'steeninglaw02.ShaftsParts': WHATEVER THE INPUT: true; the input reads as it did. -/
def shaftsPartsSpec : ChangeSpec := { name := "shaftsParts", fn := fun _ => fun
  | [d1, d2] => { results := [.lit (.bool true)], args := [d1, d2] }
  | _ => none }
def shaftsPartsRow : OpenClaim := { program := "ytbbnpneabmldnaadoor", sum := "3295da3ae2835438647a84c1ad7d25da305769740b5b87cb17b76f72440e8965", func := "steening/steeninglaw02.ShaftsParts", spec := "shaftsParts", unfollowed := true, recurses := true, named := ["steening/shafts.none"], apart := false, laid := [("steening/shafts.none", laid_steening_shafts_none)] }
def ShaftsPartsSaid : Prop := shaftsPartsRow.holds Tryd.pinned (OpenSpec.ofChange shaftsPartsSpec)

/-- ITS FALSE NEIGHBOUR: 'it returns false'. Refute it at one input. -/
def shaftsPartsWrong : ChangeSpec := { name := "shaftsParts", fn := fun _ => fun
  | [d1, d2] => { results := [.lit (.bool false)], args := [d1, d2] }
  | _ => none }
def ShaftsPartsWrongFalsely : Prop := shaftsPartsRow.holds Tryd.pinned (OpenSpec.ofChange shaftsPartsWrong)

/-- 'steeninglaw02.ShaftsFewest': WHATEVER THE INPUT: true; the input reads as it did. -/
def shaftsFewestSpec : ChangeSpec := { name := "shaftsFewest", fn := fun _ => fun
  | [d] => { results := [.lit (.bool true)], args := [d] }
  | _ => none }
def shaftsFewestRow : OpenClaim := { program := "ytbbnpneabmldnaadoor", sum := "3295da3ae2835438647a84c1ad7d25da305769740b5b87cb17b76f72440e8965", func := "steening/steeninglaw02.ShaftsFewest", spec := "shaftsFewest", unfollowed := true, recurses := true, named := ["steening/shafts.none"], apart := false, laid := [("steening/shafts.none", laid_steening_shafts_none)] }
def ShaftsFewestSaid : Prop := shaftsFewestRow.holds Tryd.pinned (OpenSpec.ofChange shaftsFewestSpec)

/-- ITS FALSE NEIGHBOUR: 'it returns false'. Refute it at one input. -/
def shaftsFewestWrong : ChangeSpec := { name := "shaftsFewest", fn := fun _ => fun
  | [d] => { results := [.lit (.bool false)], args := [d] }
  | _ => none }
def ShaftsFewestWrongFalsely : Prop := shaftsFewestRow.holds Tryd.pinned (OpenSpec.ofChange shaftsFewestWrong)

/-- 'steeninglaw02.ShaftsHours': WHATEVER THE INPUT: true; the input reads as it did. -/
def shaftsHoursSpec : ChangeSpec := { name := "shaftsHours", fn := fun _ => fun
  | [d1, d2, d3] => { results := [.lit (.bool true)], args := [d1, d2, d3] }
  | _ => none }
def shaftsHoursRow : OpenClaim := { program := "ytbbnpneabmldnaadoor", sum := "3295da3ae2835438647a84c1ad7d25da305769740b5b87cb17b76f72440e8965", func := "steening/steeninglaw02.ShaftsHours", spec := "shaftsHours", unfollowed := true, recurses := true, named := ["steening/shafts.none"], apart := false, laid := [("steening/shafts.none", laid_steening_shafts_none)] }
def ShaftsHoursSaid : Prop := shaftsHoursRow.holds Tryd.pinned (OpenSpec.ofChange shaftsHoursSpec)

/-- ITS FALSE NEIGHBOUR: 'it returns false'. Refute it at one input. -/
def shaftsHoursWrong : ChangeSpec := { name := "shaftsHours", fn := fun _ => fun
  | [d1, d2, d3] => { results := [.lit (.bool false)], args := [d1, d2, d3] }
  | _ => none }
def ShaftsHoursWrongFalsely : Prop := shaftsHoursRow.holds Tryd.pinned (OpenSpec.ofChange shaftsHoursWrong)

/-- 'steeninglaw02.ShaftsDeep': WHATEVER THE INPUT: true; the input reads as it did. -/
def shaftsDeepSpec : ChangeSpec := { name := "shaftsDeep", fn := fun _ => fun
  | [d1, d2, d3] => { results := [.lit (.bool true)], args := [d1, d2, d3] }
  | _ => none }
def shaftsDeepRow : OpenClaim := { program := "ytbbnpneabmldnaadoor", sum := "3295da3ae2835438647a84c1ad7d25da305769740b5b87cb17b76f72440e8965", func := "steening/steeninglaw02.ShaftsDeep", spec := "shaftsDeep", unfollowed := true, recurses := true, named := ["steening/shafts.none"], apart := false, laid := [("steening/shafts.none", laid_steening_shafts_none)] }
def ShaftsDeepSaid : Prop := shaftsDeepRow.holds Tryd.pinned (OpenSpec.ofChange shaftsDeepSpec)

/-- ITS FALSE NEIGHBOUR: 'it returns false'. Refute it at one input. -/
def shaftsDeepWrong : ChangeSpec := { name := "shaftsDeep", fn := fun _ => fun
  | [d1, d2, d3] => { results := [.lit (.bool false)], args := [d1, d2, d3] }
  | _ => none }
def ShaftsDeepWrongFalsely : Prop := shaftsDeepRow.holds Tryd.pinned (OpenSpec.ofChange shaftsDeepWrong)

/-- 'steeninglaw02.ShaftsDown': WHATEVER THE INPUT: true; the input reads as it did. -/
def shaftsDownSpec : ChangeSpec := { name := "shaftsDown", fn := fun _ => fun
  | [d1, d2] => { results := [.lit (.bool true)], args := [d1, d2] }
  | _ => none }
def shaftsDownRow : OpenClaim := { program := "ytbbnpneabmldnaadoor", sum := "3295da3ae2835438647a84c1ad7d25da305769740b5b87cb17b76f72440e8965", func := "steening/steeninglaw02.ShaftsDown", spec := "shaftsDown", unfollowed := true, recurses := true, named := ["steening/shafts.none"], apart := false, laid := [("steening/shafts.none", laid_steening_shafts_none)] }
def ShaftsDownSaid : Prop := shaftsDownRow.holds Tryd.pinned (OpenSpec.ofChange shaftsDownSpec)

/-- ITS FALSE NEIGHBOUR: 'it returns false'. Refute it at one input. -/
def shaftsDownWrong : ChangeSpec := { name := "shaftsDown", fn := fun _ => fun
  | [d1, d2] => { results := [.lit (.bool false)], args := [d1, d2] }
  | _ => none }
def ShaftsDownWrongFalsely : Prop := shaftsDownRow.holds Tryd.pinned (OpenSpec.ofChange shaftsDownWrong)

/-- 'steeninglaw02.ShaftsSafer': WHATEVER THE INPUT: true; the input reads as it did. -/
def shaftsSaferSpec : ChangeSpec := { name := "shaftsSafer", fn := fun _ => fun
  | [d1, d2, d3] => { results := [.lit (.bool true)], args := [d1, d2, d3] }
  | _ => none }
def shaftsSaferRow : OpenClaim := { program := "ytbbnpneabmldnaadoor", sum := "3295da3ae2835438647a84c1ad7d25da305769740b5b87cb17b76f72440e8965", func := "steening/steeninglaw02.ShaftsSafer", spec := "shaftsSafer", unfollowed := true, recurses := true, named := ["steening/shafts.none"], apart := false, laid := [("steening/shafts.none", laid_steening_shafts_none)] }
def ShaftsSaferSaid : Prop := shaftsSaferRow.holds Tryd.pinned (OpenSpec.ofChange shaftsSaferSpec)

/-- ITS FALSE NEIGHBOUR: 'it returns false'. Refute it at one input. -/
def shaftsSaferWrong : ChangeSpec := { name := "shaftsSafer", fn := fun _ => fun
  | [d1, d2, d3] => { results := [.lit (.bool false)], args := [d1, d2, d3] }
  | _ => none }
def ShaftsSaferWrongFalsely : Prop := shaftsSaferRow.holds Tryd.pinned (OpenSpec.ofChange shaftsSaferWrong)

/-- 'steeninglaw02.ShaftsEach': WHATEVER THE INPUT: true; the input reads as it did. -/
def shaftsEachSpec : ChangeSpec := { name := "shaftsEach", fn := fun _ => fun
  | [d1, d2] => { results := [.lit (.bool true)], args := [d1, d2] }
  | _ => none }
def shaftsEachRow : OpenClaim := { program := "ytbbnpneabmldnaadoor", sum := "3295da3ae2835438647a84c1ad7d25da305769740b5b87cb17b76f72440e8965", func := "steening/steeninglaw02.ShaftsEach", spec := "shaftsEach", unfollowed := true, recurses := true, named := ["steening/shafts.none"], apart := false, laid := [("steening/shafts.none", laid_steening_shafts_none)] }
def ShaftsEachSaid : Prop := shaftsEachRow.holds Tryd.pinned (OpenSpec.ofChange shaftsEachSpec)

/-- ITS FALSE NEIGHBOUR: 'it returns false'. Refute it at one input. -/
def shaftsEachWrong : ChangeSpec := { name := "shaftsEach", fn := fun _ => fun
  | [d1, d2] => { results := [.lit (.bool false)], args := [d1, d2] }
  | _ => none }
def ShaftsEachWrongFalsely : Prop := shaftsEachRow.holds Tryd.pinned (OpenSpec.ofChange shaftsEachWrong)

/-- 'steeninglaw02.ShaftsRing': WHATEVER THE INPUT: true; the input reads as it did. -/
def shaftsRingSpec : ChangeSpec := { name := "shaftsRing", fn := fun _ => fun
  | [d1, d2, d3] => { results := [.lit (.bool true)], args := [d1, d2, d3] }
  | _ => none }
def shaftsRingRow : OpenClaim := { program := "ytbbnpneabmldnaadoor", sum := "3295da3ae2835438647a84c1ad7d25da305769740b5b87cb17b76f72440e8965", func := "steening/steeninglaw02.ShaftsRing", spec := "shaftsRing", unfollowed := true, recurses := true, named := ["steening/shafts.none"], apart := false, laid := [("steening/shafts.none", laid_steening_shafts_none)] }
def ShaftsRingSaid : Prop := shaftsRingRow.holds Tryd.pinned (OpenSpec.ofChange shaftsRingSpec)

/-- ITS FALSE NEIGHBOUR: 'it returns false'. Refute it at one input. -/
def shaftsRingWrong : ChangeSpec := { name := "shaftsRing", fn := fun _ => fun
  | [d1, d2, d3] => { results := [.lit (.bool false)], args := [d1, d2, d3] }
  | _ => none }
def ShaftsRingWrongFalsely : Prop := shaftsRingRow.holds Tryd.pinned (OpenSpec.ofChange shaftsRingWrong)

/-- 'steeninglaw02.ShaftsFalls': WHATEVER THE INPUT: true; the input reads as it did. -/
def shaftsFallsSpec : ChangeSpec := { name := "shaftsFalls", fn := fun _ => fun
  | [d1, d2] => { results := [.lit (.bool true)], args := [d1, d2] }
  | _ => none }
def shaftsFallsRow : OpenClaim := { program := "ytbbnpneabmldnaadoor", sum := "3295da3ae2835438647a84c1ad7d25da305769740b5b87cb17b76f72440e8965", func := "steening/steeninglaw02.ShaftsFalls", spec := "shaftsFalls", unfollowed := true, recurses := true, named := ["steening/shafts.none"], apart := false, laid := [("steening/shafts.none", laid_steening_shafts_none)] }
def ShaftsFallsSaid : Prop := shaftsFallsRow.holds Tryd.pinned (OpenSpec.ofChange shaftsFallsSpec)

/-- ITS FALSE NEIGHBOUR: 'it returns false'. Refute it at one input. -/
def shaftsFallsWrong : ChangeSpec := { name := "shaftsFalls", fn := fun _ => fun
  | [d1, d2] => { results := [.lit (.bool false)], args := [d1, d2] }
  | _ => none }
def ShaftsFallsWrongFalsely : Prop := shaftsFallsRow.holds Tryd.pinned (OpenSpec.ofChange shaftsFallsWrong)

/- THE SECOND FORM. 'bulk': how many values and letters a reading holds, each counted each time it is reached (what is shared counts as often as it is met; a slice's spare places count too). A statement '..UptoSaid' is the law's where the arguments, and the package variables that the reading takes, are together of bulk at most 1048576: NARROWER than '..Said'. Prove '..Said' where nothing that the law and all that it calls make is longer than what came in: it says more and counts as full. Else prove '..UptoSaid'. A law counts once. -/
mutual
def uptoBulk {H : Type} : DataW H → Nat
  | .lit (.string bytes) => bytes.length + 1
  | .lit _ => 1
  | .nil => 1
  | .ptr d => uptoBulk d + 1
  | .slice elems spare => uptoBulkAll elems + uptoBulkAll spare + 1
  | .agg parts => uptoBulkAll parts + 1
  | .iface _ d => uptoBulk d + 1
  | .map entries => uptoBulkEntries entries + 1
  | .held _ => 1
def uptoBulkAll {H : Type} : List (DataW H) → Nat
  | [] => 0
  | d :: r => uptoBulk d + uptoBulkAll r
def uptoBulkEntries {H : Type} : List (Lit × DataW H) → Nat
  | [] => 0
  | x :: r => uptoBulkEntry x + uptoBulkEntries r
def uptoBulkEntry {H : Type} : Lit × DataW H → Nat
  | (.string bytes, d) => bytes.length + uptoBulk d + 1
  | (_, d) => uptoBulk d + 1
 end
def uptoSmall : (H : Type) → List (DataW H) → Bool := fun _ ds => decide (uptoBulkAll ds ≤ 1048576)
def OpenSpec.upto (s : _root_.Go.ChangeSpec) : _root_.Go.OpenSpec := { _root_.Go.OpenSpec.ofChange s with cond := some uptoSmall }

/-- 'steeninglaw02.ShaftsPrice', WHERE WHAT IT READS IS OF BULK AT MOST 1048576: true; the input reads as it did. -/
def shaftsPriceUptoRow : OpenClaim := { program := "ytbbnpneabmldnaadoor", sum := "3295da3ae2835438647a84c1ad7d25da305769740b5b87cb17b76f72440e8965", func := "steening/steeninglaw02.ShaftsPrice", spec := "shaftsPrice", unfollowed := true, recurses := true, named := ["steening/shafts.none"], apart := false, laid := [("steening/shafts.none", laid_steening_shafts_none)], narrowed := true }
def ShaftsPriceUptoSaid : Prop := shaftsPriceUptoRow.holds Tryd.pinned (OpenSpec.upto shaftsPriceSpec)

/-- 'steeninglaw02.ShaftsCheap', WHERE WHAT IT READS IS OF BULK AT MOST 1048576: true; the input reads as it did. -/
def shaftsCheapUptoRow : OpenClaim := { program := "ytbbnpneabmldnaadoor", sum := "3295da3ae2835438647a84c1ad7d25da305769740b5b87cb17b76f72440e8965", func := "steening/steeninglaw02.ShaftsCheap", spec := "shaftsCheap", unfollowed := true, recurses := true, named := ["steening/shafts.none"], apart := false, laid := [("steening/shafts.none", laid_steening_shafts_none)], narrowed := true }
def ShaftsCheapUptoSaid : Prop := shaftsCheapUptoRow.holds Tryd.pinned (OpenSpec.upto shaftsCheapSpec)

/-- 'steeninglaw02.ShaftsTimes', WHERE WHAT IT READS IS OF BULK AT MOST 1048576: true; the input reads as it did. -/
def shaftsTimesUptoRow : OpenClaim := { program := "ytbbnpneabmldnaadoor", sum := "3295da3ae2835438647a84c1ad7d25da305769740b5b87cb17b76f72440e8965", func := "steening/steeninglaw02.ShaftsTimes", spec := "shaftsTimes", unfollowed := true, recurses := true, named := ["steening/shafts.none"], apart := false, laid := [("steening/shafts.none", laid_steening_shafts_none)], narrowed := true }
def ShaftsTimesUptoSaid : Prop := shaftsTimesUptoRow.holds Tryd.pinned (OpenSpec.upto shaftsTimesSpec)

/-- 'steeninglaw02.ShaftsParts', WHERE WHAT IT READS IS OF BULK AT MOST 1048576: true; the input reads as it did. -/
def shaftsPartsUptoRow : OpenClaim := { program := "ytbbnpneabmldnaadoor", sum := "3295da3ae2835438647a84c1ad7d25da305769740b5b87cb17b76f72440e8965", func := "steening/steeninglaw02.ShaftsParts", spec := "shaftsParts", unfollowed := true, recurses := true, named := ["steening/shafts.none"], apart := false, laid := [("steening/shafts.none", laid_steening_shafts_none)], narrowed := true }
def ShaftsPartsUptoSaid : Prop := shaftsPartsUptoRow.holds Tryd.pinned (OpenSpec.upto shaftsPartsSpec)

/-- 'steeninglaw02.ShaftsFewest', WHERE WHAT IT READS IS OF BULK AT MOST 1048576: true; the input reads as it did. -/
def shaftsFewestUptoRow : OpenClaim := { program := "ytbbnpneabmldnaadoor", sum := "3295da3ae2835438647a84c1ad7d25da305769740b5b87cb17b76f72440e8965", func := "steening/steeninglaw02.ShaftsFewest", spec := "shaftsFewest", unfollowed := true, recurses := true, named := ["steening/shafts.none"], apart := false, laid := [("steening/shafts.none", laid_steening_shafts_none)], narrowed := true }
def ShaftsFewestUptoSaid : Prop := shaftsFewestUptoRow.holds Tryd.pinned (OpenSpec.upto shaftsFewestSpec)

/-- 'steeninglaw02.ShaftsHours', WHERE WHAT IT READS IS OF BULK AT MOST 1048576: true; the input reads as it did. -/
def shaftsHoursUptoRow : OpenClaim := { program := "ytbbnpneabmldnaadoor", sum := "3295da3ae2835438647a84c1ad7d25da305769740b5b87cb17b76f72440e8965", func := "steening/steeninglaw02.ShaftsHours", spec := "shaftsHours", unfollowed := true, recurses := true, named := ["steening/shafts.none"], apart := false, laid := [("steening/shafts.none", laid_steening_shafts_none)], narrowed := true }
def ShaftsHoursUptoSaid : Prop := shaftsHoursUptoRow.holds Tryd.pinned (OpenSpec.upto shaftsHoursSpec)

/-- 'steeninglaw02.ShaftsDeep', WHERE WHAT IT READS IS OF BULK AT MOST 1048576: true; the input reads as it did. -/
def shaftsDeepUptoRow : OpenClaim := { program := "ytbbnpneabmldnaadoor", sum := "3295da3ae2835438647a84c1ad7d25da305769740b5b87cb17b76f72440e8965", func := "steening/steeninglaw02.ShaftsDeep", spec := "shaftsDeep", unfollowed := true, recurses := true, named := ["steening/shafts.none"], apart := false, laid := [("steening/shafts.none", laid_steening_shafts_none)], narrowed := true }
def ShaftsDeepUptoSaid : Prop := shaftsDeepUptoRow.holds Tryd.pinned (OpenSpec.upto shaftsDeepSpec)

/-- 'steeninglaw02.ShaftsDown', WHERE WHAT IT READS IS OF BULK AT MOST 1048576: true; the input reads as it did. -/
def shaftsDownUptoRow : OpenClaim := { program := "ytbbnpneabmldnaadoor", sum := "3295da3ae2835438647a84c1ad7d25da305769740b5b87cb17b76f72440e8965", func := "steening/steeninglaw02.ShaftsDown", spec := "shaftsDown", unfollowed := true, recurses := true, named := ["steening/shafts.none"], apart := false, laid := [("steening/shafts.none", laid_steening_shafts_none)], narrowed := true }
def ShaftsDownUptoSaid : Prop := shaftsDownUptoRow.holds Tryd.pinned (OpenSpec.upto shaftsDownSpec)

/-- 'steeninglaw02.ShaftsSafer', WHERE WHAT IT READS IS OF BULK AT MOST 1048576: true; the input reads as it did. -/
def shaftsSaferUptoRow : OpenClaim := { program := "ytbbnpneabmldnaadoor", sum := "3295da3ae2835438647a84c1ad7d25da305769740b5b87cb17b76f72440e8965", func := "steening/steeninglaw02.ShaftsSafer", spec := "shaftsSafer", unfollowed := true, recurses := true, named := ["steening/shafts.none"], apart := false, laid := [("steening/shafts.none", laid_steening_shafts_none)], narrowed := true }
def ShaftsSaferUptoSaid : Prop := shaftsSaferUptoRow.holds Tryd.pinned (OpenSpec.upto shaftsSaferSpec)

/-- 'steeninglaw02.ShaftsEach', WHERE WHAT IT READS IS OF BULK AT MOST 1048576: true; the input reads as it did. -/
def shaftsEachUptoRow : OpenClaim := { program := "ytbbnpneabmldnaadoor", sum := "3295da3ae2835438647a84c1ad7d25da305769740b5b87cb17b76f72440e8965", func := "steening/steeninglaw02.ShaftsEach", spec := "shaftsEach", unfollowed := true, recurses := true, named := ["steening/shafts.none"], apart := false, laid := [("steening/shafts.none", laid_steening_shafts_none)], narrowed := true }
def ShaftsEachUptoSaid : Prop := shaftsEachUptoRow.holds Tryd.pinned (OpenSpec.upto shaftsEachSpec)

/-- 'steeninglaw02.ShaftsRing', WHERE WHAT IT READS IS OF BULK AT MOST 1048576: true; the input reads as it did. -/
def shaftsRingUptoRow : OpenClaim := { program := "ytbbnpneabmldnaadoor", sum := "3295da3ae2835438647a84c1ad7d25da305769740b5b87cb17b76f72440e8965", func := "steening/steeninglaw02.ShaftsRing", spec := "shaftsRing", unfollowed := true, recurses := true, named := ["steening/shafts.none"], apart := false, laid := [("steening/shafts.none", laid_steening_shafts_none)], narrowed := true }
def ShaftsRingUptoSaid : Prop := shaftsRingUptoRow.holds Tryd.pinned (OpenSpec.upto shaftsRingSpec)

/-- 'steeninglaw02.ShaftsFalls', WHERE WHAT IT READS IS OF BULK AT MOST 1048576: true; the input reads as it did. -/
def shaftsFallsUptoRow : OpenClaim := { program := "ytbbnpneabmldnaadoor", sum := "3295da3ae2835438647a84c1ad7d25da305769740b5b87cb17b76f72440e8965", func := "steening/steeninglaw02.ShaftsFalls", spec := "shaftsFalls", unfollowed := true, recurses := true, named := ["steening/shafts.none"], apart := false, laid := [("steening/shafts.none", laid_steening_shafts_none)], narrowed := true }
def ShaftsFallsUptoSaid : Prop := shaftsFallsUptoRow.holds Tryd.pinned (OpenSpec.upto shaftsFallsSpec)

end Rows
end Go.Proofs.YtbbnpneabmldnaaDoor
