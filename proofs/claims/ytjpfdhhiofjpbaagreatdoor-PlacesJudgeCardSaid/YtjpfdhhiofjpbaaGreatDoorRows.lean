/-
  NARROWER THAN 'FOR EVERY INPUT', by the rows' own cells (each row's printed sentence says how): PlacesNear: laid · PlacesWho: laid · PlacesFree: laid · PlacesEach: laid · PlacesLoosen: laid · PlacesStreet: laid · PlacesWhole: laid · PlacesMore: laid · PlacesLooser: laid · PlacesBest: laid · PlacesDecide: laid · PlacesJudge: laid · PlacesSpot: laid · TopDug: laid · TopToldApart: laid.
  DERIVED. THE GIVEN ROWS OF THIS SEAT. 15 by the template 'for every input the law returns true; each argument reads behind the call as it read before'; 0 by the template 'total and deterministic' (their statements: YtjpfdhhiofjpbaaGreatDoorTotals.lean).
  GIVEN WITH THE SEED: the statements are not yours to turn. If you find one false, say at which input.
  Laid BY PROGRAM, IN A SANDBOX (cutbox-rows.mjs): the forced cells as the released guide's own fill.sh prints them over the translation dd37a234f7727b73… (all of the seat's roots in one cut). By AI agents, Wed Nov 11 2026. No macro, syntax, notation, axiom, sorry.
-/
import Derived.Test.YtjpfdhhiofjpbaaGreatDoorChecked
import GoSem.Claim
import GoSem.ClaimJoined
import GoSem.ClaimMapViews
import Derived.JoinedTies
import Derived.KernelRfl
namespace Go.Proofs.YtjpfdhhiofjpbaaGreatDoor
/- THE CELL 'sum', in the pinned program and in every row, IS THE sha256 OF THE DUMP (.gsa) THAT YtjpfdhhiofjpbaaGreatDoorProg.lean LOADS. Nothing in Lean hashes anything: it is a label: what it is worth is what the hold of that sum in a sandbox is worth. -/
noncomputable def Tryz.pinned : Pinned := { name := "ytjpfdhhiofjpbaagreatdoor", sum := "dd37a234f7727b7365fa9ddfd1577ffa5766a27e6d409a3491f3596f8bbe9c25", checked := Tryz.checked }
namespace Rows
def none {H : Type} : Left H := { results := [], args := [] }

/- WHAT THE LISTED PACKAGE-LEVEL VARIABLES READ AS WHEN THE CALL BEGINS. Each datum BY PROGRAM (the guide's laid-datum.mjs) off the statement by which the dump's own 'gosem.cut.vars' lays the variable. In a bare row this is a premise. The card (YtjpfdhhiofjpbaaGreatDoorCards.lean) ties it to the program's text. -/
def laid_math_bits_deBruijn32tab {H : Type} : DataW H := .agg [.lit (.int .u8 0), .lit (.int .u8 1), .lit (.int .u8 28), .lit (.int .u8 2), .lit (.int .u8 29), .lit (.int .u8 14), .lit (.int .u8 24), .lit (.int .u8 3), .lit (.int .u8 30), .lit (.int .u8 22), .lit (.int .u8 20), .lit (.int .u8 15), .lit (.int .u8 25), .lit (.int .u8 17), .lit (.int .u8 4), .lit (.int .u8 8), .lit (.int .u8 31), .lit (.int .u8 27), .lit (.int .u8 13), .lit (.int .u8 23), .lit (.int .u8 21), .lit (.int .u8 19), .lit (.int .u8 16), .lit (.int .u8 7), .lit (.int .u8 26), .lit (.int .u8 12), .lit (.int .u8 18), .lit (.int .u8 6), .lit (.int .u8 11), .lit (.int .u8 5), .lit (.int .u8 10), .lit (.int .u8 9)]
def laid_math_bits_deBruijn64tab {H : Type} : DataW H := .agg [.lit (.int .u8 0), .lit (.int .u8 1), .lit (.int .u8 56), .lit (.int .u8 2), .lit (.int .u8 57), .lit (.int .u8 49), .lit (.int .u8 28), .lit (.int .u8 3), .lit (.int .u8 61), .lit (.int .u8 58), .lit (.int .u8 42), .lit (.int .u8 50), .lit (.int .u8 38), .lit (.int .u8 29), .lit (.int .u8 17), .lit (.int .u8 4), .lit (.int .u8 62), .lit (.int .u8 47), .lit (.int .u8 59), .lit (.int .u8 36), .lit (.int .u8 45), .lit (.int .u8 43), .lit (.int .u8 51), .lit (.int .u8 22), .lit (.int .u8 53), .lit (.int .u8 39), .lit (.int .u8 33), .lit (.int .u8 30), .lit (.int .u8 24), .lit (.int .u8 18), .lit (.int .u8 12), .lit (.int .u8 5), .lit (.int .u8 63), .lit (.int .u8 55), .lit (.int .u8 48), .lit (.int .u8 27), .lit (.int .u8 60), .lit (.int .u8 41), .lit (.int .u8 37), .lit (.int .u8 16), .lit (.int .u8 46), .lit (.int .u8 35), .lit (.int .u8 44), .lit (.int .u8 21), .lit (.int .u8 52), .lit (.int .u8 32), .lit (.int .u8 23), .lit (.int .u8 11), .lit (.int .u8 54), .lit (.int .u8 26), .lit (.int .u8 40), .lit (.int .u8 15), .lit (.int .u8 34), .lit (.int .u8 20), .lit (.int .u8 31), .lit (.int .u8 10), .lit (.int .u8 25), .lit (.int .u8 14), .lit (.int .u8 19), .lit (.int .u8 9), .lit (.int .u8 13), .lit (.int .u8 8), .lit (.int .u8 7), .lit (.int .u8 6)]
def laid_steening_shafts_none {H : Type} : DataW H := .agg [.lit (.int .i64 (-1)), .lit (.int .i64 0), .lit (.int .i64 0)]

/-- 'steeninglaw09.PlacesNear': WHATEVER THE INPUT: true; the input reads as it did. -/
def placesNearSpec : ChangeSpec := { name := "placesNear", fn := fun _ => fun
  | [d1, d2] => { results := [.lit (.bool true)], args := [d1, d2] }
  | _ => none }
def placesNearRow : OpenClaim := { program := "ytjpfdhhiofjpbaagreatdoor", sum := "dd37a234f7727b7365fa9ddfd1577ffa5766a27e6d409a3491f3596f8bbe9c25", func := "steening/steeninglaw09.PlacesNear", spec := "placesNear", unfollowed := true, recurses := true, named := ["math/bits.deBruijn32tab", "math/bits.deBruijn64tab", "steening/shafts.none"], apart := false, laid := [("math/bits.deBruijn32tab", laid_math_bits_deBruijn32tab), ("math/bits.deBruijn64tab", laid_math_bits_deBruijn64tab), ("steening/shafts.none", laid_steening_shafts_none)] }
def PlacesNearSaid : Prop := placesNearRow.holds Tryz.pinned (OpenSpec.ofChange placesNearSpec)

/-- ITS FALSE NEIGHBOUR: 'it returns false'. Refute it at one input. -/
def placesNearWrong : ChangeSpec := { name := "placesNear", fn := fun _ => fun
  | [d1, d2] => { results := [.lit (.bool false)], args := [d1, d2] }
  | _ => none }
def PlacesNearWrongFalsely : Prop := placesNearRow.holds Tryz.pinned (OpenSpec.ofChange placesNearWrong)

/-- 'steeninglaw09.PlacesWho': WHATEVER THE INPUT: true; the input reads as it did. -/
def placesWhoSpec : ChangeSpec := { name := "placesWho", fn := fun _ => fun
  | [d1, d2, d3] => { results := [.lit (.bool true)], args := [d1, d2, d3] }
  | _ => none }
def placesWhoRow : OpenClaim := { program := "ytjpfdhhiofjpbaagreatdoor", sum := "dd37a234f7727b7365fa9ddfd1577ffa5766a27e6d409a3491f3596f8bbe9c25", func := "steening/steeninglaw09.PlacesWho", spec := "placesWho", unfollowed := true, recurses := true, named := ["math/bits.deBruijn32tab", "math/bits.deBruijn64tab", "steening/shafts.none"], apart := false, laid := [("math/bits.deBruijn32tab", laid_math_bits_deBruijn32tab), ("math/bits.deBruijn64tab", laid_math_bits_deBruijn64tab), ("steening/shafts.none", laid_steening_shafts_none)] }
def PlacesWhoSaid : Prop := placesWhoRow.holds Tryz.pinned (OpenSpec.ofChange placesWhoSpec)

/-- ITS FALSE NEIGHBOUR: 'it returns false'. Refute it at one input. -/
def placesWhoWrong : ChangeSpec := { name := "placesWho", fn := fun _ => fun
  | [d1, d2, d3] => { results := [.lit (.bool false)], args := [d1, d2, d3] }
  | _ => none }
def PlacesWhoWrongFalsely : Prop := placesWhoRow.holds Tryz.pinned (OpenSpec.ofChange placesWhoWrong)

/-- 'steeninglaw09.PlacesFree': WHATEVER THE INPUT: true; the input reads as it did. -/
def placesFreeSpec : ChangeSpec := { name := "placesFree", fn := fun _ => fun
  | [d] => { results := [.lit (.bool true)], args := [d] }
  | _ => none }
def placesFreeRow : OpenClaim := { program := "ytjpfdhhiofjpbaagreatdoor", sum := "dd37a234f7727b7365fa9ddfd1577ffa5766a27e6d409a3491f3596f8bbe9c25", func := "steening/steeninglaw09.PlacesFree", spec := "placesFree", unfollowed := true, recurses := true, named := ["math/bits.deBruijn32tab", "math/bits.deBruijn64tab", "steening/shafts.none"], apart := false, laid := [("math/bits.deBruijn32tab", laid_math_bits_deBruijn32tab), ("math/bits.deBruijn64tab", laid_math_bits_deBruijn64tab), ("steening/shafts.none", laid_steening_shafts_none)] }
def PlacesFreeSaid : Prop := placesFreeRow.holds Tryz.pinned (OpenSpec.ofChange placesFreeSpec)

/-- ITS FALSE NEIGHBOUR: 'it returns false'. Refute it at one input. -/
def placesFreeWrong : ChangeSpec := { name := "placesFree", fn := fun _ => fun
  | [d] => { results := [.lit (.bool false)], args := [d] }
  | _ => none }
def PlacesFreeWrongFalsely : Prop := placesFreeRow.holds Tryz.pinned (OpenSpec.ofChange placesFreeWrong)

/-- 'steeninglaw09.PlacesEach': WHATEVER THE INPUT: true; the input reads as it did. -/
def placesEachSpec : ChangeSpec := { name := "placesEach", fn := fun _ => fun
  | [d1, d2, d3] => { results := [.lit (.bool true)], args := [d1, d2, d3] }
  | _ => none }
def placesEachRow : OpenClaim := { program := "ytjpfdhhiofjpbaagreatdoor", sum := "dd37a234f7727b7365fa9ddfd1577ffa5766a27e6d409a3491f3596f8bbe9c25", func := "steening/steeninglaw09.PlacesEach", spec := "placesEach", unfollowed := true, recurses := true, named := ["math/bits.deBruijn32tab", "math/bits.deBruijn64tab", "steening/shafts.none"], apart := false, laid := [("math/bits.deBruijn32tab", laid_math_bits_deBruijn32tab), ("math/bits.deBruijn64tab", laid_math_bits_deBruijn64tab), ("steening/shafts.none", laid_steening_shafts_none)] }
def PlacesEachSaid : Prop := placesEachRow.holds Tryz.pinned (OpenSpec.ofChange placesEachSpec)

/-- ITS FALSE NEIGHBOUR: 'it returns false'. Refute it at one input. -/
def placesEachWrong : ChangeSpec := { name := "placesEach", fn := fun _ => fun
  | [d1, d2, d3] => { results := [.lit (.bool false)], args := [d1, d2, d3] }
  | _ => none }
def PlacesEachWrongFalsely : Prop := placesEachRow.holds Tryz.pinned (OpenSpec.ofChange placesEachWrong)

/-- 'steeninglaw09.PlacesLoosen': WHATEVER THE INPUT: true; the input reads as it did. -/
def placesLoosenSpec : ChangeSpec := { name := "placesLoosen", fn := fun _ => fun
  | [d] => { results := [.lit (.bool true)], args := [d] }
  | _ => none }
def placesLoosenRow : OpenClaim := { program := "ytjpfdhhiofjpbaagreatdoor", sum := "dd37a234f7727b7365fa9ddfd1577ffa5766a27e6d409a3491f3596f8bbe9c25", func := "steening/steeninglaw09.PlacesLoosen", spec := "placesLoosen", unfollowed := true, recurses := true, named := ["math/bits.deBruijn32tab", "math/bits.deBruijn64tab", "steening/shafts.none"], apart := false, laid := [("math/bits.deBruijn32tab", laid_math_bits_deBruijn32tab), ("math/bits.deBruijn64tab", laid_math_bits_deBruijn64tab), ("steening/shafts.none", laid_steening_shafts_none)] }
def PlacesLoosenSaid : Prop := placesLoosenRow.holds Tryz.pinned (OpenSpec.ofChange placesLoosenSpec)

/-- ITS FALSE NEIGHBOUR: 'it returns false'. Refute it at one input. -/
def placesLoosenWrong : ChangeSpec := { name := "placesLoosen", fn := fun _ => fun
  | [d] => { results := [.lit (.bool false)], args := [d] }
  | _ => none }
def PlacesLoosenWrongFalsely : Prop := placesLoosenRow.holds Tryz.pinned (OpenSpec.ofChange placesLoosenWrong)

/-- 'steeninglaw09.PlacesStreet': WHATEVER THE INPUT: true; the input reads as it did. -/
def placesStreetSpec : ChangeSpec := { name := "placesStreet", fn := fun _ => fun
  | [d1, d2] => { results := [.lit (.bool true)], args := [d1, d2] }
  | _ => none }
def placesStreetRow : OpenClaim := { program := "ytjpfdhhiofjpbaagreatdoor", sum := "dd37a234f7727b7365fa9ddfd1577ffa5766a27e6d409a3491f3596f8bbe9c25", func := "steening/steeninglaw09.PlacesStreet", spec := "placesStreet", unfollowed := true, recurses := true, named := ["math/bits.deBruijn32tab", "math/bits.deBruijn64tab", "steening/shafts.none"], apart := false, laid := [("math/bits.deBruijn32tab", laid_math_bits_deBruijn32tab), ("math/bits.deBruijn64tab", laid_math_bits_deBruijn64tab), ("steening/shafts.none", laid_steening_shafts_none)] }
def PlacesStreetSaid : Prop := placesStreetRow.holds Tryz.pinned (OpenSpec.ofChange placesStreetSpec)

/-- ITS FALSE NEIGHBOUR: 'it returns false'. Refute it at one input. -/
def placesStreetWrong : ChangeSpec := { name := "placesStreet", fn := fun _ => fun
  | [d1, d2] => { results := [.lit (.bool false)], args := [d1, d2] }
  | _ => none }
def PlacesStreetWrongFalsely : Prop := placesStreetRow.holds Tryz.pinned (OpenSpec.ofChange placesStreetWrong)

/-- 'steeninglaw09.PlacesWhole': WHATEVER THE INPUT: true; the input reads as it did. -/
def placesWholeSpec : ChangeSpec := { name := "placesWhole", fn := fun _ => fun
  | [d1, d2] => { results := [.lit (.bool true)], args := [d1, d2] }
  | _ => none }
def placesWholeRow : OpenClaim := { program := "ytjpfdhhiofjpbaagreatdoor", sum := "dd37a234f7727b7365fa9ddfd1577ffa5766a27e6d409a3491f3596f8bbe9c25", func := "steening/steeninglaw09.PlacesWhole", spec := "placesWhole", unfollowed := true, recurses := true, named := ["math/bits.deBruijn32tab", "math/bits.deBruijn64tab", "steening/shafts.none"], apart := false, laid := [("math/bits.deBruijn32tab", laid_math_bits_deBruijn32tab), ("math/bits.deBruijn64tab", laid_math_bits_deBruijn64tab), ("steening/shafts.none", laid_steening_shafts_none)] }
def PlacesWholeSaid : Prop := placesWholeRow.holds Tryz.pinned (OpenSpec.ofChange placesWholeSpec)

/-- ITS FALSE NEIGHBOUR: 'it returns false'. Refute it at one input. -/
def placesWholeWrong : ChangeSpec := { name := "placesWhole", fn := fun _ => fun
  | [d1, d2] => { results := [.lit (.bool false)], args := [d1, d2] }
  | _ => none }
def PlacesWholeWrongFalsely : Prop := placesWholeRow.holds Tryz.pinned (OpenSpec.ofChange placesWholeWrong)

/-- 'steeninglaw09.PlacesMore': WHATEVER THE INPUT: true; the input reads as it did. -/
def placesMoreSpec : ChangeSpec := { name := "placesMore", fn := fun _ => fun
  | [d1, d2] => { results := [.lit (.bool true)], args := [d1, d2] }
  | _ => none }
def placesMoreRow : OpenClaim := { program := "ytjpfdhhiofjpbaagreatdoor", sum := "dd37a234f7727b7365fa9ddfd1577ffa5766a27e6d409a3491f3596f8bbe9c25", func := "steening/steeninglaw09.PlacesMore", spec := "placesMore", unfollowed := true, recurses := true, named := ["math/bits.deBruijn32tab", "math/bits.deBruijn64tab", "steening/shafts.none"], apart := false, laid := [("math/bits.deBruijn32tab", laid_math_bits_deBruijn32tab), ("math/bits.deBruijn64tab", laid_math_bits_deBruijn64tab), ("steening/shafts.none", laid_steening_shafts_none)] }
def PlacesMoreSaid : Prop := placesMoreRow.holds Tryz.pinned (OpenSpec.ofChange placesMoreSpec)

/-- ITS FALSE NEIGHBOUR: 'it returns false'. Refute it at one input. -/
def placesMoreWrong : ChangeSpec := { name := "placesMore", fn := fun _ => fun
  | [d1, d2] => { results := [.lit (.bool false)], args := [d1, d2] }
  | _ => none }
def PlacesMoreWrongFalsely : Prop := placesMoreRow.holds Tryz.pinned (OpenSpec.ofChange placesMoreWrong)

/-- 'steeninglaw09.PlacesLooser': WHATEVER THE INPUT: true; the input reads as it did. -/
def placesLooserSpec : ChangeSpec := { name := "placesLooser", fn := fun _ => fun
  | [d1, d2] => { results := [.lit (.bool true)], args := [d1, d2] }
  | _ => none }
def placesLooserRow : OpenClaim := { program := "ytjpfdhhiofjpbaagreatdoor", sum := "dd37a234f7727b7365fa9ddfd1577ffa5766a27e6d409a3491f3596f8bbe9c25", func := "steening/steeninglaw09.PlacesLooser", spec := "placesLooser", unfollowed := true, recurses := true, named := ["math/bits.deBruijn32tab", "math/bits.deBruijn64tab", "steening/shafts.none"], apart := false, laid := [("math/bits.deBruijn32tab", laid_math_bits_deBruijn32tab), ("math/bits.deBruijn64tab", laid_math_bits_deBruijn64tab), ("steening/shafts.none", laid_steening_shafts_none)] }
def PlacesLooserSaid : Prop := placesLooserRow.holds Tryz.pinned (OpenSpec.ofChange placesLooserSpec)

/-- ITS FALSE NEIGHBOUR: 'it returns false'. Refute it at one input. -/
def placesLooserWrong : ChangeSpec := { name := "placesLooser", fn := fun _ => fun
  | [d1, d2] => { results := [.lit (.bool false)], args := [d1, d2] }
  | _ => none }
def PlacesLooserWrongFalsely : Prop := placesLooserRow.holds Tryz.pinned (OpenSpec.ofChange placesLooserWrong)

/-- 'steeninglaw09.PlacesBest': WHATEVER THE INPUT: true; the input reads as it did. -/
def placesBestSpec : ChangeSpec := { name := "placesBest", fn := fun _ => fun
  | [d1, d2, d3] => { results := [.lit (.bool true)], args := [d1, d2, d3] }
  | _ => none }
def placesBestRow : OpenClaim := { program := "ytjpfdhhiofjpbaagreatdoor", sum := "dd37a234f7727b7365fa9ddfd1577ffa5766a27e6d409a3491f3596f8bbe9c25", func := "steening/steeninglaw09.PlacesBest", spec := "placesBest", unfollowed := true, recurses := true, named := ["math/bits.deBruijn32tab", "math/bits.deBruijn64tab", "steening/shafts.none"], apart := false, laid := [("math/bits.deBruijn32tab", laid_math_bits_deBruijn32tab), ("math/bits.deBruijn64tab", laid_math_bits_deBruijn64tab), ("steening/shafts.none", laid_steening_shafts_none)] }
def PlacesBestSaid : Prop := placesBestRow.holds Tryz.pinned (OpenSpec.ofChange placesBestSpec)

/-- ITS FALSE NEIGHBOUR: 'it returns false'. Refute it at one input. -/
def placesBestWrong : ChangeSpec := { name := "placesBest", fn := fun _ => fun
  | [d1, d2, d3] => { results := [.lit (.bool false)], args := [d1, d2, d3] }
  | _ => none }
def PlacesBestWrongFalsely : Prop := placesBestRow.holds Tryz.pinned (OpenSpec.ofChange placesBestWrong)

/-- 'steeninglaw09.PlacesDecide': WHATEVER THE INPUT: true; the input reads as it did. -/
def placesDecideSpec : ChangeSpec := { name := "placesDecide", fn := fun _ => fun
  | [d1, d2] => { results := [.lit (.bool true)], args := [d1, d2] }
  | _ => none }
def placesDecideRow : OpenClaim := { program := "ytjpfdhhiofjpbaagreatdoor", sum := "dd37a234f7727b7365fa9ddfd1577ffa5766a27e6d409a3491f3596f8bbe9c25", func := "steening/steeninglaw09.PlacesDecide", spec := "placesDecide", unfollowed := true, recurses := true, named := ["math/bits.deBruijn32tab", "math/bits.deBruijn64tab", "steening/shafts.none"], apart := false, laid := [("math/bits.deBruijn32tab", laid_math_bits_deBruijn32tab), ("math/bits.deBruijn64tab", laid_math_bits_deBruijn64tab), ("steening/shafts.none", laid_steening_shafts_none)] }
def PlacesDecideSaid : Prop := placesDecideRow.holds Tryz.pinned (OpenSpec.ofChange placesDecideSpec)

/-- ITS FALSE NEIGHBOUR: 'it returns false'. Refute it at one input. -/
def placesDecideWrong : ChangeSpec := { name := "placesDecide", fn := fun _ => fun
  | [d1, d2] => { results := [.lit (.bool false)], args := [d1, d2] }
  | _ => none }
def PlacesDecideWrongFalsely : Prop := placesDecideRow.holds Tryz.pinned (OpenSpec.ofChange placesDecideWrong)

/-- 'steeninglaw09.PlacesJudge': WHATEVER THE INPUT: true; the input reads as it did. -/
def placesJudgeSpec : ChangeSpec := { name := "placesJudge", fn := fun _ => fun
  | [d1, d2, d3] => { results := [.lit (.bool true)], args := [d1, d2, d3] }
  | _ => none }
def placesJudgeRow : OpenClaim := { program := "ytjpfdhhiofjpbaagreatdoor", sum := "dd37a234f7727b7365fa9ddfd1577ffa5766a27e6d409a3491f3596f8bbe9c25", func := "steening/steeninglaw09.PlacesJudge", spec := "placesJudge", unfollowed := true, recurses := true, named := ["math/bits.deBruijn32tab", "math/bits.deBruijn64tab", "steening/shafts.none"], apart := false, laid := [("math/bits.deBruijn32tab", laid_math_bits_deBruijn32tab), ("math/bits.deBruijn64tab", laid_math_bits_deBruijn64tab), ("steening/shafts.none", laid_steening_shafts_none)] }
def PlacesJudgeSaid : Prop := placesJudgeRow.holds Tryz.pinned (OpenSpec.ofChange placesJudgeSpec)

/-- ITS FALSE NEIGHBOUR: 'it returns false'. Refute it at one input. -/
def placesJudgeWrong : ChangeSpec := { name := "placesJudge", fn := fun _ => fun
  | [d1, d2, d3] => { results := [.lit (.bool false)], args := [d1, d2, d3] }
  | _ => none }
def PlacesJudgeWrongFalsely : Prop := placesJudgeRow.holds Tryz.pinned (OpenSpec.ofChange placesJudgeWrong)

/-- 'steeninglaw09.PlacesSpot': WHATEVER THE INPUT: true; the input reads as it did. -/
def placesSpotSpec : ChangeSpec := { name := "placesSpot", fn := fun _ => fun
  | [d1, d2, d3] => { results := [.lit (.bool true)], args := [d1, d2, d3] }
  | _ => none }
def placesSpotRow : OpenClaim := { program := "ytjpfdhhiofjpbaagreatdoor", sum := "dd37a234f7727b7365fa9ddfd1577ffa5766a27e6d409a3491f3596f8bbe9c25", func := "steening/steeninglaw09.PlacesSpot", spec := "placesSpot", unfollowed := true, recurses := true, named := ["math/bits.deBruijn32tab", "math/bits.deBruijn64tab", "steening/shafts.none"], apart := false, laid := [("math/bits.deBruijn32tab", laid_math_bits_deBruijn32tab), ("math/bits.deBruijn64tab", laid_math_bits_deBruijn64tab), ("steening/shafts.none", laid_steening_shafts_none)] }
def PlacesSpotSaid : Prop := placesSpotRow.holds Tryz.pinned (OpenSpec.ofChange placesSpotSpec)

/-- ITS FALSE NEIGHBOUR: 'it returns false'. Refute it at one input. -/
def placesSpotWrong : ChangeSpec := { name := "placesSpot", fn := fun _ => fun
  | [d1, d2, d3] => { results := [.lit (.bool false)], args := [d1, d2, d3] }
  | _ => none }
def PlacesSpotWrongFalsely : Prop := placesSpotRow.holds Tryz.pinned (OpenSpec.ofChange placesSpotWrong)

/-- 'steeningtop.TopDug': WHATEVER THE INPUT: true; the input reads as it did. -/
def topDugSpec : ChangeSpec := { name := "topDug", fn := fun _ => fun
  | [d1, d2, d3] => { results := [.lit (.bool true)], args := [d1, d2, d3] }
  | _ => none }
def topDugRow : OpenClaim := { program := "ytjpfdhhiofjpbaagreatdoor", sum := "dd37a234f7727b7365fa9ddfd1577ffa5766a27e6d409a3491f3596f8bbe9c25", func := "steening/steeningtop.TopDug", spec := "topDug", unfollowed := true, recurses := true, named := ["math/bits.deBruijn32tab", "math/bits.deBruijn64tab", "steening/shafts.none"], apart := false, laid := [("math/bits.deBruijn32tab", laid_math_bits_deBruijn32tab), ("math/bits.deBruijn64tab", laid_math_bits_deBruijn64tab), ("steening/shafts.none", laid_steening_shafts_none)] }
def TopDugSaid : Prop := topDugRow.holds Tryz.pinned (OpenSpec.ofChange topDugSpec)

/-- ITS FALSE NEIGHBOUR: 'it returns false'. Refute it at one input. -/
def topDugWrong : ChangeSpec := { name := "topDug", fn := fun _ => fun
  | [d1, d2, d3] => { results := [.lit (.bool false)], args := [d1, d2, d3] }
  | _ => none }
def TopDugWrongFalsely : Prop := topDugRow.holds Tryz.pinned (OpenSpec.ofChange topDugWrong)

/-- 'steeningtop.TopToldApart': WHATEVER THE INPUT: true; the input reads as it did. -/
def topToldApartSpec : ChangeSpec := { name := "topToldApart", fn := fun _ => fun
  | [d1, d2, d3] => { results := [.lit (.bool true)], args := [d1, d2, d3] }
  | _ => none }
def topToldApartRow : OpenClaim := { program := "ytjpfdhhiofjpbaagreatdoor", sum := "dd37a234f7727b7365fa9ddfd1577ffa5766a27e6d409a3491f3596f8bbe9c25", func := "steening/steeningtop.TopToldApart", spec := "topToldApart", unfollowed := true, recurses := true, named := ["math/bits.deBruijn32tab", "math/bits.deBruijn64tab", "steening/shafts.none"], apart := false, laid := [("math/bits.deBruijn32tab", laid_math_bits_deBruijn32tab), ("math/bits.deBruijn64tab", laid_math_bits_deBruijn64tab), ("steening/shafts.none", laid_steening_shafts_none)] }
def TopToldApartSaid : Prop := topToldApartRow.holds Tryz.pinned (OpenSpec.ofChange topToldApartSpec)

/-- ITS FALSE NEIGHBOUR: 'it returns false'. Refute it at one input. -/
def topToldApartWrong : ChangeSpec := { name := "topToldApart", fn := fun _ => fun
  | [d1, d2, d3] => { results := [.lit (.bool false)], args := [d1, d2, d3] }
  | _ => none }
def TopToldApartWrongFalsely : Prop := topToldApartRow.holds Tryz.pinned (OpenSpec.ofChange topToldApartWrong)

/- THE SECOND FORM. 'bulk': how many values and letters a reading holds, each counted each time it is reached (what is shared counts as often as it is met; a slice's spare places count too). A statement '..UptoSaid' is the law's where the arguments, and the package variables that the reading takes, are together of bulk at most 1048576: NARROWER than '..Said'. Prove '..Said' where nothing that the law and all that it calls make is longer than what came in: it says more and counts as full. Else prove '..UptoSaid'. A law counts once. -/
mutual
def uptoBulk {H : Type} : DataW H → Nat
  | .lit (.string bytes) => bytes.length + 1
  | .lit _ => 1
  | .nil => 1
  | .ptr d => uptoBulk d + 1
  | .slice elems spare => uptoBulkAll elems + uptoBulkAll spare + 1
  | .agg parts => uptoBulkAll parts + 1
  | .iface _ d => uptoBulk d + 1
  | .map entries => uptoBulkEntries entries + 1
  | .held _ => 1
def uptoBulkAll {H : Type} : List (DataW H) → Nat
  | [] => 0
  | d :: r => uptoBulk d + uptoBulkAll r
def uptoBulkEntries {H : Type} : List (Lit × DataW H) → Nat
  | [] => 0
  | x :: r => uptoBulkEntry x + uptoBulkEntries r
def uptoBulkEntry {H : Type} : Lit × DataW H → Nat
  | (.string bytes, d) => bytes.length + uptoBulk d + 1
  | (_, d) => uptoBulk d + 1
 end
def uptoSmall : (H : Type) → List (DataW H) → Bool := fun _ ds => decide (uptoBulkAll ds ≤ 1048576)
def OpenSpec.upto (s : _root_.Go.ChangeSpec) : _root_.Go.OpenSpec := { _root_.Go.OpenSpec.ofChange s with cond := some uptoSmall }

/-- 'steeninglaw09.PlacesNear', WHERE WHAT IT READS IS OF BULK AT MOST 1048576: true; the input reads as it did. -/
def placesNearUptoRow : OpenClaim := { program := "ytjpfdhhiofjpbaagreatdoor", sum := "dd37a234f7727b7365fa9ddfd1577ffa5766a27e6d409a3491f3596f8bbe9c25", func := "steening/steeninglaw09.PlacesNear", spec := "placesNear", unfollowed := true, recurses := true, named := ["math/bits.deBruijn32tab", "math/bits.deBruijn64tab", "steening/shafts.none"], apart := false, laid := [("math/bits.deBruijn32tab", laid_math_bits_deBruijn32tab), ("math/bits.deBruijn64tab", laid_math_bits_deBruijn64tab), ("steening/shafts.none", laid_steening_shafts_none)], narrowed := true }
def PlacesNearUptoSaid : Prop := placesNearUptoRow.holds Tryz.pinned (OpenSpec.upto placesNearSpec)

/-- 'steeninglaw09.PlacesWho', WHERE WHAT IT READS IS OF BULK AT MOST 1048576: true; the input reads as it did. -/
def placesWhoUptoRow : OpenClaim := { program := "ytjpfdhhiofjpbaagreatdoor", sum := "dd37a234f7727b7365fa9ddfd1577ffa5766a27e6d409a3491f3596f8bbe9c25", func := "steening/steeninglaw09.PlacesWho", spec := "placesWho", unfollowed := true, recurses := true, named := ["math/bits.deBruijn32tab", "math/bits.deBruijn64tab", "steening/shafts.none"], apart := false, laid := [("math/bits.deBruijn32tab", laid_math_bits_deBruijn32tab), ("math/bits.deBruijn64tab", laid_math_bits_deBruijn64tab), ("steening/shafts.none", laid_steening_shafts_none)], narrowed := true }
def PlacesWhoUptoSaid : Prop := placesWhoUptoRow.holds Tryz.pinned (OpenSpec.upto placesWhoSpec)

/-- 'steeninglaw09.PlacesFree', WHERE WHAT IT READS IS OF BULK AT MOST 1048576: true; the input reads as it did. -/
def placesFreeUptoRow : OpenClaim := { program := "ytjpfdhhiofjpbaagreatdoor", sum := "dd37a234f7727b7365fa9ddfd1577ffa5766a27e6d409a3491f3596f8bbe9c25", func := "steening/steeninglaw09.PlacesFree", spec := "placesFree", unfollowed := true, recurses := true, named := ["math/bits.deBruijn32tab", "math/bits.deBruijn64tab", "steening/shafts.none"], apart := false, laid := [("math/bits.deBruijn32tab", laid_math_bits_deBruijn32tab), ("math/bits.deBruijn64tab", laid_math_bits_deBruijn64tab), ("steening/shafts.none", laid_steening_shafts_none)], narrowed := true }
def PlacesFreeUptoSaid : Prop := placesFreeUptoRow.holds Tryz.pinned (OpenSpec.upto placesFreeSpec)

/-- 'steeninglaw09.PlacesEach', WHERE WHAT IT READS IS OF BULK AT MOST 1048576: true; the input reads as it did. -/
def placesEachUptoRow : OpenClaim := { program := "ytjpfdhhiofjpbaagreatdoor", sum := "dd37a234f7727b7365fa9ddfd1577ffa5766a27e6d409a3491f3596f8bbe9c25", func := "steening/steeninglaw09.PlacesEach", spec := "placesEach", unfollowed := true, recurses := true, named := ["math/bits.deBruijn32tab", "math/bits.deBruijn64tab", "steening/shafts.none"], apart := false, laid := [("math/bits.deBruijn32tab", laid_math_bits_deBruijn32tab), ("math/bits.deBruijn64tab", laid_math_bits_deBruijn64tab), ("steening/shafts.none", laid_steening_shafts_none)], narrowed := true }
def PlacesEachUptoSaid : Prop := placesEachUptoRow.holds Tryz.pinned (OpenSpec.upto placesEachSpec)

/-- 'steeninglaw09.PlacesLoosen', WHERE WHAT IT READS IS OF BULK AT MOST 1048576: true; the input reads as it did. -/
def placesLoosenUptoRow : OpenClaim := { program := "ytjpfdhhiofjpbaagreatdoor", sum := "dd37a234f7727b7365fa9ddfd1577ffa5766a27e6d409a3491f3596f8bbe9c25", func := "steening/steeninglaw09.PlacesLoosen", spec := "placesLoosen", unfollowed := true, recurses := true, named := ["math/bits.deBruijn32tab", "math/bits.deBruijn64tab", "steening/shafts.none"], apart := false, laid := [("math/bits.deBruijn32tab", laid_math_bits_deBruijn32tab), ("math/bits.deBruijn64tab", laid_math_bits_deBruijn64tab), ("steening/shafts.none", laid_steening_shafts_none)], narrowed := true }
def PlacesLoosenUptoSaid : Prop := placesLoosenUptoRow.holds Tryz.pinned (OpenSpec.upto placesLoosenSpec)

/-- 'steeninglaw09.PlacesStreet', WHERE WHAT IT READS IS OF BULK AT MOST 1048576: true; the input reads as it did. -/
def placesStreetUptoRow : OpenClaim := { program := "ytjpfdhhiofjpbaagreatdoor", sum := "dd37a234f7727b7365fa9ddfd1577ffa5766a27e6d409a3491f3596f8bbe9c25", func := "steening/steeninglaw09.PlacesStreet", spec := "placesStreet", unfollowed := true, recurses := true, named := ["math/bits.deBruijn32tab", "math/bits.deBruijn64tab", "steening/shafts.none"], apart := false, laid := [("math/bits.deBruijn32tab", laid_math_bits_deBruijn32tab), ("math/bits.deBruijn64tab", laid_math_bits_deBruijn64tab), ("steening/shafts.none", laid_steening_shafts_none)], narrowed := true }
def PlacesStreetUptoSaid : Prop := placesStreetUptoRow.holds Tryz.pinned (OpenSpec.upto placesStreetSpec)

/-- 'steeninglaw09.PlacesWhole', WHERE WHAT IT READS IS OF BULK AT MOST 1048576: true; the input reads as it did. -/
def placesWholeUptoRow : OpenClaim := { program := "ytjpfdhhiofjpbaagreatdoor", sum := "dd37a234f7727b7365fa9ddfd1577ffa5766a27e6d409a3491f3596f8bbe9c25", func := "steening/steeninglaw09.PlacesWhole", spec := "placesWhole", unfollowed := true, recurses := true, named := ["math/bits.deBruijn32tab", "math/bits.deBruijn64tab", "steening/shafts.none"], apart := false, laid := [("math/bits.deBruijn32tab", laid_math_bits_deBruijn32tab), ("math/bits.deBruijn64tab", laid_math_bits_deBruijn64tab), ("steening/shafts.none", laid_steening_shafts_none)], narrowed := true }
def PlacesWholeUptoSaid : Prop := placesWholeUptoRow.holds Tryz.pinned (OpenSpec.upto placesWholeSpec)

/-- 'steeninglaw09.PlacesMore', WHERE WHAT IT READS IS OF BULK AT MOST 1048576: true; the input reads as it did. -/
def placesMoreUptoRow : OpenClaim := { program := "ytjpfdhhiofjpbaagreatdoor", sum := "dd37a234f7727b7365fa9ddfd1577ffa5766a27e6d409a3491f3596f8bbe9c25", func := "steening/steeninglaw09.PlacesMore", spec := "placesMore", unfollowed := true, recurses := true, named := ["math/bits.deBruijn32tab", "math/bits.deBruijn64tab", "steening/shafts.none"], apart := false, laid := [("math/bits.deBruijn32tab", laid_math_bits_deBruijn32tab), ("math/bits.deBruijn64tab", laid_math_bits_deBruijn64tab), ("steening/shafts.none", laid_steening_shafts_none)], narrowed := true }
def PlacesMoreUptoSaid : Prop := placesMoreUptoRow.holds Tryz.pinned (OpenSpec.upto placesMoreSpec)

/-- 'steeninglaw09.PlacesLooser', WHERE WHAT IT READS IS OF BULK AT MOST 1048576: true; the input reads as it did. -/
def placesLooserUptoRow : OpenClaim := { program := "ytjpfdhhiofjpbaagreatdoor", sum := "dd37a234f7727b7365fa9ddfd1577ffa5766a27e6d409a3491f3596f8bbe9c25", func := "steening/steeninglaw09.PlacesLooser", spec := "placesLooser", unfollowed := true, recurses := true, named := ["math/bits.deBruijn32tab", "math/bits.deBruijn64tab", "steening/shafts.none"], apart := false, laid := [("math/bits.deBruijn32tab", laid_math_bits_deBruijn32tab), ("math/bits.deBruijn64tab", laid_math_bits_deBruijn64tab), ("steening/shafts.none", laid_steening_shafts_none)], narrowed := true }
def PlacesLooserUptoSaid : Prop := placesLooserUptoRow.holds Tryz.pinned (OpenSpec.upto placesLooserSpec)

/-- 'steeninglaw09.PlacesBest', WHERE WHAT IT READS IS OF BULK AT MOST 1048576: true; the input reads as it did. -/
def placesBestUptoRow : OpenClaim := { program := "ytjpfdhhiofjpbaagreatdoor", sum := "dd37a234f7727b7365fa9ddfd1577ffa5766a27e6d409a3491f3596f8bbe9c25", func := "steening/steeninglaw09.PlacesBest", spec := "placesBest", unfollowed := true, recurses := true, named := ["math/bits.deBruijn32tab", "math/bits.deBruijn64tab", "steening/shafts.none"], apart := false, laid := [("math/bits.deBruijn32tab", laid_math_bits_deBruijn32tab), ("math/bits.deBruijn64tab", laid_math_bits_deBruijn64tab), ("steening/shafts.none", laid_steening_shafts_none)], narrowed := true }
def PlacesBestUptoSaid : Prop := placesBestUptoRow.holds Tryz.pinned (OpenSpec.upto placesBestSpec)

/-- 'steeninglaw09.PlacesDecide', WHERE WHAT IT READS IS OF BULK AT MOST 1048576: true; the input reads as it did. -/
def placesDecideUptoRow : OpenClaim := { program := "ytjpfdhhiofjpbaagreatdoor", sum := "dd37a234f7727b7365fa9ddfd1577ffa5766a27e6d409a3491f3596f8bbe9c25", func := "steening/steeninglaw09.PlacesDecide", spec := "placesDecide", unfollowed := true, recurses := true, named := ["math/bits.deBruijn32tab", "math/bits.deBruijn64tab", "steening/shafts.none"], apart := false, laid := [("math/bits.deBruijn32tab", laid_math_bits_deBruijn32tab), ("math/bits.deBruijn64tab", laid_math_bits_deBruijn64tab), ("steening/shafts.none", laid_steening_shafts_none)], narrowed := true }
def PlacesDecideUptoSaid : Prop := placesDecideUptoRow.holds Tryz.pinned (OpenSpec.upto placesDecideSpec)

/-- 'steeninglaw09.PlacesJudge', WHERE WHAT IT READS IS OF BULK AT MOST 1048576: true; the input reads as it did. -/
def placesJudgeUptoRow : OpenClaim := { program := "ytjpfdhhiofjpbaagreatdoor", sum := "dd37a234f7727b7365fa9ddfd1577ffa5766a27e6d409a3491f3596f8bbe9c25", func := "steening/steeninglaw09.PlacesJudge", spec := "placesJudge", unfollowed := true, recurses := true, named := ["math/bits.deBruijn32tab", "math/bits.deBruijn64tab", "steening/shafts.none"], apart := false, laid := [("math/bits.deBruijn32tab", laid_math_bits_deBruijn32tab), ("math/bits.deBruijn64tab", laid_math_bits_deBruijn64tab), ("steening/shafts.none", laid_steening_shafts_none)], narrowed := true }
def PlacesJudgeUptoSaid : Prop := placesJudgeUptoRow.holds Tryz.pinned (OpenSpec.upto placesJudgeSpec)

/-- 'steeninglaw09.PlacesSpot', WHERE WHAT IT READS IS OF BULK AT MOST 1048576: true; the input reads as it did. -/
def placesSpotUptoRow : OpenClaim := { program := "ytjpfdhhiofjpbaagreatdoor", sum := "dd37a234f7727b7365fa9ddfd1577ffa5766a27e6d409a3491f3596f8bbe9c25", func := "steening/steeninglaw09.PlacesSpot", spec := "placesSpot", unfollowed := true, recurses := true, named := ["math/bits.deBruijn32tab", "math/bits.deBruijn64tab", "steening/shafts.none"], apart := false, laid := [("math/bits.deBruijn32tab", laid_math_bits_deBruijn32tab), ("math/bits.deBruijn64tab", laid_math_bits_deBruijn64tab), ("steening/shafts.none", laid_steening_shafts_none)], narrowed := true }
def PlacesSpotUptoSaid : Prop := placesSpotUptoRow.holds Tryz.pinned (OpenSpec.upto placesSpotSpec)

/-- 'steeningtop.TopDug', WHERE WHAT IT READS IS OF BULK AT MOST 1048576: true; the input reads as it did. -/
def topDugUptoRow : OpenClaim := { program := "ytjpfdhhiofjpbaagreatdoor", sum := "dd37a234f7727b7365fa9ddfd1577ffa5766a27e6d409a3491f3596f8bbe9c25", func := "steening/steeningtop.TopDug", spec := "topDug", unfollowed := true, recurses := true, named := ["math/bits.deBruijn32tab", "math/bits.deBruijn64tab", "steening/shafts.none"], apart := false, laid := [("math/bits.deBruijn32tab", laid_math_bits_deBruijn32tab), ("math/bits.deBruijn64tab", laid_math_bits_deBruijn64tab), ("steening/shafts.none", laid_steening_shafts_none)], narrowed := true }
def TopDugUptoSaid : Prop := topDugUptoRow.holds Tryz.pinned (OpenSpec.upto topDugSpec)

/-- 'steeningtop.TopToldApart', WHERE WHAT IT READS IS OF BULK AT MOST 1048576: true; the input reads as it did. -/
def topToldApartUptoRow : OpenClaim := { program := "ytjpfdhhiofjpbaagreatdoor", sum := "dd37a234f7727b7365fa9ddfd1577ffa5766a27e6d409a3491f3596f8bbe9c25", func := "steening/steeningtop.TopToldApart", spec := "topToldApart", unfollowed := true, recurses := true, named := ["math/bits.deBruijn32tab", "math/bits.deBruijn64tab", "steening/shafts.none"], apart := false, laid := [("math/bits.deBruijn32tab", laid_math_bits_deBruijn32tab), ("math/bits.deBruijn64tab", laid_math_bits_deBruijn64tab), ("steening/shafts.none", laid_steening_shafts_none)], narrowed := true }
def TopToldApartUptoSaid : Prop := topToldApartUptoRow.holds Tryz.pinned (OpenSpec.upto topToldApartSpec)

end Rows
end Go.Proofs.YtjpfdhhiofjpbaaGreatDoor
