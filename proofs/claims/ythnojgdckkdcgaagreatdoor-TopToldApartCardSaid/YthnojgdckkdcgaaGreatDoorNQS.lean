/- Parts joined: what all claims of this seat need. -/
import Derived.Test.YthnojgdckkdcgaaGreatDoorNQL
import Derived.Test.YthnojgdckkdcgaaGreatDoorNQA
import Derived.RegionTactic
import Derived.Test.YthnojgdckkdcgaaGreatDoorNQQ
import Derived.Test.YthnojgdckkdcgaaGreatDoorNQP
import Derived.Test.YthnojgdckkdcgaaGreatDoorNQR
import Derived.Test.YthnojgdckkdcgaaGreatDoorNQO
import Derived.Test.YthnojgdckkdcgaaGreatDoorNQM
import Derived.Test.YthnojgdckkdcgaaGreatDoorNQJ
import Derived.Test.YthnojgdckkdcgaaGreatDoorNQG
import Derived.Test.YthnojgdckkdcgaaGreatDoorNQE
set_option linter.unusedSimpArgs false
set_option linter.unusedVariables false
namespace Go.Proofs.YthnojgdckkdcgaaGreatDoor
open Go.RowKit Go.Sort
end Go.Proofs.YthnojgdckkdcgaaGreatDoor


namespace Go.Proofs.YthnojgdckkdcgaaGreatDoor
open Go.RowKit Go.Sort
end Go.Proofs.YthnojgdckkdcgaaGreatDoor


namespace Go.Proofs.YthnojgdckkdcgaaGreatDoor
open Go.RowKit Go.Sort
end Go.Proofs.YthnojgdckkdcgaaGreatDoor


namespace Go.Proofs.YthnojgdckkdcgaaGreatDoor
open Go.RowKit Go.Sort
end Go.Proofs.YthnojgdckkdcgaaGreatDoor


namespace Go.Proofs.YthnojgdckkdcgaaGreatDoor
open Go.RowKit Go.Sort
end Go.Proofs.YthnojgdckkdcgaaGreatDoor


namespace Go.Proofs.YthnojgdckkdcgaaGreatDoor
open Go.RowKit Go.Sort
end Go.Proofs.YthnojgdckkdcgaaGreatDoor


namespace Go.Proofs.YthnojgdckkdcgaaGreatDoor
open Go.RowKit Go.Sort
end Go.Proofs.YthnojgdckkdcgaaGreatDoor

namespace Go.Proofs.YthnojgdckkdcgaaGreatDoor
open Go.RowKit Go.Sort
end Go.Proofs.YthnojgdckkdcgaaGreatDoor

namespace Go.Proofs.YthnojgdckkdcgaaGreatDoor
open Go.RowKit Go.Sort
end Go.Proofs.YthnojgdckkdcgaaGreatDoor

namespace Go.Proofs.YthnojgdckkdcgaaGreatDoor
open Go.RowKit Go.Sort
end Go.Proofs.YthnojgdckkdcgaaGreatDoor

namespace Go.Proofs.YthnojgdckkdcgaaGreatDoor
open Go.RowKit Go.Sort
end Go.Proofs.YthnojgdckkdcgaaGreatDoor

namespace Go.Proofs.YthnojgdckkdcgaaGreatDoor
open Go.RowKit Go.Sort
end Go.Proofs.YthnojgdckkdcgaaGreatDoor

namespace Go.Proofs.YthnojgdckkdcgaaGreatDoor
open Go.RowKit Go.Sort Go.ChangeShapes Go.WideShapes Go.ChangeAt Go.Deep
section
variable {H : Type} {enc : TypeId × Value → H} {P : Program} {w : World} {base b0 : Nat} {r : Reach} {sp : Nat → Bool} {held : Bool}
end
end Go.Proofs.YthnojgdckkdcgaaGreatDoor

namespace Go.Proofs.YthnojgdckkdcgaaGreatDoor
open Go.RowKit Go.Sort
set_option maxHeartbeats 8000000 in
set_option maxRecDepth 100000 in
theorem dug_any (w : World) (hB : TabAt w) (hN : NoneAt w) : Calls Tryz.prog 36 #[] w fun e w' => e = .returned (.bool true) ∧ Below w.heap.size w w' := by
  have HD0 := Lib.hid (Below.refl w.heap.size w)
  have HTB0 := Lib.hid hB
  have HNA0 := Lib.hid hN
  clear hB hN
  go_enter Tryz.func36, Tryz.ntmps36
  go_wp2_with fail
  refine (example9_any _).mono ?_
  rintro e w1 ⟨⟨Aw, Ao, Ap, As, rfl, hP⟩, hb⟩
  have hB1 : Below w.heap.size w w1 := bTrans (Below.refl _ _) hb
  have HD1 := Lib.hid (bTrans HD0.out hB1)
  have HTB1 := Lib.hid (HTB0.out.mono hB1)
  have HNA1 := Lib.hid (HNA0.out.mono hB1)
  have HT1 := Lib.hid (hP)
  clear hb hB1 HD0 HTB0 HNA0
  clear hP
  go_wp2_with fail
  refine (example5_any _).mono ?_
  rintro e w2 ⟨⟨Ew, ew, Ef, ef, Gw, gw, rfl, hE, hG⟩, hb⟩
  have hB2 : Below w1.heap.size w1 w2 := bTrans (bAlloc (Below.refl _ _) (.cells #[.int .i64 2, .slice Aw 2 2, .slice none 0 0, .slice Ao 2 2, .slice Ap 2 2, .slice As 3 3, .int .i64 8, .int .i64 6, .int .i64 3] 62)) hb
  have HD2 := Lib.hid (bTrans HD1.out hB2)
  have HTB2 := Lib.hid (HTB1.out.mono hB2)
  have HNA2 := Lib.hid (HNA1.out.mono hB2)
  have HT2 := Lib.hid (HT1.out.mono hB2)
  have HG2 := Lib.hid (hG)
  have T2 := Lib.hid (show TBox w2 w1.heap.size 62 #[.int .i64 2, .slice Aw 2 2, .slice none 0 0, .slice Ao 2 2, .slice Ap 2 2, .slice As 3 3, .int .i64 8, .int .i64 6, .int .i64 3] from by have := ((TBox.new w1 #[.int .i64 2, .slice Aw 2 2, .slice none 0 0, .slice Ao 2 2, .slice Ap 2 2, .slice As 3 3, .int .i64 8, .int .i64 6, .int .i64 3] 62).mono (Below.refl _ _)).mono hb; simpa using this)
  clear hb hB2 HD1 HTB1 HNA1 HT1
  obtain ⟨T_0, T_1, T_2, T_3, T_4, T_5, T_6, T_7, T_8, T_l⟩ := T2.out.c9
  clear hE hG
  go_wp2_with fail
  refine ((by have := pricesP_any Aw none Ao Ap As 2 0 2 2 3 exP 2 ((w2.alloc (.cells #[.int .i64 2, .slice Ew 3 ew, .slice Ef 1 ef] 25)).alloc (.cells #[.int .i64 2, .slice Gw 3 gw, .slice none 0 0] 25)) exP_small (HT2.out.mono (bAlloc (bAlloc (Below.refl _ _) (.cells #[.int .i64 2, .slice Ew 3 ew, .slice Ef 1 ef] 25)) (.cells #[.int .i64 2, .slice Gw 3 gw, .slice none 0 0] 25))) (HTB2.out.mono (bAlloc (bAlloc (Below.refl _ _) (.cells #[.int .i64 2, .slice Ew 3 ew, .slice Ef 1 ef] 25)) (.cells #[.int .i64 2, .slice Gw 3 gw, .slice none 0 0] 25))) (HNA2.out.mono (bAlloc (bAlloc (Below.refl _ _) (.cells #[.int .i64 2, .slice Ew 3 ew, .slice Ef 1 ef] 25)) (.cells #[.int .i64 2, .slice Gw 3 gw, .slice none 0 0] 25))); rw [exP_price] at this; exact this : Calls Tryz.prog 39 #[.agg #[.int .i64 2, .slice Aw 2 2, .slice none 0 0, .slice Ao 2 2, .slice Ap 2 2, .slice As 3 3, .int .i64 8, .int .i64 6, .int .i64 3], .int .i64 2] ((w2.alloc (.cells #[.int .i64 2, .slice Ew 3 ew, .slice Ef 1 ef] 25)).alloc (.cells #[.int .i64 2, .slice Gw 3 gw, .slice none 0 0] 25)) fun e w' => e = .returned (.tuple #[.int .i64 34, .int .i64 0]) ∧ Below ((w2.alloc (.cells #[.int .i64 2, .slice Ew 3 ew, .slice Ef 1 ef] 25)).alloc (.cells #[.int .i64 2, .slice Gw 3 gw, .slice none 0 0] 25)).heap.size ((w2.alloc (.cells #[.int .i64 2, .slice Ew 3 ew, .slice Ef 1 ef] 25)).alloc (.cells #[.int .i64 2, .slice Gw 3 gw, .slice none 0 0] 25)) w')).mono ?_
  rintro e w3 ⟨rfl, hb⟩
  have hB3 : Below w2.heap.size w2 w3 := bTrans (bAlloc (bAlloc (Below.refl _ _) (.cells #[.int .i64 2, .slice Ew 3 ew, .slice Ef 1 ef] 25)) (.cells #[.int .i64 2, .slice Gw 3 gw, .slice none 0 0] 25)) hb
  have HD3 := Lib.hid (bTrans HD2.out hB3)
  have HTB3 := Lib.hid (HTB2.out.mono hB3)
  have HNA3 := Lib.hid (HNA2.out.mono hB3)
  have HT3 := Lib.hid (HT2.out.mono hB3)
  have HG3 := Lib.hid (HG2.out.mono hB3)
  have T3 := Lib.hid (T2.out.mono hB3)
  have E3 := Lib.hid (show TBox w3 w2.heap.size 25 #[.int .i64 2, .slice Ew 3 ew, .slice Ef 1 ef] from by have := ((TBox.new w2 #[.int .i64 2, .slice Ew 3 ew, .slice Ef 1 ef] 25).mono (bAlloc (Below.refl _ _) (.cells #[.int .i64 2, .slice Gw 3 gw, .slice none 0 0] 25))).mono hb; simpa using this)
  have G3 := Lib.hid (show TBox w3 (w2.heap.size + 1) 25 #[.int .i64 2, .slice Gw 3 gw, .slice none 0 0] from by have := ((TBox.new (w2.alloc (.cells #[.int .i64 2, .slice Ew 3 ew, .slice Ef 1 ef] 25)) #[.int .i64 2, .slice Gw 3 gw, .slice none 0 0] 25).mono (Below.refl _ _)).mono hb; simpa using this)
  clear hb hB3 HD2 HTB2 HNA2 HT2 HG2 T2 T_0 T_1 T_2 T_3 T_4 T_5 T_6 T_7 T_8 T_l
  obtain ⟨T_0, T_1, T_2, T_3, T_4, T_5, T_6, T_7, T_8, T_l⟩ := T3.out.c9
  obtain ⟨E_0, E_1, E_2, E_l⟩ := E3.out.c3
  obtain ⟨G_0, G_1, G_2, G_l⟩ := G3.out.c3
  obtain ⟨b, o, Ar, Af2, Ax, cr, cf2, cx, hA, hb7, hsh, _, s0, s1, s2, s3, s4, s5, s6⟩ := HT3.out.spots.get (show 0 < exP.ns by decide)
  have hxs := exP_small.spot 0 (by decide)
  have hch : (exP.spot 0).sh.cheapOut = (17, 0) := exP_cheap0
  obtain ⟨x, hxx⟩ : ∃ x, exP.spot 0 = x := ⟨_, rfl⟩
  rw [hxx] at s0 s1 s2 s3 s4 s5 s6 hsh hxs hch
  have HSH3 := Lib.hid hsh
  have HXS := Lib.hid hxs
  have HCH := Lib.hid hch
  simp only [Nat.zero_mul, Nat.add_zero] at s0 s1 s2 s3 s4 s5 s6
  subst hA
  clear hsh hxs hch hxx
  go_wp2_with fail
  refine ((by have := Cheap_any Ar Af2 cr cf2 x.sh w3 HXS.out.nr HXS.out.nf HSH3.out HNA3.out; rw [HCH.out] at this; exact this : Calls Tryz.prog 91 #[.agg #[.slice Ar x.sh.nr cr, .slice Af2 x.sh.nf cf2, .int .i64 x.sh.deep, .int .i64 x.sh.haul, .int .i64 x.sh.rest]] w3 fun e w' => e = .returned (.tuple #[.int .i64 17, .int .i64 0]) ∧ Below w3.heap.size w3 w')).mono ?_
  rintro e w4 ⟨rfl, hb⟩
  have hB4 : Below w3.heap.size w3 w4 := bTrans (Below.refl _ _) hb
  have HD4 := Lib.hid (bTrans HD3.out hB4)
  have HTB4 := Lib.hid (HTB3.out.mono hB4)
  have HNA4 := Lib.hid (HNA3.out.mono hB4)
  have HT4 := Lib.hid (HT3.out.mono hB4)
  have HG4 := Lib.hid (HG3.out.mono hB4)
  have HSH4 := Lib.hid (HSH3.out.mono hB4)
  have T4 := Lib.hid (T3.out.mono hB4)
  have E4 := Lib.hid (E3.out.mono hB4)
  have G4 := Lib.hid (G3.out.mono hB4)
  clear hb hB4 HD3 HTB3 HNA3 HT3 HG3 HSH3 T3 T_0 T_1 T_2 T_3 T_4 T_5 T_6 T_7 T_8 T_l E3 E_0 E_1 E_2 E_l G3 G_0 G_1 G_2 G_l
  obtain ⟨T_0, T_1, T_2, T_3, T_4, T_5, T_6, T_7, T_8, T_l⟩ := T4.out.c9
  obtain ⟨E_0, E_1, E_2, E_l⟩ := E4.out.c3
  obtain ⟨G_0, G_1, G_2, G_l⟩ := G4.out.c3
  clear s0 s1 s2 s3 s4 s5 s6 hb7
  go_wp2_with fail
  refine ((by have := fewestQ_any Gw none gw 0 exG w4 exG_small HG4.out HTB4.out; rw [exG_know, ex_fewest] at this; exact this : Calls Tryz.prog 43 #[.agg #[.int .i64 2, .slice Gw 3 gw, .slice none 0 0]] w4 fun e w' => LstOut w' 0 [(1, 0)] e ∧ Below w4.heap.size w4 w')).mono ?_
  rintro e w5 ⟨ho, hb⟩
  obtain ⟨A7, c7, rfl, hl7⟩ := ho.1 rfl
  have hB5 : Below w4.heap.size w4 w5 := bTrans (Below.refl _ _) hb
  have HD5 := Lib.hid (bTrans HD4.out hB5)
  have HTB5 := Lib.hid (HTB4.out.mono hB5)
  have HNA5 := Lib.hid (HNA4.out.mono hB5)
  have HT5 := Lib.hid (HT4.out.mono hB5)
  have HG5 := Lib.hid (HG4.out.mono hB5)
  have HSH5 := Lib.hid (HSH4.out.mono hB5)
  have HL5 := Lib.hid (hl7.row)
  have T5 := Lib.hid (T4.out.mono hB5)
  have E5 := Lib.hid (E4.out.mono hB5)
  have G5 := Lib.hid (G4.out.mono hB5)
  clear hb hB5 HD4 HTB4 HNA4 HT4 HG4 HSH4 T4 T_0 T_1 T_2 T_3 T_4 T_5 T_6 T_7 T_8 T_l E4 E_0 E_1 E_2 E_l G4 G_0 G_1 G_2 G_l
  obtain ⟨T_0, T_1, T_2, T_3, T_4, T_5, T_6, T_7, T_8, T_l⟩ := T5.out.c9
  obtain ⟨E_0, E_1, E_2, E_l⟩ := E5.out.c3
  obtain ⟨G_0, G_1, G_2, G_l⟩ := G5.out.c3
  clear ho hl7
  go_wp2_with fail
  have hr9 : RowAt (w5.alloc (.cells #[.int .i64 1, .int .i64 0] 93)) (some ⟨w5.heap.size, 0, none⟩) (tstE.cells [(1, 0)]) := .inr ⟨_, 0, rfl, by simp, fun j v hj => by
    match j, hj with
    | 0, hj => have : Value.int .i64 1 = v := by simpa [tstE, Elem.cells] using hj
               subst this; simp [go_sem]
    | 1, hj => have : Value.int .i64 0 = v := by simpa [tstE, Elem.cells] using hj
               subst this; simp [go_sem]
    | n + 2, hj => simp [tstE, Elem.cells] at hj⟩
  have HR9 := Lib.hid hr9
  clear hr9
  refine ((by have := sameTests_any A7 (some ⟨w5.heap.size, 0, none⟩) c7 1 [(1, 0)] [(1, 0)] (w5.alloc (.cells #[.int .i64 1, .int .i64 0] 93)) (by decide) (by decide) (HL5.out.mono (bAlloc (Below.refl _ _) (.cells #[.int .i64 1, .int .i64 0] 93))) HR9.out; exact this : Calls Tryz.prog 92 #[.slice A7 1 c7, .slice (some ⟨w5.heap.size, 0, none⟩) 1 1] (w5.alloc (.cells #[.int .i64 1, .int .i64 0] 93)) fun e w' => e = .returned (.bool true) ∧ Below (w5.alloc (.cells #[.int .i64 1, .int .i64 0] 93)).heap.size (w5.alloc (.cells #[.int .i64 1, .int .i64 0] 93)) w')).mono ?_
  rintro e w6 ⟨rfl, hb⟩
  have hB6 : Below w5.heap.size w5 w6 := bTrans (bAlloc (Below.refl _ _) (.cells #[.int .i64 1, .int .i64 0] 93)) hb
  have HD6 := Lib.hid (bTrans HD5.out hB6)
  have HTB6 := Lib.hid (HTB5.out.mono hB6)
  have HNA6 := Lib.hid (HNA5.out.mono hB6)
  have HT6 := Lib.hid (HT5.out.mono hB6)
  have HG6 := Lib.hid (HG5.out.mono hB6)
  have HSH6 := Lib.hid (HSH5.out.mono hB6)
  have HL6 := Lib.hid (HL5.out.mono hB6)
  have T6 := Lib.hid (T5.out.mono hB6)
  have E6 := Lib.hid (E5.out.mono hB6)
  have G6 := Lib.hid (G5.out.mono hB6)
  have Y6 := Lib.hid (show TBox w6 w5.heap.size 93 #[.int .i64 1, .int .i64 0] from by have := ((TBox.new w5 #[.int .i64 1, .int .i64 0] 93).mono (Below.refl _ _)).mono hb; simpa using this)
  clear hb hB6 HD5 HTB5 HNA5 HT5 HG5 HSH5 HL5 T5 T_0 T_1 T_2 T_3 T_4 T_5 T_6 T_7 T_8 T_l E5 E_0 E_1 E_2 E_l G5 G_0 G_1 G_2 G_l
  obtain ⟨T_0, T_1, T_2, T_3, T_4, T_5, T_6, T_7, T_8, T_l⟩ := T6.out.c9
  obtain ⟨E_0, E_1, E_2, E_l⟩ := E6.out.c3
  obtain ⟨G_0, G_1, G_2, G_l⟩ := G6.out.c3
  obtain ⟨Y_0, Y_1, Y_l⟩ := Y6.out.c2
  go_wp2_with fail
  go_ret
  exact ⟨rfl, HD6.out⟩
end Go.Proofs.YthnojgdckkdcgaaGreatDoor

namespace Go.Proofs.YthnojgdckkdcgaaGreatDoor
open Go.RowKit Go.Sort
end Go.Proofs.YthnojgdckkdcgaaGreatDoor

namespace Go.Proofs.YthnojgdckkdcgaaGreatDoor
open Go.RowKit Go.Sort
end Go.Proofs.YthnojgdckkdcgaaGreatDoor

namespace Go.Proofs.YthnojgdckkdcgaaGreatDoor
open Go.RowKit Go.Sort
end Go.Proofs.YthnojgdckkdcgaaGreatDoor

namespace Go.Proofs.YthnojgdckkdcgaaGreatDoor
open Go.RowKit Go.Sort
end Go.Proofs.YthnojgdckkdcgaaGreatDoor

namespace Go.Proofs.YthnojgdckkdcgaaGreatDoor
open Go.RowKit Go.Sort
end Go.Proofs.YthnojgdckkdcgaaGreatDoor

namespace Go.Proofs.YthnojgdckkdcgaaGreatDoor
open Go.RowKit Go.Sort
end Go.Proofs.YthnojgdckkdcgaaGreatDoor

namespace Go.Proofs.YthnojgdckkdcgaaGreatDoor
open Go.RowKit Go.Sort
end Go.Proofs.YthnojgdckkdcgaaGreatDoor

namespace Go.Proofs.YthnojgdckkdcgaaGreatDoor
open Go.RowKit Go.Sort
end Go.Proofs.YthnojgdckkdcgaaGreatDoor

namespace Go.Proofs.YthnojgdckkdcgaaGreatDoor
open Go.RowKit Go.Sort
end Go.Proofs.YthnojgdckkdcgaaGreatDoor

