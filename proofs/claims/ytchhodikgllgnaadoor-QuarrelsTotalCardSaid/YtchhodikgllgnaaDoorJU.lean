/- Parts joined. -/
import Derived.Test.YtchhodikgllgnaaDoorJS
import Derived.Test.YtchhodikgllgnaaDoorJL
import Derived.Test.YtchhodikgllgnaaDoorJH
import Derived.Test.YtchhodikgllgnaaDoorJT
set_option linter.unusedSimpArgs false
set_option linter.unusedVariables false
/- The statement QuarrelsTotal: the walk. Conditions: what is read fits into memory; the listed table holds what it holds. -/
namespace Go.Proofs.YtchhodikgllgnaaDoor
open Go.RowKit Go.Sort
set_option maxHeartbeats 8000000 in
set_option maxRecDepth 100000 in
theorem quarrelsTotal_any (Aw Af : Option Addr) (cw cf : Nat) (t : Qt) (Ad : Option Addr) (nd cd : Nat) (g : Nat → Int) (q : Int) (w : World) (hf : t.Fits) (hT : QAt w Aw Af t) (hB : TabAt w) (hI : IntsAt w Ad nd g) (hN : nd * 8 ≤ 140737488351232) :
    Calls Tryd.prog 10 #[.agg #[.int .i64 t.wells, .slice Aw t.nw cw, .slice Af t.nf cf], .slice Ad nd cd, .int .i64 q] w fun e w' => e = .returned (.bool true) ∧ Below w.heap.size w w' := by
  have HT0 := Lib.hid hT
  have HTB0 := Lib.hid hB
  have HD0 := Lib.hid (Below.refl w.heap.size w)
  have HS := Lib.hid hf.small
  have HF := Lib.hid hf
  have HI0 := Lib.hid hI
  clear hT hB hf hI
  go_enter Tryd.func10, Tryd.ntmps10
  go_wp2_with fail
  have HN := Lib.hid hN
  clear hN
  refine (huge_any _ _ _ _ t _ HS.out (HT0.out.mono (bAlloc (Below.refl _ _) (.cells #[.int .i64 t.wells, .slice Aw t.nw cw, .slice Af t.nf cf] 25)))).mono ?_
  rintro e w1 ⟨rfl, hb⟩
  have hB1 : Below w.heap.size w w1 := bTrans (bAlloc (Below.refl _ _) (.cells #[.int .i64 t.wells, .slice Aw t.nw cw, .slice Af t.nf cf] 25)) hb
  have HD1 := Lib.hid (bTrans HD0.out hB1)
  have HT1 := Lib.hid (HT0.out.mono hB1)
  have HTB1 := Lib.hid (HTB0.out.mono hB1)
  have HI1 := Lib.hid (HI0.out.mono hB1)
  have T1 := Lib.hid (show TBox w1 w.heap.size 25 #[.int .i64 t.wells, .slice Aw t.nw cw, .slice Af t.nf cf] from by have := ((TBox.new w #[.int .i64 t.wells, .slice Aw t.nw cw, .slice Af t.nf cf] 25).mono (Below.refl _ _)).mono hb; simpa using this)
  clear hb hB1 HD0 HT0 HTB0 HI0
  obtain ⟨T_0, T_1, T_2, T_l⟩ := T1.out.c3
  cases t.huge
  case true =>
    go_wp2_with fail
    refine (works5_any _ HTB1.out).mono ?_
    rintro e w99 ⟨rfl, hb99⟩
    go_wp2_with fail
    go_ret
    exact ⟨rfl, bTrans HD1.out hb99⟩
  by_cases h40 : (nd : Int) > 40
  case pos =>
    go_wp2_with fail
    refine (works5_any _ HTB1.out).mono ?_
    rintro e w99 ⟨rfl, hb99⟩
    go_wp2_with fail
    go_ret
    exact ⟨rfl, bTrans HD1.out hb99⟩
  go_wp2_with fail
  refine (copy5_any _ _ _ _ t _ HF.out HT1.out).mono ?_
  rintro e w2 ⟨⟨vW, vF, rfl, hc⟩, hb⟩
  obtain ⟨Bw, dw, Bf, df, rfl, rfl, hq⟩ := hc.qat
  have hB2 : Below w1.heap.size w1 w2 := bTrans (Below.refl _ _) hb
  have HD2 := Lib.hid (bTrans HD1.out hB2)
  have HT2 := Lib.hid (HT1.out.mono hB2)
  have HTB2 := Lib.hid (HTB1.out.mono hB2)
  have HI2 := Lib.hid (HI1.out.mono hB2)
  have HQ2 := Lib.hid (hq)
  have T2 := Lib.hid (T1.out.mono hB2)
  clear hb hB2 HD1 HT1 HTB1 HI1 T1 T_0 T_1 T_2 T_l
  obtain ⟨T_0, T_1, T_2, T_l⟩ := T2.out.c3
  clear hc hq
  go_wp2_with (at_builtin; refine wpList_copyI _ rfl (Operand.tmp 27) (Operand.tmp 28) rfl w2.heap.size Ad nd cd g rfl rfl ?q1 HN.out w2.heap.size ?q2 ?q3 ?_)
  case q1 => exact (HI2.out.mono (bAlloc (Below.refl _ _) (.cells #[] 3)))
  case q2 => first | exact Nat.le_refl _ | simp
  case q3 => exact owns_empty _ _ _ _ rfl
  intro gd kd w3 hb hown
  have hb := (show Below (w2.alloc (.cells #[] 3)).heap.size (w2.alloc (.cells #[] 3)) w3 by simpa using hb)
  obtain ⟨A9, c9, e9, h9, _⟩ := intsAt_own hown
  simp only [Value.slice.injEq] at e9
  obtain ⟨rfl, _, rfl⟩ := e9
  have hB3 : Below w2.heap.size w2 w3 := bTrans (bAlloc (Below.refl _ _) (.cells #[] 3)) hb
  have HD3 := Lib.hid (bTrans HD2.out hB3)
  have HT3 := Lib.hid (HT2.out.mono hB3)
  have HTB3 := Lib.hid (HTB2.out.mono hB3)
  have HI3 := Lib.hid (HI2.out.mono hB3)
  have HQ3 := Lib.hid (HQ2.out.mono hB3)
  have HJ3 := Lib.hid (h9)
  have T3 := Lib.hid (T2.out.mono hB3)
  clear hb hB3 HD2 HT2 HTB2 HI2 HQ2 T2 T_0 T_1 T_2 T_l
  obtain ⟨T_0, T_1, T_2, T_l⟩ := T3.out.c3
  clear hown h9
  go_wp2_with fail
  refine (totalQ_any Bw Bf (some ⟨gd, 0, none⟩) dw df kd nd t g q _ (by have := HN.out; omega) (HJ3.out.mono (bAlloc (Below.refl _ _) (.cells #[.int .i64 t.wells, .slice Bw t.nw dw, .slice Bf t.nf df] 25))) HS.out (HQ3.out.mono (bAlloc (Below.refl _ _) (.cells #[.int .i64 t.wells, .slice Bw t.nw dw, .slice Bf t.nf df] 25))) (HTB3.out.mono (bAlloc (Below.refl _ _) (.cells #[.int .i64 t.wells, .slice Bw t.nw dw, .slice Bf t.nf df] 25)))).mono ?_
  rintro e w4 ⟨rfl, hb⟩
  have hB4 : Below w3.heap.size w3 w4 := bTrans (bAlloc (Below.refl _ _) (.cells #[.int .i64 t.wells, .slice Bw t.nw dw, .slice Bf t.nf df] 25)) hb
  have HD4 := Lib.hid (bTrans HD3.out hB4)
  have HT4 := Lib.hid (HT3.out.mono hB4)
  have HTB4 := Lib.hid (HTB3.out.mono hB4)
  have HI4 := Lib.hid (HI3.out.mono hB4)
  have HQ4 := Lib.hid (HQ3.out.mono hB4)
  have HJ4 := Lib.hid (HJ3.out.mono hB4)
  have T4 := Lib.hid (T3.out.mono hB4)
  have O4 := Lib.hid (show TBox w4 w3.heap.size 25 #[.int .i64 t.wells, .slice Bw t.nw dw, .slice Bf t.nf df] from by have := ((TBox.new w3 #[.int .i64 t.wells, .slice Bw t.nw dw, .slice Bf t.nf df] 25).mono (Below.refl _ _)).mono hb; simpa using this)
  clear hb hB4 HD3 HT3 HTB3 HI3 HQ3 HJ3 T3 T_0 T_1 T_2 T_l
  obtain ⟨T_0, T_1, T_2, T_l⟩ := T4.out.c3
  obtain ⟨O_0, O_1, O_2, O_l⟩ := O4.out.c3
  obtain ⟨b1, hb1⟩ : ∃ v, (t.totalV nd g q).1 = v := ⟨_, rfl⟩
  obtain ⟨b2, hb2⟩ : ∃ v, (t.totalV nd g q).2 = v := ⟨_, rfl⟩
  rw [hb1, hb2]
  obtain ⟨er, her⟩ : ∃ v, t.knowErr (t.drawsB nd g && t.wellB q) = v := ⟨_, rfl⟩
  rw [her]
  have HV := Lib.hid (And.intro hb1 (And.intro hb2 her))
  clear hb1 hb2 her
  go_wp2_with fail
  refine (total5_any Aw Af Ad cw cf cd nd t g q _ (by have := HN.out; omega) (HI4.out.mono (bAlloc (Below.refl _ _) (.cells #[.int .i64 b1, .int .i64 b2] 47))) HS.out (HT4.out.mono (bAlloc (Below.refl _ _) (.cells #[.int .i64 b1, .int .i64 b2] 47)))).mono ?_
  rintro e w5 ⟨rfl, hb⟩
  rw [HV.out.1, HV.out.2.1, HV.out.2.2]
  have hB5 : Below w4.heap.size w4 w5 := bTrans (bAlloc (Below.refl _ _) (.cells #[.int .i64 b1, .int .i64 b2] 47)) hb
  have HD5 := Lib.hid (bTrans HD4.out hB5)
  have HT5 := Lib.hid (HT4.out.mono hB5)
  have HTB5 := Lib.hid (HTB4.out.mono hB5)
  have HI5 := Lib.hid (HI4.out.mono hB5)
  have HQ5 := Lib.hid (HQ4.out.mono hB5)
  have HJ5 := Lib.hid (HJ4.out.mono hB5)
  have T5 := Lib.hid (T4.out.mono hB5)
  have O5 := Lib.hid (O4.out.mono hB5)
  have S15 := Lib.hid (show TBox w5 w4.heap.size 47 #[.int .i64 b1, .int .i64 b2] from by have := ((TBox.new w4 #[.int .i64 b1, .int .i64 b2] 47).mono (Below.refl _ _)).mono hb; simpa using this)
  clear hb hB5 HD4 HT4 HTB4 HI4 HQ4 HJ4 T4 T_0 T_1 T_2 T_l O4 O_0 O_1 O_2 O_l
  obtain ⟨T_0, T_1, T_2, T_l⟩ := T5.out.c3
  obtain ⟨O_0, O_1, O_2, O_l⟩ := O5.out.c3
  obtain ⟨S1_0, S1_1, S1_l⟩ := S15.out.c2
  go_wp2_with fail
  refine (blameQ_any Bw Bf (some ⟨gd, 0, none⟩) dw df kd nd t g q _ HS.out (HQ5.out.mono (bAlloc (Below.refl _ _) (.cells #[.int .i64 b1, .int .i64 b2] 47))) (HTB5.out.mono (bAlloc (Below.refl _ _) (.cells #[.int .i64 b1, .int .i64 b2] 47))) (by have := HN.out; omega) (HJ5.out.mono (bAlloc (Below.refl _ _) (.cells #[.int .i64 b1, .int .i64 b2] 47)))).mono ?_
  rintro e w6 ⟨rfl, hb⟩
  have hB6 : Below w5.heap.size w5 w6 := bTrans (bAlloc (Below.refl _ _) (.cells #[.int .i64 b1, .int .i64 b2] 47)) hb
  have HD6 := Lib.hid (bTrans HD5.out hB6)
  have HT6 := Lib.hid (HT5.out.mono hB6)
  have HTB6 := Lib.hid (HTB5.out.mono hB6)
  have HI6 := Lib.hid (HI5.out.mono hB6)
  have HQ6 := Lib.hid (HQ5.out.mono hB6)
  have HJ6 := Lib.hid (HJ5.out.mono hB6)
  have T6 := Lib.hid (T5.out.mono hB6)
  have O6 := Lib.hid (O5.out.mono hB6)
  have S16 := Lib.hid (S15.out.mono hB6)
  have S26 := Lib.hid (show TBox w6 w5.heap.size 47 #[.int .i64 b1, .int .i64 b2] from by have := ((TBox.new w5 #[.int .i64 b1, .int .i64 b2] 47).mono (Below.refl _ _)).mono hb; simpa using this)
  clear hb hB6 HD5 HT5 HTB5 HI5 HQ5 HJ5 T5 T_0 T_1 T_2 T_l O5 O_0 O_1 O_2 O_l S15 S1_0 S1_1 S1_l
  obtain ⟨T_0, T_1, T_2, T_l⟩ := T6.out.c3
  obtain ⟨O_0, O_1, O_2, O_l⟩ := O6.out.c3
  obtain ⟨S1_0, S1_1, S1_l⟩ := S16.out.c2
  obtain ⟨S2_0, S2_1, S2_l⟩ := S26.out.c2
  obtain ⟨u1, hu1⟩ : ∃ v, (t.blameOut nd g q).1 = v := ⟨_, rfl⟩
  obtain ⟨u2, hu2⟩ : ∃ v, (t.blameOut nd g q).2 = v := ⟨_, rfl⟩
  rw [hu1, hu2]
  have HU := Lib.hid (And.intro hu1 hu2)
  clear hu1 hu2
  go_wp2_with fail
  refine (blame5_any Aw Af Ad cw cf cd nd t g q _ HS.out HT6.out (by have := HN.out; omega) HI6.out).mono ?_
  rintro e w7 ⟨rfl, hb⟩
  rw [HU.out.1, HU.out.2]
  have hB7 : Below w6.heap.size w6 w7 := bTrans (Below.refl _ _) hb
  have HD7 := Lib.hid (bTrans HD6.out hB7)
  have HT7 := Lib.hid (HT6.out.mono hB7)
  have HTB7 := Lib.hid (HTB6.out.mono hB7)
  have HI7 := Lib.hid (HI6.out.mono hB7)
  have HQ7 := Lib.hid (HQ6.out.mono hB7)
  have HJ7 := Lib.hid (HJ6.out.mono hB7)
  have T7 := Lib.hid (T6.out.mono hB7)
  have O7 := Lib.hid (O6.out.mono hB7)
  have S17 := Lib.hid (S16.out.mono hB7)
  have S27 := Lib.hid (S26.out.mono hB7)
  clear hb hB7 HD6 HT6 HTB6 HI6 HQ6 HJ6 T6 T_0 T_1 T_2 T_l O6 O_0 O_1 O_2 O_l S16 S1_0 S1_1 S1_l S26 S2_0 S2_1 S2_l
  obtain ⟨T_0, T_1, T_2, T_l⟩ := T7.out.c3
  obtain ⟨O_0, O_1, O_2, O_l⟩ := O7.out.c3
  obtain ⟨S1_0, S1_1, S1_l⟩ := S17.out.c2
  obtain ⟨S2_0, S2_1, S2_l⟩ := S27.out.c2
  go_wp2_with fail
  refine (same5_any Bw Bf Aw Af dw df cw cf t _ HS.out HQ7.out HT7.out).mono ?_
  rintro e w8 ⟨rfl, hb⟩
  have hB8 : Below w7.heap.size w7 w8 := bTrans (Below.refl _ _) hb
  have HD8 := Lib.hid (bTrans HD7.out hB8)
  have HT8 := Lib.hid (HT7.out.mono hB8)
  have HTB8 := Lib.hid (HTB7.out.mono hB8)
  have HI8 := Lib.hid (HI7.out.mono hB8)
  have HQ8 := Lib.hid (HQ7.out.mono hB8)
  have HJ8 := Lib.hid (HJ7.out.mono hB8)
  have T8 := Lib.hid (T7.out.mono hB8)
  have O8 := Lib.hid (O7.out.mono hB8)
  have S18 := Lib.hid (S17.out.mono hB8)
  have S28 := Lib.hid (S27.out.mono hB8)
  clear hb hB8 HD7 HT7 HTB7 HI7 HQ7 HJ7 T7 T_0 T_1 T_2 T_l O7 O_0 O_1 O_2 O_l S17 S1_0 S1_1 S1_l S27 S2_0 S2_1 S2_l
  obtain ⟨T_0, T_1, T_2, T_l⟩ := T8.out.c3
  obtain ⟨O_0, O_1, O_2, O_l⟩ := O8.out.c3
  obtain ⟨S1_0, S1_1, S1_l⟩ := S18.out.c2
  obtain ⟨S2_0, S2_1, S2_l⟩ := S28.out.c2
  go_wp2_with fail
  refine (sameInts_same (some ⟨gd, 0, none⟩) Ad nd kd cd g _ (by have := HN.out; omega) HJ8.out HI8.out).mono ?_
  rintro e w9 ⟨rfl, hb⟩
  have hB9 : Below w8.heap.size w8 w9 := bTrans (Below.refl _ _) hb
  have HD9 := Lib.hid (bTrans HD8.out hB9)
  have HT9 := Lib.hid (HT8.out.mono hB9)
  have HTB9 := Lib.hid (HTB8.out.mono hB9)
  have HI9 := Lib.hid (HI8.out.mono hB9)
  have HQ9 := Lib.hid (HQ8.out.mono hB9)
  have HJ9 := Lib.hid (HJ8.out.mono hB9)
  have T9 := Lib.hid (T8.out.mono hB9)
  have O9 := Lib.hid (O8.out.mono hB9)
  have S19 := Lib.hid (S18.out.mono hB9)
  have S29 := Lib.hid (S28.out.mono hB9)
  clear hb hB9 HD8 HT8 HTB8 HI8 HQ8 HJ8 T8 T_0 T_1 T_2 T_l O8 O_0 O_1 O_2 O_l S18 S1_0 S1_1 S1_l S28 S2_0 S2_1 S2_l
  obtain ⟨T_0, T_1, T_2, T_l⟩ := T9.out.c3
  obtain ⟨O_0, O_1, O_2, O_l⟩ := O9.out.c3
  obtain ⟨S1_0, S1_1, S1_l⟩ := S19.out.c2
  obtain ⟨S2_0, S2_1, S2_l⟩ := S29.out.c2
  go_wp2_with fail
  refine (works5_any _ HTB9.out).mono ?_
  rintro e w99 ⟨rfl, hb99⟩
  go_wp2_with fail
  go_ret
  exact ⟨rfl, bTrans HD9.out hb99⟩
end Go.Proofs.YtchhodikgllgnaaDoor
