/- Parts joined. -/
import Derived.Test.YtchhodikgllgnaaDoorJS
import Derived.Test.YtchhodikgllgnaaDoorJT
import Derived.Test.YtchhodikgllgnaaDoorJV
import Derived.Test.YtchhodikgllgnaaDoorJZ
import Derived.Test.YtchhodikgllgnaaDoorJL
import Derived.Test.YtchhodikgllgnaaDoorJG
set_option linter.unusedSimpArgs false
set_option linter.unusedVariables false
/- The statement QuarrelsEach: the walk. Conditions: what is read fits into memory; the listed table holds what it holds. -/
namespace Go.Proofs.YtchhodikgllgnaaDoor
open Go.RowKit Go.Sort
set_option maxHeartbeats 8000000 in
set_option maxRecDepth 100000 in
theorem quarrelsEach_any (Aw Af : Option Addr) (cw cf : Nat) (t : Qt) (world fp fq law : Int) (Ad : Option Addr) (nd cd : Nat) (g : Nat → Int) (w : World) (hf : t.Fits) (hT : QAt w Aw Af t) (hB : TabAt w) (hI : IntsAt w Ad nd g) (hN : nd * 8 ≤ 140737488351232) :
    Calls Tryd.prog 15 #[.agg #[.int .i64 t.wells, .slice Aw t.nw cw, .slice Af t.nf cf], .int .i64 world, .agg #[.int .i64 fp, .int .i64 fq, .int .i64 law, .slice Ad nd cd]] w fun e w' => e = .returned (.bool true) ∧ Below w.heap.size w w' := by
  have HT0 := Lib.hid hT
  have HTB0 := Lib.hid hB
  have HD0 := Lib.hid (Below.refl w.heap.size w)
  have HS := Lib.hid hf.small
  have HF := Lib.hid hf
  have HI0 := Lib.hid hI
  clear hT hB hf hI
  go_enter Tryd.func15, Tryd.ntmps15
  go_wp2_with fail
  have HN := Lib.hid hN
  clear hN
  refine (huge_any _ _ _ _ t _ HS.out (HT0.out.mono (bAlloc (bAlloc (Below.refl _ _) (.cells #[.int .i64 t.wells, .slice Aw t.nw cw, .slice Af t.nf cf] 25)) (.cells #[.int .i64 fp, .int .i64 fq, .int .i64 law, .slice Ad nd cd] 45)))).mono ?_
  rintro e w1 ⟨rfl, hb⟩
  have hB1 : Below w.heap.size w w1 := bTrans (bAlloc (bAlloc (Below.refl _ _) (.cells #[.int .i64 t.wells, .slice Aw t.nw cw, .slice Af t.nf cf] 25)) (.cells #[.int .i64 fp, .int .i64 fq, .int .i64 law, .slice Ad nd cd] 45)) hb
  have HD1 := Lib.hid (bTrans HD0.out hB1)
  have HT1 := Lib.hid (HT0.out.mono hB1)
  have HTB1 := Lib.hid (HTB0.out.mono hB1)
  have HI1 := Lib.hid (HI0.out.mono hB1)
  have T1 := Lib.hid (show TBox w1 w.heap.size 25 #[.int .i64 t.wells, .slice Aw t.nw cw, .slice Af t.nf cf] from by have := ((TBox.new w #[.int .i64 t.wells, .slice Aw t.nw cw, .slice Af t.nf cf] 25).mono (bAlloc (Below.refl _ _) (.cells #[.int .i64 fp, .int .i64 fq, .int .i64 law, .slice Ad nd cd] 45))).mono hb; simpa using this)
  have X1 := Lib.hid (show TBox w1 (w.heap.size + 1) 45 #[.int .i64 fp, .int .i64 fq, .int .i64 law, .slice Ad nd cd] from by have := ((TBox.new (w.alloc (.cells #[.int .i64 t.wells, .slice Aw t.nw cw, .slice Af t.nf cf] 25)) #[.int .i64 fp, .int .i64 fq, .int .i64 law, .slice Ad nd cd] 45).mono (Below.refl _ _)).mono hb; simpa using this)
  clear hb hB1 HD0 HT0 HTB0 HI0
  obtain ⟨T_0, T_1, T_2, T_l⟩ := T1.out.c3
  obtain ⟨X_0, X_1, X_2, X_3, X_l⟩ := X1.out.c4
  obtain ⟨bq, hbq⟩ : ∃ b, t.huge = b := ⟨_, rfl⟩
  rw [hbq]
  have HHU := Lib.hid hbq
  clear hbq
  cases bq
  case true =>
    go_wp2_with fail
    refine (works5_any _ HTB1.out).mono ?_
    rintro e w99 ⟨rfl, hb99⟩
    go_wp2_with fail
    go_ret
    exact ⟨rfl, bTrans HD1.out hb99⟩
  go_wp2_with fail
  refine (refCheck5 _ _ _ _ t _ HS.out.1 HS.out.2.1 HT1.out).mono ?_
  rintro e w2 ⟨rfl, hb⟩
  have hB2 : Below w1.heap.size w1 w2 := bTrans (Below.refl _ _) hb
  have HD2 := Lib.hid (bTrans HD1.out hB2)
  have HT2 := Lib.hid (HT1.out.mono hB2)
  have HTB2 := Lib.hid (HTB1.out.mono hB2)
  have HI2 := Lib.hid (HI1.out.mono hB2)
  have T2 := Lib.hid (T1.out.mono hB2)
  have X2 := Lib.hid (X1.out.mono hB2)
  clear hb hB2 HD1 HT1 HTB1 HI1 T1 T_0 T_1 T_2 T_l X1 X_0 X_1 X_2 X_3 X_l
  obtain ⟨T_0, T_1, T_2, T_l⟩ := T2.out.c3
  obtain ⟨X_0, X_1, X_2, X_3, X_l⟩ := X2.out.c4
  by_cases hok : t.Ok
  case neg =>
    rw [Qt.err_bad hok]
    clear hok
    go_wp2_with fail
    refine (works5_any _ HTB2.out).mono ?_
    rintro e w99 ⟨rfl, hb99⟩
    go_wp2_with fail
    go_ret
    exact ⟨rfl, bTrans HD2.out hb99⟩
  rw [Qt.err_ok hok]
  have HOK := Lib.hid hok
  clear hok
  go_wp2_with fail
  refine (isWorld5_any _ _ _ _ t world _ HS.out.1).mono ?_
  rintro e w3 ⟨rfl, hb⟩
  have hB3 : Below w2.heap.size w2 w3 := bTrans (Below.refl _ _) hb
  have HD3 := Lib.hid (bTrans HD2.out hB3)
  have HT3 := Lib.hid (HT2.out.mono hB3)
  have HTB3 := Lib.hid (HTB2.out.mono hB3)
  have HI3 := Lib.hid (HI2.out.mono hB3)
  have T3 := Lib.hid (T2.out.mono hB3)
  have X3 := Lib.hid (X2.out.mono hB3)
  clear hb hB3 HD2 HT2 HTB2 HI2 T2 T_0 T_1 T_2 T_l X2 X_0 X_1 X_2 X_3 X_l
  obtain ⟨T_0, T_1, T_2, T_l⟩ := T3.out.c3
  obtain ⟨X_0, X_1, X_2, X_3, X_l⟩ := X3.out.c4
  obtain ⟨bq, hbq⟩ : ∃ b, inR world 0 ((t.nw : Int) - 1) = b := ⟨_, rfl⟩
  rw [hbq]
  have HIW := Lib.hid hbq
  clear hbq
  cases bq
  case false =>
    go_wp2_with fail
    refine (works5_any _ HTB3.out).mono ?_
    rintro e w99 ⟨rfl, hb99⟩
    go_wp2_with fail
    go_ret
    exact ⟨rfl, bTrans HD3.out hb99⟩
  go_wp2_with fail
  refine (isWell5_any _ _ _ _ t fp _).mono ?_
  rintro e w4 ⟨rfl, hb⟩
  have hB4 : Below w3.heap.size w3 w4 := bTrans (Below.refl _ _) hb
  have HD4 := Lib.hid (bTrans HD3.out hB4)
  have HT4 := Lib.hid (HT3.out.mono hB4)
  have HTB4 := Lib.hid (HTB3.out.mono hB4)
  have HI4 := Lib.hid (HI3.out.mono hB4)
  have T4 := Lib.hid (T3.out.mono hB4)
  have X4 := Lib.hid (X3.out.mono hB4)
  clear hb hB4 HD3 HT3 HTB3 HI3 T3 T_0 T_1 T_2 T_l X3 X_0 X_1 X_2 X_3 X_l
  obtain ⟨T_0, T_1, T_2, T_l⟩ := T4.out.c3
  obtain ⟨X_0, X_1, X_2, X_3, X_l⟩ := X4.out.c4
  obtain ⟨bq, hbq⟩ : ∃ b, t.wellB fp = b := ⟨_, rfl⟩
  rw [hbq]
  have HW1 := Lib.hid hbq
  clear hbq
  cases bq
  case false =>
    go_wp2_with fail
    refine (works5_any _ HTB4.out).mono ?_
    rintro e w99 ⟨rfl, hb99⟩
    go_wp2_with fail
    go_ret
    exact ⟨rfl, bTrans HD4.out hb99⟩
  go_wp2_with fail
  refine (isWell5_any _ _ _ _ t fq _).mono ?_
  rintro e w5 ⟨rfl, hb⟩
  have hB5 : Below w4.heap.size w4 w5 := bTrans (Below.refl _ _) hb
  have HD5 := Lib.hid (bTrans HD4.out hB5)
  have HT5 := Lib.hid (HT4.out.mono hB5)
  have HTB5 := Lib.hid (HTB4.out.mono hB5)
  have HI5 := Lib.hid (HI4.out.mono hB5)
  have T5 := Lib.hid (T4.out.mono hB5)
  have X5 := Lib.hid (X4.out.mono hB5)
  clear hb hB5 HD4 HT4 HTB4 HI4 T4 T_0 T_1 T_2 T_l X4 X_0 X_1 X_2 X_3 X_l
  obtain ⟨T_0, T_1, T_2, T_l⟩ := T5.out.c3
  obtain ⟨X_0, X_1, X_2, X_3, X_l⟩ := X5.out.c4
  obtain ⟨bq, hbq⟩ : ∃ b, t.wellB fq = b := ⟨_, rfl⟩
  rw [hbq]
  have HW2 := Lib.hid hbq
  clear hbq
  cases bq
  case false =>
    go_wp2_with fail
    refine (works5_any _ HTB5.out).mono ?_
    rintro e w99 ⟨rfl, hb99⟩
    go_wp2_with fail
    go_ret
    exact ⟨rfl, bTrans HD5.out hb99⟩
  go_wp2_with fail
  refine (isLaw5_any law _).mono ?_
  rintro e w6 ⟨rfl, hb⟩
  have hB6 : Below w5.heap.size w5 w6 := bTrans (Below.refl _ _) hb
  have HD6 := Lib.hid (bTrans HD5.out hB6)
  have HT6 := Lib.hid (HT5.out.mono hB6)
  have HTB6 := Lib.hid (HTB5.out.mono hB6)
  have HI6 := Lib.hid (HI5.out.mono hB6)
  have T6 := Lib.hid (T5.out.mono hB6)
  have X6 := Lib.hid (X5.out.mono hB6)
  clear hb hB6 HD5 HT5 HTB5 HI5 T5 T_0 T_1 T_2 T_l X5 X_0 X_1 X_2 X_3 X_l
  obtain ⟨T_0, T_1, T_2, T_l⟩ := T6.out.c3
  obtain ⟨X_0, X_1, X_2, X_3, X_l⟩ := X6.out.c4
  obtain ⟨bq, hbq⟩ : ∃ b, inR law 0 99 = b := ⟨_, rfl⟩
  rw [hbq]
  have HLW := Lib.hid hbq
  clear hbq
  cases bq
  case false =>
    go_wp2_with fail
    refine (works5_any _ HTB6.out).mono ?_
    rintro e w99 ⟨rfl, hb99⟩
    go_wp2_with fail
    go_ret
    exact ⟨rfl, bTrans HD6.out hb99⟩
  by_cases h40 : (nd : Int) > 40
  case pos =>
    go_wp2_with fail
    refine (works5_any _ HTB6.out).mono ?_
    rintro e w99 ⟨rfl, hb99⟩
    go_wp2_with fail
    go_ret
    exact ⟨rfl, bTrans HD6.out hb99⟩
  go_wp2_with fail
  refine (areDraws5_any _ _ _ _ _ _ nd t g _ (by have := HN.out; omega) HI6.out).mono ?_
  rintro e w7 ⟨rfl, hb⟩
  have hB7 : Below w6.heap.size w6 w7 := bTrans (Below.refl _ _) hb
  have HD7 := Lib.hid (bTrans HD6.out hB7)
  have HT7 := Lib.hid (HT6.out.mono hB7)
  have HTB7 := Lib.hid (HTB6.out.mono hB7)
  have HI7 := Lib.hid (HI6.out.mono hB7)
  have T7 := Lib.hid (T6.out.mono hB7)
  have X7 := Lib.hid (X6.out.mono hB7)
  clear hb hB7 HD6 HT6 HTB6 HI6 T6 T_0 T_1 T_2 T_l X6 X_0 X_1 X_2 X_3 X_l
  obtain ⟨T_0, T_1, T_2, T_l⟩ := T7.out.c3
  obtain ⟨X_0, X_1, X_2, X_3, X_l⟩ := X7.out.c4
  obtain ⟨bq, hbq⟩ : ∃ b, t.drawsB nd g = b := ⟨_, rfl⟩
  rw [hbq]
  have HDR := Lib.hid hbq
  clear hbq
  cases bq
  case false =>
    go_wp2_with fail
    refine (works5_any _ HTB7.out).mono ?_
    rintro e w99 ⟨rfl, hb99⟩
    go_wp2_with fail
    go_ret
    exact ⟨rfl, bTrans HD7.out hb99⟩
  go_wp2_with fail
  have hiw := inR_iff.1 HIW.out
  have hw1 := inR_iff.1 ((wellB_ok HOK.out fp).symm.trans HW1.out)
  have hw2 := inR_iff.1 ((wellB_ok HOK.out fq).symm.trans HW2.out)
  obtain ⟨i, rfl⟩ : ∃ i : Nat, world = (i : Int) := ⟨world.toNat, by omega⟩
  obtain ⟨p, rfl⟩ : ∃ p : Nat, fp = (p : Int) := ⟨fp.toNat, by omega⟩
  obtain ⟨q, rfl⟩ : ∃ q : Nat, fq = (q : Int) := ⟨fq.toNat, by omega⟩
  have HP := Lib.hid (show (p : Int) < t.wells by omega)
  have HQQ := Lib.hid (show (q : Int) < t.wells by omega)
  have HII := Lib.hid (show i < t.nw by omega)
  clear hiw hw1 hw2
  obtain ⟨n1, hn1⟩ : ∃ n, t.leftO.length = n := ⟨_, rfl⟩
  obtain ⟨n2, hn2⟩ : ∃ n, (t.outO (i : Int)).length = n := ⟨_, rfl⟩
  have HN1 := Lib.hid hn1
  have HN2 := Lib.hid hn2
  have hle1 : n1 ≤ t.nw := by rw [← hn1]; exact leftO_len HOK.out
  have hle2 : n2 ≤ t.nf := by rw [← hn2]; exact outO_len HOK.out HII.out
  clear hn1 hn2
  refine (leftQ_any Aw Af cw cf t _ HS.out HT7.out HTB7.out).mono ?_
  rintro e w8 ⟨ho, hb⟩
  obtain ⟨v, rfl, ⟨A4, c4, rfl, hi4⟩, hl4⟩ := ho.lst
  rw [HN1.out] at hi4 hl4 ⊢
  rw [Qt.err_ok HOK.out]
  have hB8 : Below w7.heap.size w7 w8 := bTrans (Below.refl _ _) hb
  have HD8 := Lib.hid (bTrans HD7.out hB8)
  have HT8 := Lib.hid (HT7.out.mono hB8)
  have HTB8 := Lib.hid (HTB7.out.mono hB8)
  have HI8 := Lib.hid (HI7.out.mono hB8)
  have HI48 := Lib.hid (hi4)
  have T8 := Lib.hid (T7.out.mono hB8)
  have X8 := Lib.hid (X7.out.mono hB8)
  clear hb hB8 HD7 HT7 HTB7 HI7 T7 T_0 T_1 T_2 T_l X7 X_0 X_1 X_2 X_3 X_l
  obtain ⟨T_0, T_1, T_2, T_l⟩ := T8.out.c3
  obtain ⟨X_0, X_1, X_2, X_3, X_l⟩ := X8.out.c4
  have HL4 := Lib.hid hl4
  clear ho hi4 hl4
  go_wp2_with fail
  refine (outQ_any Aw Af cw cf t (i : Int) _ HS.out HT8.out).mono ?_
  rintro e w9 ⟨ho, hb⟩
  obtain ⟨v, rfl, ⟨A6, c6, rfl, hi6⟩, hl6⟩ := ho.lst
  rw [HN2.out] at hi6 hl6 ⊢
  have hB9 : Below w8.heap.size w8 w9 := bTrans (Below.refl _ _) hb
  have HD9 := Lib.hid (bTrans HD8.out hB9)
  have HT9 := Lib.hid (HT8.out.mono hB9)
  have HTB9 := Lib.hid (HTB8.out.mono hB9)
  have HI9 := Lib.hid (HI8.out.mono hB9)
  have HI49 := Lib.hid (HI48.out.mono hB9)
  have T9 := Lib.hid (T8.out.mono hB9)
  have X9 := Lib.hid (X8.out.mono hB9)
  clear hb hB9 HD8 HT8 HTB8 HI8 HI48 T8 T_0 T_1 T_2 T_l X8 X_0 X_1 X_2 X_3 X_l
  obtain ⟨T_0, T_1, T_2, T_l⟩ := T9.out.c3
  obtain ⟨X_0, X_1, X_2, X_3, X_l⟩ := X9.out.c4
  clear ho hi6 hl6
  have HOE := Lib.hid (outErr_at HOK.out HII.out)
  have HOP := Lib.hid (outO_pos HOK.out HII.out)
  have HIN := Lib.hid (left_in HOK.out HII.out)
  rw [HN1.out] at HIN
  rw [HN2.out] at HOP
  obtain ⟨bl, hbl⟩ : ∃ b, t.leftB i = b := ⟨_, rfl⟩
  rw [hbl] at HOE HOP HIN
  have HBL := Lib.hid hbl
  clear hbl
  have hx1 : ¬ (n1 : Int) > (t.nw : Int) := by omega
  have hx2 : ¬ (n2 : Int) > (t.nf : Int) := by omega
  cases bl
  case false =>
    have e1 : t.outErr (i : Int) = 0 := HOE.out
    rw [e1]
    have hp2 : (n2 : Int) > 0 := by have := HOP.out.2 rfl; omega
    have hp3 : 0 < n2 := by omega
    clear e1
    go_wp2_with fail
    refine (isKnown_any 0 _).mono ?_
    rintro e w10 ⟨rfl, hb⟩
    have hB10 : Below w9.heap.size w9 w10 := bTrans (Below.refl _ _) hb
    have HD10 := Lib.hid (bTrans HD9.out hB10)
    have HT10 := Lib.hid (HT9.out.mono hB10)
    have HTB10 := Lib.hid (HTB9.out.mono hB10)
    have HI10 := Lib.hid (HI9.out.mono hB10)
    have HI410 := Lib.hid (HI49.out.mono hB10)
    have T10 := Lib.hid (T9.out.mono hB10)
    have X10 := Lib.hid (X9.out.mono hB10)
    clear hb hB10 HD9 HT9 HTB9 HI9 HI49 T9 T_0 T_1 T_2 T_l X9 X_0 X_1 X_2 X_3 X_l
    obtain ⟨T_0, T_1, T_2, T_l⟩ := T10.out.c3
    obtain ⟨X_0, X_1, X_2, X_3, X_l⟩ := X10.out.c4
    go_wp2_with fail
    refine (in1_any A4 n1 c4 (intL0 t.leftO) (i : Int) _ HL4.out HI410.out).mono ?_
    rintro e w11 ⟨rfl, hb⟩
    rw [HIN.out]
    have hB11 : Below w10.heap.size w10 w11 := bTrans (Below.refl _ _) hb
    have HD11 := Lib.hid (bTrans HD10.out hB11)
    have HT11 := Lib.hid (HT10.out.mono hB11)
    have HTB11 := Lib.hid (HTB10.out.mono hB11)
    have HI11 := Lib.hid (HI10.out.mono hB11)
    have HI411 := Lib.hid (HI410.out.mono hB11)
    have T11 := Lib.hid (T10.out.mono hB11)
    have X11 := Lib.hid (X10.out.mono hB11)
    clear hb hB11 HD10 HT10 HTB10 HI10 HI410 T10 T_0 T_1 T_2 T_l X10 X_0 X_1 X_2 X_3 X_l
    obtain ⟨T_0, T_1, T_2, T_l⟩ := T11.out.c3
    obtain ⟨X_0, X_1, X_2, X_3, X_l⟩ := X11.out.c4
    go_wp2_with fail
    refine (works5_any _ HTB11.out).mono ?_
    rintro e w99 ⟨rfl, hb99⟩
    go_wp2_with fail
    go_ret
    exact ⟨rfl, bTrans HD11.out hb99⟩
  have e1 : t.outErr (i : Int) = 3 := HOE.out
  rw [e1]
  have hp2 : n2 = 0 := HOP.out.1 rfl
  subst hp2
  clear e1
  go_wp2_with fail
  refine (isKnown_any 3 _).mono ?_
  rintro e w10 ⟨rfl, hb⟩
  have hB10 : Below w9.heap.size w9 w10 := bTrans (Below.refl _ _) hb
  have HD10 := Lib.hid (bTrans HD9.out hB10)
  have HT10 := Lib.hid (HT9.out.mono hB10)
  have HTB10 := Lib.hid (HTB9.out.mono hB10)
  have HI10 := Lib.hid (HI9.out.mono hB10)
  have HI410 := Lib.hid (HI49.out.mono hB10)
  have T10 := Lib.hid (T9.out.mono hB10)
  have X10 := Lib.hid (X9.out.mono hB10)
  clear hb hB10 HD9 HT9 HTB9 HI9 HI49 T9 T_0 T_1 T_2 T_l X9 X_0 X_1 X_2 X_3 X_l
  obtain ⟨T_0, T_1, T_2, T_l⟩ := T10.out.c3
  obtain ⟨X_0, X_1, X_2, X_3, X_l⟩ := X10.out.c4
  go_wp2_with fail
  refine (in1_any A4 n1 c4 (intL0 t.leftO) (i : Int) _ HL4.out HI410.out).mono ?_
  rintro e w11 ⟨rfl, hb⟩
  rw [HIN.out]
  have hB11 : Below w10.heap.size w10 w11 := bTrans (Below.refl _ _) hb
  have HD11 := Lib.hid (bTrans HD10.out hB11)
  have HT11 := Lib.hid (HT10.out.mono hB11)
  have HTB11 := Lib.hid (HTB10.out.mono hB11)
  have HI11 := Lib.hid (HI10.out.mono hB11)
  have T11 := Lib.hid (T10.out.mono hB11)
  have X11 := Lib.hid (X10.out.mono hB11)
  clear hb hB11 HD10 HT10 HTB10 HI10 HI410 T10 T_0 T_1 T_2 T_l X10 X_0 X_1 X_2 X_3 X_l
  obtain ⟨T_0, T_1, T_2, T_l⟩ := T11.out.c3
  obtain ⟨X_0, X_1, X_2, X_3, X_l⟩ := X11.out.c4
  go_wp2_with fail
  refine (fallAt_F t i p q ▸ fall5_any Aw Af cw cf t i p q _ HOK.out HII.out HP.out HQQ.out HT11.out).mono ?_
  rintro e w12 ⟨rfl, hb⟩
  have hB12 : Below w11.heap.size w11 w12 := bTrans (Below.refl _ _) hb
  have HD12 := Lib.hid (bTrans HD11.out hB12)
  have HT12 := Lib.hid (HT11.out.mono hB12)
  have HTB12 := Lib.hid (HTB11.out.mono hB12)
  have HI12 := Lib.hid (HI11.out.mono hB12)
  have T12 := Lib.hid (T11.out.mono hB12)
  have X12 := Lib.hid (X11.out.mono hB12)
  clear hb hB12 HD11 HT11 HTB11 HI11 T11 T_0 T_1 T_2 T_l X11 X_0 X_1 X_2 X_3 X_l
  obtain ⟨T_0, T_1, T_2, T_l⟩ := T12.out.c3
  obtain ⟨X_0, X_1, X_2, X_3, X_l⟩ := X12.out.c4
  obtain ⟨v, hv⟩ : ∃ v, t.F (i : Int) (p, q) = v := ⟨_, rfl⟩
  rw [hv]
  have HV := Lib.hid hv
  clear hv
  go_wp2_with fail
  refine (betweenQ_any Aw Af cw cf t (p : Int) (q : Int) _ HS.out HT12.out HTB12.out).mono ?_
  rintro e w13 ⟨rfl, hb⟩
  have hB13 : Below w12.heap.size w12 w13 := bTrans (Below.refl _ _) hb
  have HD13 := Lib.hid (bTrans HD12.out hB13)
  have HT13 := Lib.hid (HT12.out.mono hB13)
  have HTB13 := Lib.hid (HTB12.out.mono hB13)
  have HI13 := Lib.hid (HI12.out.mono hB13)
  have T13 := Lib.hid (T12.out.mono hB13)
  have X13 := Lib.hid (X12.out.mono hB13)
  clear hb hB13 HD12 HT12 HTB12 HI12 T12 T_0 T_1 T_2 T_l X12 X_0 X_1 X_2 X_3 X_l
  obtain ⟨T_0, T_1, T_2, T_l⟩ := T13.out.c3
  obtain ⟨X_0, X_1, X_2, X_3, X_l⟩ := X13.out.c4
  have hbt := between_at HOK.out HII.out HBL.out HP.out HQQ.out
  obtain ⟨b1, hb1⟩ : ∃ v, (t.betweenV (p : Int) (q : Int)).1 = v := ⟨_, rfl⟩
  obtain ⟨b2, hb2⟩ : ∃ v, (t.betweenV (p : Int) (q : Int)).2 = v := ⟨_, rfl⟩
  rw [hb1, hb2, HV.out] at hbt
  rw [hb1, hb2, hbt.1]
  have hv1 : ¬ v < b1 := by have := hbt.2.1; omega
  have hv2 : ¬ v > b2 := by have := hbt.2.2; omega
  clear hb1 hb2 hbt
  go_wp2_with fail
  refine (harmsQ_any Aw Af cw cf t (p : Int) (q : Int) law _ HS.out (HT13.out.mono (bAlloc (Below.refl _ _) (.cells #[.int .i64 b1, .int .i64 b2] 47))) (HTB13.out.mono (bAlloc (Below.refl _ _) (.cells #[.int .i64 b1, .int .i64 b2] 47)))).mono ?_
  rintro e w14 ⟨rfl, hb⟩
  have hB14 : Below w13.heap.size w13 w14 := bTrans (bAlloc (Below.refl _ _) (.cells #[.int .i64 b1, .int .i64 b2] 47)) hb
  have HD14 := Lib.hid (bTrans HD13.out hB14)
  have HT14 := Lib.hid (HT13.out.mono hB14)
  have HTB14 := Lib.hid (HTB13.out.mono hB14)
  have HI14 := Lib.hid (HI13.out.mono hB14)
  have T14 := Lib.hid (T13.out.mono hB14)
  have X14 := Lib.hid (X13.out.mono hB14)
  have S114 := Lib.hid (show TBox w14 w13.heap.size 47 #[.int .i64 b1, .int .i64 b2] from by have := ((TBox.new w13 #[.int .i64 b1, .int .i64 b2] 47).mono (Below.refl _ _)).mono hb; simpa using this)
  clear hb hB14 HD13 HT13 HTB13 HI13 T13 T_0 T_1 T_2 T_l X13 X_0 X_1 X_2 X_3 X_l
  obtain ⟨T_0, T_1, T_2, T_l⟩ := T14.out.c3
  obtain ⟨X_0, X_1, X_2, X_3, X_l⟩ := X14.out.c4
  obtain ⟨S1_0, S1_1, S1_l⟩ := S114.out.c2
  have hhk := harms_at HOK.out HII.out HBL.out HP.out HQQ.out HLW.out
  rw [hhk.1, if_pos rfl, Int.toNat_natCast, Int.toNat_natCast]
  obtain ⟨kh, hkh⟩ : ∃ v, harmK (t.between p q) law = v := ⟨_, rfl⟩
  rw [hkh, HV.out] at hhk
  rw [hkh]
  have HHK := Lib.hid hhk.2
  clear hkh hhk
  go_wp2_with fail
  have htt := total_at HOK.out HII.out HBL.out HQQ.out HDR.out
  obtain ⟨u1, hu1⟩ : ∃ v, (t.totalV nd g (q : Int)).1 = v := ⟨_, rfl⟩
  obtain ⟨u2, hu2⟩ : ∃ v, (t.totalV nd g (q : Int)).2 = v := ⟨_, rfl⟩
  obtain ⟨lv, hlv⟩ : ∃ v, t.lowers g nd q (i : Int) = v := ⟨_, rfl⟩
  rw [hu1, hu2, hlv] at htt
  have HTT := Lib.hid (And.intro hu1 (And.intro hu2 (And.intro htt.1 hlv)))
  have hl1 : ¬ lv < u1 := by have := htt.2.1; omega
  have hl2 : ¬ lv > u2 := by have := htt.2.2; omega
  clear hu1 hu2 hlv htt
  refine wp_region_late 12 10 [.const (.agg #[.int .i64 t.wells, .slice Aw t.nw cw, .slice Af t.nf cf]), .held emptyV (ownsV w14.heap.size 3 1 0 []), .const (.pointer (some ⟨w.heap.size + 1, 3, none⟩)), .const (.slice Ad nd cd), .held (ShapeOf nd) (ownsV w14.heap.size 3 1 nd (intL g nd)), .const (.pointer (some ⟨w.heap.size + 1, 1, none⟩)), .const (.int .i64 (q : Int)), .const (.tuple #[.agg #[.int .i64 u1, .int .i64 u2], .int .i64 0]), .const (.tuple #[.agg #[.int .i64 u1, .int .i64 u2], .int .i64 0]), .const (.agg #[.int .i64 u1, .int .i64 u2]), .const (.int .i64 0), .held boxS (boxR w14.heap.size 47 #[.int .i64 0, .int .i64 0])]
    (by kernel_rfl) (by kernel_rfl) rfl ⟨trivial, ⟨⟨_, 0, rfl⟩, fun _ _ _ hb h => owns_below h hb⟩, trivial, trivial, ownsG, trivial, trivial, trivial, trivial, trivial, trivial, boxG, trivial⟩ (crossAll_no _ _ _ _ trivial) rfl rfl rfl (fun _ => ⟨_, _, _, _, rfl, rfl, rfl, rfl⟩) ?_
  iterate 1 refine wpStir_const (by go_simp) ?_
  refine wpStir_held rfl (fun w' hb hd => ?_) (fun v hv => ?_)
  · clear hd
    have hz := hb.size
    go_simp
    exact ⟨bAlloc (Below.refl _ _) _, ⟨_, rfl⟩, owns_lower (owns_empty w' #[] 3 1 rfl) hz⟩
  obtain ⟨be, rfl⟩ := hv
  iterate 2 refine wpStir_const (by go_simp) ?_
  simp only [Act.put, List.setIfInBounds_toArray, List.set_cons_succ, List.set_cons_zero]
  refine wpStir_held rfl (fun w' hb hd => ?_) (fun v hv => ?_)
  · have h1 : ownsV w14.heap.size 3 1 0 [] w' (.slice (some ⟨be, 0, none⟩) 0 0) := hd.1 (by kernel_rfl)
    clear hd
    exact stir_copy3 w' (Operand.tmp 148) (Operand.tmp 150) 40 rfl 3 (.int .i64 0) 1 8 infoInt Tryd.underlying40 rfl (by decide) be Ad nd cd (intL g nd) rfl rfl (by rw [intL_len, Nat.mul_one]) (intsAt_row.1 (HI14.out.mono hb)) (by unfold maxLen; have := HN.out; omega) (by have := HN.out; omega) _ hb.size h1
  obtain ⟨bd, cdd, rfl⟩ := hv
  iterate 2 refine wpStir_const (by go_simp) ?_
  simp only [Act.put, List.setIfInBounds_toArray, List.set_cons_succ, List.set_cons_zero]
  refine wpStir_call rfl (fun w' hb hd => ?_) ?_
  · have h1 : ownsV w14.heap.size 3 1 nd (intL g nd) w' (.slice (some ⟨bd, 0, none⟩) nd cdd) := hd.1 (by kernel_rfl)
    clear hd
    obtain ⟨A9, c9, e9, h9, _⟩ := intsAt_own h1
    simp only [Value.slice.injEq] at e9
    obtain ⟨rfl, _, rfl⟩ := e9
    go_simp
    refine (totalQ_any Aw Af (some ⟨bd, 0, none⟩) cw cf cdd nd t g (q : Int) w' (by have := HN.out; omega) h9 HS.out (HT14.out.mono hb) (HTB14.out.mono hb)).mono ?_
    rintro e w'' ⟨rfl, hb'⟩
    exact ⟨by rw [HTT.out.1, HTT.out.2.1, HTT.out.2.2.1], hb'⟩
  iterate 3 refine wpStir_const (by go_simp) ?_
  refine wpStir_held rfl (fun w' hb hd => ?_) (fun v hv => ?_)
  · clear hd
    have hz := hb.size
    go_simp
    refine ⟨bAlloc (Below.refl _ _) _, ⟨_, rfl⟩, fun b e => ?_⟩
    obtain rfl : w'.heap.size = b := by simpa using e
    exact ⟨by omega, TBox.new _ _ _⟩
  obtain ⟨bxU, rfl⟩ := hv
  refine wpStir_end (fun w5 hb5 hd => ?_)
  obtain ⟨hbx, htb⟩ := hd.1 _ rfl
  clear hd
  have hx0 : w5.cell? ⟨bxU, 0, none⟩ = some (.int .i64 0) := htb.cell 0
  have hx1 : w5.cell? ⟨bxU, 1, none⟩ = some (.int .i64 0) := htb.cell 1
  have hf0 := htb.frozen 0
  have hf1 := htb.frozen 1
  have hxl := htb.lt
  simp only [Act.put, List.setIfInBounds_toArray, List.set_cons_succ, List.set_cons_zero, List.drop_succ_cons, List.drop_zero]
  refine ⟨(w5.setCell ⟨bxU, 0, none⟩ (.int .i64 u1)).setCell ⟨bxU, 1, none⟩ (.int .i64 u2), by go_simp, ?_⟩
  have htb2 := (htb.set 0 (.int .i64 u1)).set 1 (.int .i64 u2)
  have hb : Below w14.heap.size w14 ((w5.setCell ⟨bxU, 0, none⟩ (.int .i64 u1)).setCell ⟨bxU, 1, none⟩ (.int .i64 u2)) := Below.setCell (p := ⟨bxU, 1, none⟩) (Below.setCell (p := ⟨bxU, 0, none⟩) hb5 hbx (.int .i64 u1)) hbx (.int .i64 u2)
  generalize (w5.setCell ⟨bxU, 0, none⟩ (.int .i64 u1)).setCell ⟨bxU, 1, none⟩ (.int .i64 u2) = w15 at htb2 hb ⊢
  have hB15 : Below w14.heap.size w14 w15 := bTrans (Below.refl _ _) hb
  have HD15 := Lib.hid (bTrans HD14.out hB15)
  have HT15 := Lib.hid (HT14.out.mono hB15)
  have HTB15 := Lib.hid (HTB14.out.mono hB15)
  have HI15 := Lib.hid (HI14.out.mono hB15)
  have U15 := Lib.hid ((show TBox w15 bxU 47 #[.int .i64 u1, .int .i64 u2] from htb2))
  have T15 := Lib.hid (T14.out.mono hB15)
  have X15 := Lib.hid (X14.out.mono hB15)
  have S115 := Lib.hid (S114.out.mono hB15)
  clear hb hB15 HD14 HT14 HTB14 HI14 T14 T_0 T_1 T_2 T_l X14 X_0 X_1 X_2 X_3 X_l S114 S1_0 S1_1 S1_l
  obtain ⟨T_0, T_1, T_2, T_l⟩ := T15.out.c3
  obtain ⟨X_0, X_1, X_2, X_3, X_l⟩ := X15.out.c4
  obtain ⟨S1_0, S1_1, S1_l⟩ := S115.out.c2
  clear htb htb2 hx0 hx1 hf0 hf1 hxl hb5 hbx
  obtain ⟨U_0, U_1, U_l⟩ := U15.out.c2
  go_wp2_with fail
  have hbo := blame_at HOK.out HII.out HBL.out HQQ.out HDR.out
  obtain ⟨m1, hm1⟩ : ∃ v, (t.blameOut nd g (q : Int)).1 = v := ⟨_, rfl⟩
  obtain ⟨m2, hm2⟩ : ∃ v, (t.blameOut nd g (q : Int)).2 = v := ⟨_, rfl⟩
  rw [hm1, hm2] at hbo
  have HBO := Lib.hid hbo
  have HMM := Lib.hid (And.intro hm1 hm2)
  clear hm1 hm2 hbo
  refine wp_region_stir 12 [.const (.agg #[.int .i64 t.wells, .slice Aw t.nw cw, .slice Af t.nf cf]), .held emptyV (ownsV w15.heap.size 3 1 0 []), .const (.pointer (some ⟨w.heap.size + 1, 3, none⟩)), .const (.slice Ad nd cd), .held (ShapeOf nd) (ownsV w15.heap.size 3 1 nd (intL g nd)), .const (.pointer (some ⟨w.heap.size + 1, 1, none⟩)), .const (.int .i64 (q : Int)), .const (.tuple #[.int .i64 m1, .int .i64 m2]), .const (.tuple #[.int .i64 m1, .int .i64 m2]), .const (.int .i64 m1), .const (.int .i64 m2), .const (.int .i64 m1)]
    (by kernel_rfl) (by kernel_rfl) rfl ⟨trivial, ⟨⟨_, 0, rfl⟩, fun _ _ _ hb h => owns_below h hb⟩, trivial, trivial, ownsG, trivial, trivial, trivial, trivial, trivial, trivial, trivial, trivial⟩ (crossAll_no _ _ _ _ trivial) ?_
  iterate 1 refine wpStir_const (by go_simp) ?_
  refine wpStir_held rfl (fun w' hb hd => ?_) (fun v hv => ?_)
  · clear hd
    have hz := hb.size
    go_simp
    exact ⟨bAlloc (Below.refl _ _) _, ⟨_, rfl⟩, owns_lower (owns_empty w' #[] 3 1 rfl) hz⟩
  obtain ⟨be, rfl⟩ := hv
  iterate 2 refine wpStir_const (by go_simp) ?_
  simp only [Act.put, List.setIfInBounds_toArray, List.set_cons_succ, List.set_cons_zero]
  refine wpStir_held rfl (fun w' hb hd => ?_) (fun v hv => ?_)
  · have h1 : ownsV w15.heap.size 3 1 0 [] w' (.slice (some ⟨be, 0, none⟩) 0 0) := hd.1 (by kernel_rfl)
    clear hd
    exact stir_copy3 w' (Operand.tmp 159) (Operand.tmp 161) 40 rfl 3 (.int .i64 0) 1 8 infoInt Tryd.underlying40 rfl (by decide) be Ad nd cd (intL g nd) rfl rfl (by rw [intL_len, Nat.mul_one]) (intsAt_row.1 (HI15.out.mono hb)) (by unfold maxLen; have := HN.out; omega) (by have := HN.out; omega) _ hb.size h1
  obtain ⟨bd, cdd, rfl⟩ := hv
  iterate 2 refine wpStir_const (by go_simp) ?_
  simp only [Act.put, List.setIfInBounds_toArray, List.set_cons_succ, List.set_cons_zero]
  refine wpStir_call rfl (fun w' hb hd => ?_) ?_
  · have h1 : ownsV w15.heap.size 3 1 nd (intL g nd) w' (.slice (some ⟨bd, 0, none⟩) nd cdd) := hd.1 (by kernel_rfl)
    clear hd
    obtain ⟨A9, c9, e9, h9, _⟩ := intsAt_own h1
    simp only [Value.slice.injEq] at e9
    obtain ⟨rfl, _, rfl⟩ := e9
    go_simp
    refine (blameQ_any Aw Af (some ⟨bd, 0, none⟩) cw cf cdd nd t g (q : Int) w' HS.out (HT15.out.mono hb) (HTB15.out.mono hb) (by have := HN.out; omega) h9).mono ?_
    rintro e w'' ⟨rfl, hb'⟩
    exact ⟨by rw [HMM.out.1, HMM.out.2], hb'⟩
  iterate 4 refine wpStir_const (by go_simp) ?_
  refine wpStir_end (fun w16 hb hd => ?_)
  clear hd
  simp only [Act.put, List.setIfInBounds_toArray, List.set_cons_succ, List.set_cons_zero, List.drop_succ_cons, List.drop_zero]
  have hB16 : Below w15.heap.size w15 w16 := bTrans (Below.refl _ _) hb
  have HD16 := Lib.hid (bTrans HD15.out hB16)
  have HT16 := Lib.hid (HT15.out.mono hB16)
  have HTB16 := Lib.hid (HTB15.out.mono hB16)
  have HI16 := Lib.hid (HI15.out.mono hB16)
  have T16 := Lib.hid (T15.out.mono hB16)
  have X16 := Lib.hid (X15.out.mono hB16)
  have S116 := Lib.hid (S115.out.mono hB16)
  have U16 := Lib.hid (U15.out.mono hB16)
  clear hb hB16 HD15 HT15 HTB15 HI15 T15 T_0 T_1 T_2 T_l X15 X_0 X_1 X_2 X_3 X_l S115 S1_0 S1_1 S1_l U15 U_0 U_1 U_l
  obtain ⟨T_0, T_1, T_2, T_l⟩ := T16.out.c3
  obtain ⟨X_0, X_1, X_2, X_3, X_l⟩ := X16.out.c4
  obtain ⟨S1_0, S1_1, S1_l⟩ := S116.out.c2
  obtain ⟨U_0, U_1, U_l⟩ := U16.out.c2
  go_wp2_with fail
  have hdr := drawsB_iff.1 HDR.out
  have HDQ := Lib.hid hdr
  clear hdr
  refine (lowers5_any Aw Af Ad cw cf cd nd t g i q _ HOK.out HT16.out HI16.out HDQ.out.1 HDQ.out.2 HQQ.out HII.out).mono ?_
  rintro e w17 ⟨rfl, hb⟩
  rw [HTT.out.2.2.2]
  have hB17 : Below w16.heap.size w16 w17 := bTrans (Below.refl _ _) hb
  have HD17 := Lib.hid (bTrans HD16.out hB17)
  have HT17 := Lib.hid (HT16.out.mono hB17)
  have HTB17 := Lib.hid (HTB16.out.mono hB17)
  have HI17 := Lib.hid (HI16.out.mono hB17)
  have T17 := Lib.hid (T16.out.mono hB17)
  have X17 := Lib.hid (X16.out.mono hB17)
  have S117 := Lib.hid (S116.out.mono hB17)
  have U17 := Lib.hid (U16.out.mono hB17)
  clear hb hB17 HD16 HT16 HTB16 HI16 T16 T_0 T_1 T_2 T_l X16 X_0 X_1 X_2 X_3 X_l S116 S1_0 S1_1 S1_l U16 U_0 U_1 U_l
  obtain ⟨T_0, T_1, T_2, T_l⟩ := T17.out.c3
  obtain ⟨X_0, X_1, X_2, X_3, X_l⟩ := X17.out.c4
  obtain ⟨S1_0, S1_1, S1_l⟩ := S117.out.c2
  obtain ⟨U_0, U_1, U_l⟩ := U17.out.c2
  have hkr : inR kh 1 3 = true := inR_t (by have := HHK.out.1; omega)
  have HKR := Lib.hid hkr
  clear hkr
  have HWI := Lib.hid (fun w' => within_bb kh 1 3 true w' HKR.out)
  rcases HBO.out with hm2 | ⟨hm2, mp, hmp, hm1, hbl⟩
  · skip
    subst hm2
    rcases HHK.out.1 with hk | hk | hk
    · skip
      subst hk
      have hlv1 : ¬ v ≤ law := by have := HHK.out.2.1 rfl; omega
      go_wp2_with fail
      refine (isKnown_any 3 _).mono ?_
      rintro e w18 ⟨rfl, hb⟩
      have hB18 : Below w17.heap.size w17 w18 := bTrans (Below.refl _ _) hb
      have HD18 := Lib.hid (bTrans HD17.out hB18)
      have HT18 := Lib.hid (HT17.out.mono hB18)
      have HTB18 := Lib.hid (HTB17.out.mono hB18)
      have HI18 := Lib.hid (HI17.out.mono hB18)
      have T18 := Lib.hid (T17.out.mono hB18)
      have X18 := Lib.hid (X17.out.mono hB18)
      have S118 := Lib.hid (S117.out.mono hB18)
      have U18 := Lib.hid (U17.out.mono hB18)
      clear hb hB18 HD17 HT17 HTB17 HI17 T17 T_0 T_1 T_2 T_l X17 X_0 X_1 X_2 X_3 X_l S117 S1_0 S1_1 S1_l U17 U_0 U_1 U_l
      obtain ⟨T_0, T_1, T_2, T_l⟩ := T18.out.c3
      obtain ⟨X_0, X_1, X_2, X_3, X_l⟩ := X18.out.c4
      obtain ⟨S1_0, S1_1, S1_l⟩ := S118.out.c2
      obtain ⟨U_0, U_1, U_l⟩ := U18.out.c2
      go_wp2_with fail
      refine (HWI.out _).mono ?_
      rintro e w19 ⟨rfl, hb⟩
      have hB19 : Below w18.heap.size w18 w19 := bTrans (Below.refl _ _) hb
      have HD19 := Lib.hid (bTrans HD18.out hB19)
      have HT19 := Lib.hid (HT18.out.mono hB19)
      have HTB19 := Lib.hid (HTB18.out.mono hB19)
      have HI19 := Lib.hid (HI18.out.mono hB19)
      have T19 := Lib.hid (T18.out.mono hB19)
      have X19 := Lib.hid (X18.out.mono hB19)
      have S119 := Lib.hid (S118.out.mono hB19)
      have U19 := Lib.hid (U18.out.mono hB19)
      clear hb hB19 HD18 HT18 HTB18 HI18 T18 T_0 T_1 T_2 T_l X18 X_0 X_1 X_2 X_3 X_l S118 S1_0 S1_1 S1_l U18 U_0 U_1 U_l
      obtain ⟨T_0, T_1, T_2, T_l⟩ := T19.out.c3
      obtain ⟨X_0, X_1, X_2, X_3, X_l⟩ := X19.out.c4
      obtain ⟨S1_0, S1_1, S1_l⟩ := S119.out.c2
      obtain ⟨U_0, U_1, U_l⟩ := U19.out.c2
      go_wp2_with fail
      refine (works5_any _ HTB19.out).mono ?_
      rintro e w99 ⟨rfl, hb99⟩
      go_wp2_with fail
      go_ret
      exact ⟨rfl, bTrans HD19.out hb99⟩
    · skip
      subst hk
      have hlv1 : ¬ v > law := by have := HHK.out.2.2 rfl; omega
      go_wp2_with fail
      refine (isKnown_any 3 _).mono ?_
      rintro e w18 ⟨rfl, hb⟩
      have hB18 : Below w17.heap.size w17 w18 := bTrans (Below.refl _ _) hb
      have HD18 := Lib.hid (bTrans HD17.out hB18)
      have HT18 := Lib.hid (HT17.out.mono hB18)
      have HTB18 := Lib.hid (HTB17.out.mono hB18)
      have HI18 := Lib.hid (HI17.out.mono hB18)
      have T18 := Lib.hid (T17.out.mono hB18)
      have X18 := Lib.hid (X17.out.mono hB18)
      have S118 := Lib.hid (S117.out.mono hB18)
      have U18 := Lib.hid (U17.out.mono hB18)
      clear hb hB18 HD17 HT17 HTB17 HI17 T17 T_0 T_1 T_2 T_l X17 X_0 X_1 X_2 X_3 X_l S117 S1_0 S1_1 S1_l U17 U_0 U_1 U_l
      obtain ⟨T_0, T_1, T_2, T_l⟩ := T18.out.c3
      obtain ⟨X_0, X_1, X_2, X_3, X_l⟩ := X18.out.c4
      obtain ⟨S1_0, S1_1, S1_l⟩ := S118.out.c2
      obtain ⟨U_0, U_1, U_l⟩ := U18.out.c2
      go_wp2_with fail
      refine (HWI.out _).mono ?_
      rintro e w19 ⟨rfl, hb⟩
      have hB19 : Below w18.heap.size w18 w19 := bTrans (Below.refl _ _) hb
      have HD19 := Lib.hid (bTrans HD18.out hB19)
      have HT19 := Lib.hid (HT18.out.mono hB19)
      have HTB19 := Lib.hid (HTB18.out.mono hB19)
      have HI19 := Lib.hid (HI18.out.mono hB19)
      have T19 := Lib.hid (T18.out.mono hB19)
      have X19 := Lib.hid (X18.out.mono hB19)
      have S119 := Lib.hid (S118.out.mono hB19)
      have U19 := Lib.hid (U18.out.mono hB19)
      clear hb hB19 HD18 HT18 HTB18 HI18 T18 T_0 T_1 T_2 T_l X18 X_0 X_1 X_2 X_3 X_l S118 S1_0 S1_1 S1_l U18 U_0 U_1 U_l
      obtain ⟨T_0, T_1, T_2, T_l⟩ := T19.out.c3
      obtain ⟨X_0, X_1, X_2, X_3, X_l⟩ := X19.out.c4
      obtain ⟨S1_0, S1_1, S1_l⟩ := S119.out.c2
      obtain ⟨U_0, U_1, U_l⟩ := U19.out.c2
      go_wp2_with fail
      refine (works5_any _ HTB19.out).mono ?_
      rintro e w99 ⟨rfl, hb99⟩
      go_wp2_with fail
      go_ret
      exact ⟨rfl, bTrans HD19.out hb99⟩
    · skip
      subst hk
      go_wp2_with fail
      refine (isKnown_any 3 _).mono ?_
      rintro e w18 ⟨rfl, hb⟩
      have hB18 : Below w17.heap.size w17 w18 := bTrans (Below.refl _ _) hb
      have HD18 := Lib.hid (bTrans HD17.out hB18)
      have HT18 := Lib.hid (HT17.out.mono hB18)
      have HTB18 := Lib.hid (HTB17.out.mono hB18)
      have HI18 := Lib.hid (HI17.out.mono hB18)
      have T18 := Lib.hid (T17.out.mono hB18)
      have X18 := Lib.hid (X17.out.mono hB18)
      have S118 := Lib.hid (S117.out.mono hB18)
      have U18 := Lib.hid (U17.out.mono hB18)
      clear hb hB18 HD17 HT17 HTB17 HI17 T17 T_0 T_1 T_2 T_l X17 X_0 X_1 X_2 X_3 X_l S117 S1_0 S1_1 S1_l U17 U_0 U_1 U_l
      obtain ⟨T_0, T_1, T_2, T_l⟩ := T18.out.c3
      obtain ⟨X_0, X_1, X_2, X_3, X_l⟩ := X18.out.c4
      obtain ⟨S1_0, S1_1, S1_l⟩ := S118.out.c2
      obtain ⟨U_0, U_1, U_l⟩ := U18.out.c2
      go_wp2_with fail
      refine (HWI.out _).mono ?_
      rintro e w19 ⟨rfl, hb⟩
      have hB19 : Below w18.heap.size w18 w19 := bTrans (Below.refl _ _) hb
      have HD19 := Lib.hid (bTrans HD18.out hB19)
      have HT19 := Lib.hid (HT18.out.mono hB19)
      have HTB19 := Lib.hid (HTB18.out.mono hB19)
      have HI19 := Lib.hid (HI18.out.mono hB19)
      have T19 := Lib.hid (T18.out.mono hB19)
      have X19 := Lib.hid (X18.out.mono hB19)
      have S119 := Lib.hid (S118.out.mono hB19)
      have U19 := Lib.hid (U18.out.mono hB19)
      clear hb hB19 HD18 HT18 HTB18 HI18 T18 T_0 T_1 T_2 T_l X18 X_0 X_1 X_2 X_3 X_l S118 S1_0 S1_1 S1_l U18 U_0 U_1 U_l
      obtain ⟨T_0, T_1, T_2, T_l⟩ := T19.out.c3
      obtain ⟨X_0, X_1, X_2, X_3, X_l⟩ := X19.out.c4
      obtain ⟨S1_0, S1_1, S1_l⟩ := S119.out.c2
      obtain ⟨U_0, U_1, U_l⟩ := U19.out.c2
      go_wp2_with fail
      refine (works5_any _ HTB19.out).mono ?_
      rintro e w99 ⟨rfl, hb99⟩
      go_wp2_with fail
      go_ret
      exact ⟨rfl, bTrans HD19.out hb99⟩
  · skip
    subst hm2 hm1
    have HMP := Lib.hid hmp
    have HBB := Lib.hid hbl
    clear hmp hbl
    rcases HHK.out.1 with hk | hk | hk
    · skip
      subst hk
      have hlv1 : ¬ v ≤ law := by have := HHK.out.2.1 rfl; omega
      go_wp2_with fail
      refine (isKnown_any 0 _).mono ?_
      rintro e w18 ⟨rfl, hb⟩
      have hB18 : Below w17.heap.size w17 w18 := bTrans (Below.refl _ _) hb
      have HD18 := Lib.hid (bTrans HD17.out hB18)
      have HT18 := Lib.hid (HT17.out.mono hB18)
      have HTB18 := Lib.hid (HTB17.out.mono hB18)
      have HI18 := Lib.hid (HI17.out.mono hB18)
      have T18 := Lib.hid (T17.out.mono hB18)
      have X18 := Lib.hid (X17.out.mono hB18)
      have S118 := Lib.hid (S117.out.mono hB18)
      have U18 := Lib.hid (U17.out.mono hB18)
      clear hb hB18 HD17 HT17 HTB17 HI17 T17 T_0 T_1 T_2 T_l X17 X_0 X_1 X_2 X_3 X_l S117 S1_0 S1_1 S1_l U17 U_0 U_1 U_l
      obtain ⟨T_0, T_1, T_2, T_l⟩ := T18.out.c3
      obtain ⟨X_0, X_1, X_2, X_3, X_l⟩ := X18.out.c4
      obtain ⟨S1_0, S1_1, S1_l⟩ := S118.out.c2
      obtain ⟨U_0, U_1, U_l⟩ := U18.out.c2
      go_wp2_with fail
      refine (HWI.out _).mono ?_
      rintro e w19 ⟨rfl, hb⟩
      have hB19 : Below w18.heap.size w18 w19 := bTrans (Below.refl _ _) hb
      have HD19 := Lib.hid (bTrans HD18.out hB19)
      have HT19 := Lib.hid (HT18.out.mono hB19)
      have HTB19 := Lib.hid (HTB18.out.mono hB19)
      have HI19 := Lib.hid (HI18.out.mono hB19)
      have T19 := Lib.hid (T18.out.mono hB19)
      have X19 := Lib.hid (X18.out.mono hB19)
      have S119 := Lib.hid (S118.out.mono hB19)
      have U19 := Lib.hid (U18.out.mono hB19)
      clear hb hB19 HD18 HT18 HTB18 HI18 T18 T_0 T_1 T_2 T_l X18 X_0 X_1 X_2 X_3 X_l S118 S1_0 S1_1 S1_l U18 U_0 U_1 U_l
      obtain ⟨T_0, T_1, T_2, T_l⟩ := T19.out.c3
      obtain ⟨X_0, X_1, X_2, X_3, X_l⟩ := X19.out.c4
      obtain ⟨S1_0, S1_1, S1_l⟩ := S119.out.c2
      obtain ⟨U_0, U_1, U_l⟩ := U19.out.c2
      go_wp2_with fail
      refine (isWell5_any _ _ _ _ t (mp : Int) _).mono ?_
      rintro e w20 ⟨rfl, hb⟩
      rw [wellB_in HOK.out (show (mp : Int) < t.wells by have := HDQ.out.1; have := HMP.out; omega)]
      have hB20 : Below w19.heap.size w19 w20 := bTrans (Below.refl _ _) hb
      have HD20 := Lib.hid (bTrans HD19.out hB20)
      have HT20 := Lib.hid (HT19.out.mono hB20)
      have HTB20 := Lib.hid (HTB19.out.mono hB20)
      have HI20 := Lib.hid (HI19.out.mono hB20)
      have T20 := Lib.hid (T19.out.mono hB20)
      have X20 := Lib.hid (X19.out.mono hB20)
      have S120 := Lib.hid (S119.out.mono hB20)
      have U20 := Lib.hid (U19.out.mono hB20)
      clear hb hB20 HD19 HT19 HTB19 HI19 T19 T_0 T_1 T_2 T_l X19 X_0 X_1 X_2 X_3 X_l S119 S1_0 S1_1 S1_l U19 U_0 U_1 U_l
      obtain ⟨T_0, T_1, T_2, T_l⟩ := T20.out.c3
      obtain ⟨X_0, X_1, X_2, X_3, X_l⟩ := X20.out.c4
      obtain ⟨S1_0, S1_1, S1_l⟩ := S120.out.c2
      obtain ⟨U_0, U_1, U_l⟩ := U20.out.c2
      go_wp2_with fail
      refine (isBlamed5_any Aw Af Ad cw cf cd nd t g i mp q _ HOK.out HT20.out HI20.out HDQ.out.1 HDQ.out.2 HMP.out HQQ.out HII.out).mono ?_
      rintro e w21 ⟨rfl, hb⟩
      rw [HBB.out]
      have hB21 : Below w20.heap.size w20 w21 := bTrans (Below.refl _ _) hb
      have HD21 := Lib.hid (bTrans HD20.out hB21)
      have HT21 := Lib.hid (HT20.out.mono hB21)
      have HTB21 := Lib.hid (HTB20.out.mono hB21)
      have HI21 := Lib.hid (HI20.out.mono hB21)
      have T21 := Lib.hid (T20.out.mono hB21)
      have X21 := Lib.hid (X20.out.mono hB21)
      have S121 := Lib.hid (S120.out.mono hB21)
      have U21 := Lib.hid (U20.out.mono hB21)
      clear hb hB21 HD20 HT20 HTB20 HI20 T20 T_0 T_1 T_2 T_l X20 X_0 X_1 X_2 X_3 X_l S120 S1_0 S1_1 S1_l U20 U_0 U_1 U_l
      obtain ⟨T_0, T_1, T_2, T_l⟩ := T21.out.c3
      obtain ⟨X_0, X_1, X_2, X_3, X_l⟩ := X21.out.c4
      obtain ⟨S1_0, S1_1, S1_l⟩ := S121.out.c2
      obtain ⟨U_0, U_1, U_l⟩ := U21.out.c2
      go_wp2_with fail
      refine (works5_any _ HTB21.out).mono ?_
      rintro e w99 ⟨rfl, hb99⟩
      go_wp2_with fail
      go_ret
      exact ⟨rfl, bTrans HD21.out hb99⟩
    · skip
      subst hk
      have hlv1 : ¬ v > law := by have := HHK.out.2.2 rfl; omega
      go_wp2_with fail
      refine (isKnown_any 0 _).mono ?_
      rintro e w18 ⟨rfl, hb⟩
      have hB18 : Below w17.heap.size w17 w18 := bTrans (Below.refl _ _) hb
      have HD18 := Lib.hid (bTrans HD17.out hB18)
      have HT18 := Lib.hid (HT17.out.mono hB18)
      have HTB18 := Lib.hid (HTB17.out.mono hB18)
      have HI18 := Lib.hid (HI17.out.mono hB18)
      have T18 := Lib.hid (T17.out.mono hB18)
      have X18 := Lib.hid (X17.out.mono hB18)
      have S118 := Lib.hid (S117.out.mono hB18)
      have U18 := Lib.hid (U17.out.mono hB18)
      clear hb hB18 HD17 HT17 HTB17 HI17 T17 T_0 T_1 T_2 T_l X17 X_0 X_1 X_2 X_3 X_l S117 S1_0 S1_1 S1_l U17 U_0 U_1 U_l
      obtain ⟨T_0, T_1, T_2, T_l⟩ := T18.out.c3
      obtain ⟨X_0, X_1, X_2, X_3, X_l⟩ := X18.out.c4
      obtain ⟨S1_0, S1_1, S1_l⟩ := S118.out.c2
      obtain ⟨U_0, U_1, U_l⟩ := U18.out.c2
      go_wp2_with fail
      refine (HWI.out _).mono ?_
      rintro e w19 ⟨rfl, hb⟩
      have hB19 : Below w18.heap.size w18 w19 := bTrans (Below.refl _ _) hb
      have HD19 := Lib.hid (bTrans HD18.out hB19)
      have HT19 := Lib.hid (HT18.out.mono hB19)
      have HTB19 := Lib.hid (HTB18.out.mono hB19)
      have HI19 := Lib.hid (HI18.out.mono hB19)
      have T19 := Lib.hid (T18.out.mono hB19)
      have X19 := Lib.hid (X18.out.mono hB19)
      have S119 := Lib.hid (S118.out.mono hB19)
      have U19 := Lib.hid (U18.out.mono hB19)
      clear hb hB19 HD18 HT18 HTB18 HI18 T18 T_0 T_1 T_2 T_l X18 X_0 X_1 X_2 X_3 X_l S118 S1_0 S1_1 S1_l U18 U_0 U_1 U_l
      obtain ⟨T_0, T_1, T_2, T_l⟩ := T19.out.c3
      obtain ⟨X_0, X_1, X_2, X_3, X_l⟩ := X19.out.c4
      obtain ⟨S1_0, S1_1, S1_l⟩ := S119.out.c2
      obtain ⟨U_0, U_1, U_l⟩ := U19.out.c2
      go_wp2_with fail
      refine (isWell5_any _ _ _ _ t (mp : Int) _).mono ?_
      rintro e w20 ⟨rfl, hb⟩
      rw [wellB_in HOK.out (show (mp : Int) < t.wells by have := HDQ.out.1; have := HMP.out; omega)]
      have hB20 : Below w19.heap.size w19 w20 := bTrans (Below.refl _ _) hb
      have HD20 := Lib.hid (bTrans HD19.out hB20)
      have HT20 := Lib.hid (HT19.out.mono hB20)
      have HTB20 := Lib.hid (HTB19.out.mono hB20)
      have HI20 := Lib.hid (HI19.out.mono hB20)
      have T20 := Lib.hid (T19.out.mono hB20)
      have X20 := Lib.hid (X19.out.mono hB20)
      have S120 := Lib.hid (S119.out.mono hB20)
      have U20 := Lib.hid (U19.out.mono hB20)
      clear hb hB20 HD19 HT19 HTB19 HI19 T19 T_0 T_1 T_2 T_l X19 X_0 X_1 X_2 X_3 X_l S119 S1_0 S1_1 S1_l U19 U_0 U_1 U_l
      obtain ⟨T_0, T_1, T_2, T_l⟩ := T20.out.c3
      obtain ⟨X_0, X_1, X_2, X_3, X_l⟩ := X20.out.c4
      obtain ⟨S1_0, S1_1, S1_l⟩ := S120.out.c2
      obtain ⟨U_0, U_1, U_l⟩ := U20.out.c2
      go_wp2_with fail
      refine (isBlamed5_any Aw Af Ad cw cf cd nd t g i mp q _ HOK.out HT20.out HI20.out HDQ.out.1 HDQ.out.2 HMP.out HQQ.out HII.out).mono ?_
      rintro e w21 ⟨rfl, hb⟩
      rw [HBB.out]
      have hB21 : Below w20.heap.size w20 w21 := bTrans (Below.refl _ _) hb
      have HD21 := Lib.hid (bTrans HD20.out hB21)
      have HT21 := Lib.hid (HT20.out.mono hB21)
      have HTB21 := Lib.hid (HTB20.out.mono hB21)
      have HI21 := Lib.hid (HI20.out.mono hB21)
      have T21 := Lib.hid (T20.out.mono hB21)
      have X21 := Lib.hid (X20.out.mono hB21)
      have S121 := Lib.hid (S120.out.mono hB21)
      have U21 := Lib.hid (U20.out.mono hB21)
      clear hb hB21 HD20 HT20 HTB20 HI20 T20 T_0 T_1 T_2 T_l X20 X_0 X_1 X_2 X_3 X_l S120 S1_0 S1_1 S1_l U20 U_0 U_1 U_l
      obtain ⟨T_0, T_1, T_2, T_l⟩ := T21.out.c3
      obtain ⟨X_0, X_1, X_2, X_3, X_l⟩ := X21.out.c4
      obtain ⟨S1_0, S1_1, S1_l⟩ := S121.out.c2
      obtain ⟨U_0, U_1, U_l⟩ := U21.out.c2
      go_wp2_with fail
      refine (works5_any _ HTB21.out).mono ?_
      rintro e w99 ⟨rfl, hb99⟩
      go_wp2_with fail
      go_ret
      exact ⟨rfl, bTrans HD21.out hb99⟩
    · skip
      subst hk
      go_wp2_with fail
      refine (isKnown_any 0 _).mono ?_
      rintro e w18 ⟨rfl, hb⟩
      have hB18 : Below w17.heap.size w17 w18 := bTrans (Below.refl _ _) hb
      have HD18 := Lib.hid (bTrans HD17.out hB18)
      have HT18 := Lib.hid (HT17.out.mono hB18)
      have HTB18 := Lib.hid (HTB17.out.mono hB18)
      have HI18 := Lib.hid (HI17.out.mono hB18)
      have T18 := Lib.hid (T17.out.mono hB18)
      have X18 := Lib.hid (X17.out.mono hB18)
      have S118 := Lib.hid (S117.out.mono hB18)
      have U18 := Lib.hid (U17.out.mono hB18)
      clear hb hB18 HD17 HT17 HTB17 HI17 T17 T_0 T_1 T_2 T_l X17 X_0 X_1 X_2 X_3 X_l S117 S1_0 S1_1 S1_l U17 U_0 U_1 U_l
      obtain ⟨T_0, T_1, T_2, T_l⟩ := T18.out.c3
      obtain ⟨X_0, X_1, X_2, X_3, X_l⟩ := X18.out.c4
      obtain ⟨S1_0, S1_1, S1_l⟩ := S118.out.c2
      obtain ⟨U_0, U_1, U_l⟩ := U18.out.c2
      go_wp2_with fail
      refine (HWI.out _).mono ?_
      rintro e w19 ⟨rfl, hb⟩
      have hB19 : Below w18.heap.size w18 w19 := bTrans (Below.refl _ _) hb
      have HD19 := Lib.hid (bTrans HD18.out hB19)
      have HT19 := Lib.hid (HT18.out.mono hB19)
      have HTB19 := Lib.hid (HTB18.out.mono hB19)
      have HI19 := Lib.hid (HI18.out.mono hB19)
      have T19 := Lib.hid (T18.out.mono hB19)
      have X19 := Lib.hid (X18.out.mono hB19)
      have S119 := Lib.hid (S118.out.mono hB19)
      have U19 := Lib.hid (U18.out.mono hB19)
      clear hb hB19 HD18 HT18 HTB18 HI18 T18 T_0 T_1 T_2 T_l X18 X_0 X_1 X_2 X_3 X_l S118 S1_0 S1_1 S1_l U18 U_0 U_1 U_l
      obtain ⟨T_0, T_1, T_2, T_l⟩ := T19.out.c3
      obtain ⟨X_0, X_1, X_2, X_3, X_l⟩ := X19.out.c4
      obtain ⟨S1_0, S1_1, S1_l⟩ := S119.out.c2
      obtain ⟨U_0, U_1, U_l⟩ := U19.out.c2
      go_wp2_with fail
      refine (isWell5_any _ _ _ _ t (mp : Int) _).mono ?_
      rintro e w20 ⟨rfl, hb⟩
      rw [wellB_in HOK.out (show (mp : Int) < t.wells by have := HDQ.out.1; have := HMP.out; omega)]
      have hB20 : Below w19.heap.size w19 w20 := bTrans (Below.refl _ _) hb
      have HD20 := Lib.hid (bTrans HD19.out hB20)
      have HT20 := Lib.hid (HT19.out.mono hB20)
      have HTB20 := Lib.hid (HTB19.out.mono hB20)
      have HI20 := Lib.hid (HI19.out.mono hB20)
      have T20 := Lib.hid (T19.out.mono hB20)
      have X20 := Lib.hid (X19.out.mono hB20)
      have S120 := Lib.hid (S119.out.mono hB20)
      have U20 := Lib.hid (U19.out.mono hB20)
      clear hb hB20 HD19 HT19 HTB19 HI19 T19 T_0 T_1 T_2 T_l X19 X_0 X_1 X_2 X_3 X_l S119 S1_0 S1_1 S1_l U19 U_0 U_1 U_l
      obtain ⟨T_0, T_1, T_2, T_l⟩ := T20.out.c3
      obtain ⟨X_0, X_1, X_2, X_3, X_l⟩ := X20.out.c4
      obtain ⟨S1_0, S1_1, S1_l⟩ := S120.out.c2
      obtain ⟨U_0, U_1, U_l⟩ := U20.out.c2
      go_wp2_with fail
      refine (isBlamed5_any Aw Af Ad cw cf cd nd t g i mp q _ HOK.out HT20.out HI20.out HDQ.out.1 HDQ.out.2 HMP.out HQQ.out HII.out).mono ?_
      rintro e w21 ⟨rfl, hb⟩
      rw [HBB.out]
      have hB21 : Below w20.heap.size w20 w21 := bTrans (Below.refl _ _) hb
      have HD21 := Lib.hid (bTrans HD20.out hB21)
      have HT21 := Lib.hid (HT20.out.mono hB21)
      have HTB21 := Lib.hid (HTB20.out.mono hB21)
      have HI21 := Lib.hid (HI20.out.mono hB21)
      have T21 := Lib.hid (T20.out.mono hB21)
      have X21 := Lib.hid (X20.out.mono hB21)
      have S121 := Lib.hid (S120.out.mono hB21)
      have U21 := Lib.hid (U20.out.mono hB21)
      clear hb hB21 HD20 HT20 HTB20 HI20 T20 T_0 T_1 T_2 T_l X20 X_0 X_1 X_2 X_3 X_l S120 S1_0 S1_1 S1_l U20 U_0 U_1 U_l
      obtain ⟨T_0, T_1, T_2, T_l⟩ := T21.out.c3
      obtain ⟨X_0, X_1, X_2, X_3, X_l⟩ := X21.out.c4
      obtain ⟨S1_0, S1_1, S1_l⟩ := S121.out.c2
      obtain ⟨U_0, U_1, U_l⟩ := U21.out.c2
      go_wp2_with fail
      refine (works5_any _ HTB21.out).mono ?_
      rintro e w99 ⟨rfl, hb99⟩
      go_wp2_with fail
      go_ret
      exact ⟨rfl, bTrans HD21.out hb99⟩
end Go.Proofs.YtchhodikgllgnaaDoor
