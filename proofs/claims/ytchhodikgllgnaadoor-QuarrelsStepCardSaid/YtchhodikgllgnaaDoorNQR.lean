/- Parts joined. -/
import Derived.Test.YtchhodikgllgnaaDoorNQP
import Derived.Test.YtchhodikgllgnaaDoorNQQ
import Derived.Test.YtchhodikgllgnaaDoorNQJ
set_option linter.unusedSimpArgs false
set_option linter.unusedVariables false
/- The statement QuarrelsStep: the walk. Conditions: what is read fits into memory; the listed table holds what it holds. -/
namespace Go.Proofs.YtchhodikgllgnaaDoor
open Go.RowKit Go.Sort
set_option maxHeartbeats 8000000 in
set_option maxRecDepth 100000 in
theorem quarrelsStep_any (Aw Af : Option Addr) (cw cf : Nat) (t : Qt)  (w : World) (hf : t.Fits) (hT : QAt w Aw Af t) (hB : TabAt w) :
    Calls Tryd.prog 8 #[.agg #[.int .i64 t.wells, .slice Aw t.nw cw, .slice Af t.nf cf]] w fun e w' => e = .returned (.bool true) ∧ Below w.heap.size w w' := by
  have HT0 := Lib.hid hT
  have HTB0 := Lib.hid hB
  have HD0 := Lib.hid (Below.refl w.heap.size w)
  have HS := Lib.hid hf.small
  have HF := Lib.hid hf
  clear hT hB hf
  go_enter Tryd.func8, Tryd.ntmps8
  go_wp2_with fail
  refine (ready_any _ _ _ _ t _ HS.out (HT0.out.mono (bAlloc (Below.refl _ _) (.cells #[.int .i64 t.wells, .slice Aw t.nw cw, .slice Af t.nf cf] 25)))).mono ?_
  rintro e w1 ⟨rfl, hb⟩
  have hB1 : Below w.heap.size w w1 := bTrans (bAlloc (Below.refl _ _) (.cells #[.int .i64 t.wells, .slice Aw t.nw cw, .slice Af t.nf cf] 25)) hb
  have HD1 := Lib.hid (bTrans HD0.out hB1)
  have HT1 := Lib.hid (HT0.out.mono hB1)
  have HTB1 := Lib.hid (HTB0.out.mono hB1)
  have T1 := Lib.hid (show TBox w1 w.heap.size 25 #[.int .i64 t.wells, .slice Aw t.nw cw, .slice Af t.nf cf] from by have := ((TBox.new w #[.int .i64 t.wells, .slice Aw t.nw cw, .slice Af t.nf cf] 25).mono (Below.refl _ _)).mono hb; simpa using this)
  clear hb hB1 HD0 HT0 HTB0
  obtain ⟨T_0, T_1, T_2, T_l⟩ := T1.out.c3
  obtain ⟨bq, hbq⟩ : ∃ b, t.readyB = b := ⟨_, rfl⟩
  rw [hbq]
  have HR1 := Lib.hid hbq
  clear hbq
  cases bq
  case false =>
    go_wp2_with fail
    refine (works5_any _ HTB1.out).mono ?_
    rintro e w99 ⟨rfl, hb99⟩
    go_wp2_with fail
    go_ret
    exact ⟨rfl, bTrans HD1.out hb99⟩
  have HOK := Lib.hid (readyB_ok HR1.out).1
  by_cases h5 : (t.nf : Int) > 5
  case pos =>
    go_wp2_with fail
    refine (works5_any _ HTB1.out).mono ?_
    rintro e w99 ⟨rfl, hb99⟩
    go_wp2_with fail
    go_ret
    exact ⟨rfl, bTrans HD1.out hb99⟩
  have H5 := Lib.hid (show t.nf ≤ 5 by omega)
  go_wp2_with fail
  refine (refLeftOf Aw Af cw cf t _ HOK.out HT1.out).mono ?_
  rintro e w2 ⟨⟨v, rfl, hv⟩, hb⟩
  obtain ⟨A4, c4, rfl, hr4⟩ := hv.nums
  have hB2 : Below w1.heap.size w1 w2 := bTrans (Below.refl _ _) hb
  have HD2 := Lib.hid (bTrans HD1.out hB2)
  have HT2 := Lib.hid (HT1.out.mono hB2)
  have HTB2 := Lib.hid (HTB1.out.mono hB2)
  have HLR2 := Lib.hid (hr4)
  have T2 := Lib.hid (T1.out.mono hB2)
  clear hb hB2 HD1 HT1 HTB1 T1 T_0 T_1 T_2 T_l
  obtain ⟨T_0, T_1, T_2, T_l⟩ := T2.out.c3
  clear hv hr4
  obtain ⟨n, hn⟩ : ∃ n, t.leftL.length = n := ⟨_, rfl⟩
  rw [hn]
  have HN := Lib.hid hn
  have n6 : n ≤ 6 := by rw [← hn]; exact left_six HOK.out
  clear hn
  obtain ⟨nl, hnl⟩ : ∃ m, (lstO (t.knowErr true) (t.fewest t.leftL)).length = m := ⟨_, rfl⟩
  have HNL := Lib.hid hnl
  clear hnl
  obtain ⟨q1, hq1⟩ : ∃ v : Nat, t.nextOut.1 = v := ⟨_, rfl⟩
  obtain ⟨q2, hq2⟩ : ∃ v : Nat, t.nextOut.2 = v := ⟨_, rfl⟩
  have HW := Lib.hid (And.intro hq1 hq2)
  clear hq1 hq2
  obtain ⟨dv, hdv⟩ : ∃ v, t.depthOut = v := ⟨_, rfl⟩
  have HDV := Lib.hid hdv
  clear hdv
  by_cases hnil : t.leftL = []
  case pos =>
    have HKE := Lib.hid (step_none HOK.out hnil).1
    have HEN := Lib.hid (step_none HOK.out hnil).2
    have hn0 : n = 0 := by rw [← HN.out, hnil]; rfl
    subst hn0
    clear hnil
    go_wp2_with fail
    refine (depthQ_any Aw Af cw cf t _ HS.out HT2.out HTB2.out).mono ?_
    rintro e w3 ⟨rfl, hb⟩
    rw [HKE.out, HDV.out]
    have hB3 : Below w2.heap.size w2 w3 := bTrans (Below.refl _ _) hb
    have HD3 := Lib.hid (bTrans HD2.out hB3)
    have HT3 := Lib.hid (HT2.out.mono hB3)
    have HTB3 := Lib.hid (HTB2.out.mono hB3)
    have HLR3 := Lib.hid (HLR2.out.mono hB3)
    have T3 := Lib.hid (T2.out.mono hB3)
    clear hb hB3 HD2 HT2 HTB2 HLR2 T2 T_0 T_1 T_2 T_l
    obtain ⟨T_0, T_1, T_2, T_l⟩ := T3.out.c3
    go_wp2_with fail
    refine (fewestQ_any Aw Af cw cf t _ HS.out HT3.out HTB3.out).mono ?_
    rintro e w4 ⟨ho, hb⟩
    obtain ⟨L1A, L1c, rfl, hrow⟩ := ho.o
    rw [HNL.out]
    have hB4 : Below w3.heap.size w3 w4 := bTrans (Below.refl _ _) hb
    have HD4 := Lib.hid (bTrans HD3.out hB4)
    have HT4 := Lib.hid (HT3.out.mono hB4)
    have HTB4 := Lib.hid (HTB3.out.mono hB4)
    have HLR4 := Lib.hid (HLR3.out.mono hB4)
    have HL14 := Lib.hid (hrow)
    have T4 := Lib.hid (T3.out.mono hB4)
    clear hb hB4 HD3 HT3 HTB3 HLR3 T3 T_0 T_1 T_2 T_l
    obtain ⟨T_0, T_1, T_2, T_l⟩ := T4.out.c3
    clear ho hrow
    rw [HKE.out]
    go_wp2_with fail
    refine (nextQ_any Aw Af cw cf t _ HS.out HT4.out HTB4.out).mono ?_
    rintro e w5 ⟨rfl, hb⟩
    rw [HW.out.1, HW.out.2, HEN.out]
    have hB5 : Below w4.heap.size w4 w5 := bTrans (Below.refl _ _) hb
    have HD5 := Lib.hid (bTrans HD4.out hB5)
    have HT5 := Lib.hid (HT4.out.mono hB5)
    have HTB5 := Lib.hid (HTB4.out.mono hB5)
    have HLR5 := Lib.hid (HLR4.out.mono hB5)
    have HL15 := Lib.hid (HL14.out.mono hB5)
    have T5 := Lib.hid (T4.out.mono hB5)
    clear hb hB5 HD4 HT4 HTB4 HLR4 HL14 T4 T_0 T_1 T_2 T_l
    obtain ⟨T_0, T_1, T_2, T_l⟩ := T5.out.c3
    go_wp2_with fail
    refine (works5_any _ (HTB5.out.mono (bAlloc (Below.refl _ _) (.cells #[.int .i64 (q1 : Int), .int .i64 (q2 : Int)] 27)))).mono ?_
    rintro e w99 ⟨rfl, hb99⟩
    go_wp2_with fail
    go_ret
    exact ⟨rfl, bTrans (bTrans HD5.out (bAlloc (Below.refl _ _) (.cells #[.int .i64 (q1 : Int), .int .i64 (q2 : Int)] 27))) hb99⟩
  have HKE := Lib.hid (step_some HOK.out hnil).1
  have hst := (step_some HOK.out hnil).2
  have n0 : (n == 0) = false := by simp; rw [← HN.out]; exact fun h => hnil (List.eq_nil_of_length_eq_zero h)
  have n00 : 0 < n := by rw [← HN.out]; exact List.length_pos_iff.2 hnil
  have n0i : ((n : Int) == 0) = false := by simp; omega
  have hlo : lstO 0 (t.fewest t.leftL) = lstO (t.knowErr true) (t.fewest t.leftL) := by rw [HKE.out]
  rw [HDV.out, HN.out, hlo, HNL.out] at hst
  have d1 : ¬ dv < 0 := by omega
  have d2 : ¬ dv > (nl : Int) := by omega
  have d3 : ¬ dv ≥ (n : Int) := by omega
  have HDD := Lib.hid hst.2.1
  clear hlo
  rcases hst.2.2.2.2 with ⟨hd0, hen, hal⟩ | ⟨hd0, hen, hal, hnx, hmem⟩
  · skip
    have HEN := Lib.hid hen
    have HAL := Lib.hid hal
    subst hd0
    clear hst hen hal hnil
    go_wp2_with fail
    refine (depthQ_any Aw Af cw cf t _ HS.out HT2.out HTB2.out).mono ?_
    rintro e w3 ⟨rfl, hb⟩
    rw [HKE.out, HDV.out]
    have hB3 : Below w2.heap.size w2 w3 := bTrans (Below.refl _ _) hb
    have HD3 := Lib.hid (bTrans HD2.out hB3)
    have HT3 := Lib.hid (HT2.out.mono hB3)
    have HTB3 := Lib.hid (HTB2.out.mono hB3)
    have HLR3 := Lib.hid (HLR2.out.mono hB3)
    have T3 := Lib.hid (T2.out.mono hB3)
    clear hb hB3 HD2 HT2 HTB2 HLR2 T2 T_0 T_1 T_2 T_l
    obtain ⟨T_0, T_1, T_2, T_l⟩ := T3.out.c3
    go_wp2_with fail
    refine (fewestQ_any Aw Af cw cf t _ HS.out HT3.out HTB3.out).mono ?_
    rintro e w4 ⟨ho, hb⟩
    obtain ⟨L1A, L1c, rfl, hrow⟩ := ho.o
    rw [HNL.out]
    have hB4 : Below w3.heap.size w3 w4 := bTrans (Below.refl _ _) hb
    have HD4 := Lib.hid (bTrans HD3.out hB4)
    have HT4 := Lib.hid (HT3.out.mono hB4)
    have HTB4 := Lib.hid (HTB3.out.mono hB4)
    have HLR4 := Lib.hid (HLR3.out.mono hB4)
    have HL14 := Lib.hid (hrow)
    have T4 := Lib.hid (T3.out.mono hB4)
    clear hb hB4 HD3 HT3 HTB3 HLR3 T3 T_0 T_1 T_2 T_l
    obtain ⟨T_0, T_1, T_2, T_l⟩ := T4.out.c3
    clear ho hrow
    rw [HKE.out]
    go_wp2_with fail
    refine (nextQ_any Aw Af cw cf t _ HS.out HT4.out HTB4.out).mono ?_
    rintro e w5 ⟨rfl, hb⟩
    rw [HW.out.1, HW.out.2, HEN.out]
    have hB5 : Below w4.heap.size w4 w5 := bTrans (Below.refl _ _) hb
    have HD5 := Lib.hid (bTrans HD4.out hB5)
    have HT5 := Lib.hid (HT4.out.mono hB5)
    have HTB5 := Lib.hid (HTB4.out.mono hB5)
    have HLR5 := Lib.hid (HLR4.out.mono hB5)
    have HL15 := Lib.hid (HL14.out.mono hB5)
    have T5 := Lib.hid (T4.out.mono hB5)
    clear hb hB5 HD4 HT4 HTB4 HLR4 HL14 T4 T_0 T_1 T_2 T_l
    obtain ⟨T_0, T_1, T_2, T_l⟩ := T5.out.c3
    go_wp2_with fail
    refine (isKnown_any 3 _).mono ?_
    rintro e w6 ⟨rfl, hb⟩
    have hB6 : Below w5.heap.size w5 w6 := bTrans (bAlloc (Below.refl _ _) (.cells #[.int .i64 (q1 : Int), .int .i64 (q2 : Int)] 27)) hb
    have HD6 := Lib.hid (bTrans HD5.out hB6)
    have HT6 := Lib.hid (HT5.out.mono hB6)
    have HTB6 := Lib.hid (HTB5.out.mono hB6)
    have HLR6 := Lib.hid (HLR5.out.mono hB6)
    have HL16 := Lib.hid (HL15.out.mono hB6)
    have T6 := Lib.hid (T5.out.mono hB6)
    have S16 := Lib.hid (show TBox w6 w5.heap.size 27 #[.int .i64 (q1 : Int), .int .i64 (q2 : Int)] from by have := ((TBox.new w5 #[.int .i64 (q1 : Int), .int .i64 (q2 : Int)] 27).mono (Below.refl _ _)).mono hb; simpa using this)
    clear hb hB6 HD5 HT5 HTB5 HLR5 HL15 T5 T_0 T_1 T_2 T_l
    obtain ⟨T_0, T_1, T_2, T_l⟩ := T6.out.c3
    obtain ⟨S1_0, S1_1, S1_l⟩ := S16.out.c2
    go_wp2_with fail
    refine ((by have := allApart5_any Aw Af none A4 cw cf 0 c4 t [] t.leftL w6 HOK.out HT6.out (fun x hx => by cases hx) (by simp) (.inl rfl) left_worlds (by have := left_six HOK.out; omega) HLR6.out; rw [HN.out, HAL.out] at this; exact this : Calls Tryd.prog 29 #[.agg #[.int .i64 t.wells, .slice Aw t.nw cw, .slice Af t.nf cf], .slice none 0 0, .slice A4 n c4] w6 fun e w' => e = .returned (.bool true) ∧ Below w6.heap.size w6 w')).mono ?_
    rintro e w7 ⟨rfl, hb⟩
    have hB7 : Below w6.heap.size w6 w7 := bTrans (Below.refl _ _) hb
    have HD7 := Lib.hid (bTrans HD6.out hB7)
    have HT7 := Lib.hid (HT6.out.mono hB7)
    have HTB7 := Lib.hid (HTB6.out.mono hB7)
    have HLR7 := Lib.hid (HLR6.out.mono hB7)
    have HL17 := Lib.hid (HL16.out.mono hB7)
    have T7 := Lib.hid (T6.out.mono hB7)
    have S17 := Lib.hid (S16.out.mono hB7)
    clear hb hB7 HD6 HT6 HTB6 HLR6 HL16 T6 T_0 T_1 T_2 T_l S16 S1_0 S1_1 S1_l
    obtain ⟨T_0, T_1, T_2, T_l⟩ := T7.out.c3
    obtain ⟨S1_0, S1_1, S1_l⟩ := S17.out.c2
    go_wp2_with fail
    refine (works5_any _ HTB7.out).mono ?_
    rintro e w99 ⟨rfl, hb99⟩
    go_wp2_with fail
    go_ret
    exact ⟨rfl, bTrans HD7.out hb99⟩
  · skip
    have HEN := Lib.hid hen
    have HAL := Lib.hid hal
    have HNX := Lib.hid hnx
    have HMEM := Lib.hid hmem
    have d4 : (dv == 0) = false := by simp; omega
    have d5 : ¬ dv = 0 := by omega
    clear hst hen hal hnx hmem hnil
    go_wp2_with fail
    refine (depthQ_any Aw Af cw cf t _ HS.out HT2.out HTB2.out).mono ?_
    rintro e w3 ⟨rfl, hb⟩
    rw [HKE.out, HDV.out]
    have hB3 : Below w2.heap.size w2 w3 := bTrans (Below.refl _ _) hb
    have HD3 := Lib.hid (bTrans HD2.out hB3)
    have HT3 := Lib.hid (HT2.out.mono hB3)
    have HTB3 := Lib.hid (HTB2.out.mono hB3)
    have HLR3 := Lib.hid (HLR2.out.mono hB3)
    have T3 := Lib.hid (T2.out.mono hB3)
    clear hb hB3 HD2 HT2 HTB2 HLR2 T2 T_0 T_1 T_2 T_l
    obtain ⟨T_0, T_1, T_2, T_l⟩ := T3.out.c3
    go_wp2_with fail
    refine (fewestQ_any Aw Af cw cf t _ HS.out HT3.out HTB3.out).mono ?_
    rintro e w4 ⟨ho, hb⟩
    obtain ⟨L1A, L1c, rfl, hrow⟩ := ho.o
    rw [HNL.out]
    have hB4 : Below w3.heap.size w3 w4 := bTrans (Below.refl _ _) hb
    have HD4 := Lib.hid (bTrans HD3.out hB4)
    have HT4 := Lib.hid (HT3.out.mono hB4)
    have HTB4 := Lib.hid (HTB3.out.mono hB4)
    have HLR4 := Lib.hid (HLR3.out.mono hB4)
    have HL14 := Lib.hid (hrow)
    have T4 := Lib.hid (T3.out.mono hB4)
    clear hb hB4 HD3 HT3 HTB3 HLR3 T3 T_0 T_1 T_2 T_l
    obtain ⟨T_0, T_1, T_2, T_l⟩ := T4.out.c3
    clear ho hrow
    rw [HKE.out]
    go_wp2_with fail
    refine (nextQ_any Aw Af cw cf t _ HS.out HT4.out HTB4.out).mono ?_
    rintro e w5 ⟨rfl, hb⟩
    rw [HW.out.1, HW.out.2, HEN.out]
    have hB5 : Below w4.heap.size w4 w5 := bTrans (Below.refl _ _) hb
    have HD5 := Lib.hid (bTrans HD4.out hB5)
    have HT5 := Lib.hid (HT4.out.mono hB5)
    have HTB5 := Lib.hid (HTB4.out.mono hB5)
    have HLR5 := Lib.hid (HLR4.out.mono hB5)
    have HL15 := Lib.hid (HL14.out.mono hB5)
    have T5 := Lib.hid (T4.out.mono hB5)
    clear hb hB5 HD4 HT4 HTB4 HLR4 HL14 T4 T_0 T_1 T_2 T_l
    obtain ⟨T_0, T_1, T_2, T_l⟩ := T5.out.c3
    go_wp2_with fail
    refine (isKnown_any 0 _).mono ?_
    rintro e w6 ⟨rfl, hb⟩
    have hB6 : Below w5.heap.size w5 w6 := bTrans (bAlloc (Below.refl _ _) (.cells #[.int .i64 (q1 : Int), .int .i64 (q2 : Int)] 27)) hb
    have HD6 := Lib.hid (bTrans HD5.out hB6)
    have HT6 := Lib.hid (HT5.out.mono hB6)
    have HTB6 := Lib.hid (HTB5.out.mono hB6)
    have HLR6 := Lib.hid (HLR5.out.mono hB6)
    have HL16 := Lib.hid (HL15.out.mono hB6)
    have T6 := Lib.hid (T5.out.mono hB6)
    have S16 := Lib.hid (show TBox w6 w5.heap.size 27 #[.int .i64 (q1 : Int), .int .i64 (q2 : Int)] from by have := ((TBox.new w5 #[.int .i64 (q1 : Int), .int .i64 (q2 : Int)] 27).mono (Below.refl _ _)).mono hb; simpa using this)
    clear hb hB6 HD5 HT5 HTB5 HLR5 HL15 T5 T_0 T_1 T_2 T_l
    obtain ⟨T_0, T_1, T_2, T_l⟩ := T6.out.c3
    obtain ⟨S1_0, S1_1, S1_l⟩ := S16.out.c2
    go_wp2_with fail
    refine ((by have := allApart5_any Aw Af none A4 cw cf 0 c4 t [] t.leftL w6 HOK.out HT6.out (fun x hx => by cases hx) (by simp) (.inl rfl) left_worlds (by have := left_six HOK.out; omega) HLR6.out; rw [HN.out, HAL.out] at this; exact this : Calls Tryd.prog 29 #[.agg #[.int .i64 t.wells, .slice Aw t.nw cw, .slice Af t.nf cf], .slice none 0 0, .slice A4 n c4] w6 fun e w' => e = .returned (.bool false) ∧ Below w6.heap.size w6 w')).mono ?_
    rintro e w7 ⟨rfl, hb⟩
    have hB7 : Below w6.heap.size w6 w7 := bTrans (Below.refl _ _) hb
    have HD7 := Lib.hid (bTrans HD6.out hB7)
    have HT7 := Lib.hid (HT6.out.mono hB7)
    have HTB7 := Lib.hid (HTB6.out.mono hB7)
    have HLR7 := Lib.hid (HLR6.out.mono hB7)
    have HL17 := Lib.hid (HL16.out.mono hB7)
    have T7 := Lib.hid (T6.out.mono hB7)
    have S17 := Lib.hid (S16.out.mono hB7)
    clear hb hB7 HD6 HT6 HTB6 HLR6 HL16 T6 T_0 T_1 T_2 T_l S16 S1_0 S1_1 S1_l
    obtain ⟨T_0, T_1, T_2, T_l⟩ := T7.out.c3
    obtain ⟨S1_0, S1_1, S1_l⟩ := S17.out.c2
    go_wp2_with fail
    have hmm := testsL_mem.1 HMEM.out
    rw [HW.out.1, HW.out.2] at hmm
    have HP := Lib.hid (show (q1 : Int) < t.wells by have := HOK.out.w0; have := hmm.1; omega)
    have HQ := Lib.hid (show (q2 : Int) < t.wells by have := HOK.out.w0; have := hmm.2; omega)
    have HNO := Lib.hid (show t.nextOut = (q1, q2) from Prod.ext HW.out.1 HW.out.2)
    clear hmm
    refine (isTest5_any Aw Af cw cf t (q1 : Int) (q2 : Int) _).mono ?_
    rintro e w8 ⟨rfl, hb⟩
    rw [show t.testB (q1 : Int) (q2 : Int) = true by unfold Qt.testB; rw [wellB_in HOK.out HP.out, wellB_in HOK.out HQ.out]; rfl]
    have hB8 : Below w7.heap.size w7 w8 := bTrans (Below.refl _ _) hb
    have HD8 := Lib.hid (bTrans HD7.out hB8)
    have HT8 := Lib.hid (HT7.out.mono hB8)
    have HTB8 := Lib.hid (HTB7.out.mono hB8)
    have HLR8 := Lib.hid (HLR7.out.mono hB8)
    have HL18 := Lib.hid (HL17.out.mono hB8)
    have T8 := Lib.hid (T7.out.mono hB8)
    have S18 := Lib.hid (S17.out.mono hB8)
    clear hb hB8 HD7 HT7 HTB7 HLR7 HL17 T7 T_0 T_1 T_2 T_l S17 S1_0 S1_1 S1_l
    obtain ⟨T_0, T_1, T_2, T_l⟩ := T8.out.c3
    obtain ⟨S1_0, S1_1, S1_l⟩ := S18.out.c2
    go_wp2_with fail
    go_loopw [10, 11] (fun s10 s11 wr => ∃ k : Nat, k ≤ 10 ∧ s11 = .int .i64 (k : Int) ∧ s10 = .int .i64 (maxTo (stepG t (q1, q2)) k) ∧ Below w8.heap.size w8 wr) (fun _ s _ => 10 - (intOf s).toNat)
    case atStart => exact ⟨0, by omega, rfl, rfl, Below.refl _ _⟩
    case round =>
      obtain ⟨k, hk, rfl, rfl, hb⟩ := hrel
      obtain ⟨m, hm⟩ : ∃ m, maxTo (stepG t (q1, q2)) k = m := ⟨_, rfl⟩
      have HM := Lib.hid hm
      have HM0 := Lib.hid (show 0 ≤ m by rw [← hm]; exact maxTo_nonneg _ _)
      rw [hm]
      clear hm
      have hB9 : Below w8.heap.size w8 wr := bTrans (Below.refl _ _) hb
      have HD9 := Lib.hid (bTrans HD8.out hB9)
      have HT9 := Lib.hid (HT8.out.mono hB9)
      have HTB9 := Lib.hid (HTB8.out.mono hB9)
      have HLR9 := Lib.hid (HLR8.out.mono hB9)
      have HL19 := Lib.hid (HL18.out.mono hB9)
      have HRL9 := Lib.hid ((show Upto w8 wr from hb))
      have T9 := Lib.hid (T8.out.mono hB9)
      have S19 := Lib.hid (S18.out.mono hB9)
      clear hb hB9 HD8 HT8 HTB8 HLR8 HL18 T8 T_0 T_1 T_2 T_l S18 S1_0 S1_1 S1_l
      obtain ⟨T_0, T_1, T_2, T_l⟩ := T9.out.c3
      obtain ⟨S1_0, S1_1, S1_l⟩ := S19.out.c2
      by_cases hlt : k < 10
      case pos =>
        have k1 : (k : Int) ≤ 9 := by omega
        have HG := Lib.hid (step_less HOK.out (x := (q1, q2)) (by rw [HNX.out, HNO.out]) hlt)
        have HSH := Lib.hid (by
          have := shown5_any Aw Af A4 cw cf c4 t q1 q2 t.leftL (k : Int) wr HOK.out HT9.out HP.out HQ.out left_worlds (by have := left_six HOK.out; omega) HLR9.out
          rw [HN.out] at this
          exact this : Calls Tryd.prog 47 #[.agg #[.int .i64 t.wells, .slice Aw t.nw cw, .slice Af t.nf cf], .agg #[.int .i64 (q1 : Int), .int .i64 (q2 : Int)], .slice A4 n c4, .int .i64 (k : Int)] wr fun e w' => (∃ v, e = .returned v ∧ OwnL w' wr.heap.size v (t.shown (q1, q2) t.leftL k)) ∧ Below wr.heap.size wr w')
        go_wp2_with fail
        refine (HSH.out).mono ?_
        rintro e w10 ⟨⟨v, rfl, hv⟩, hb⟩
        obtain ⟨A9, c9, rfl, _⟩ := hv.nums
        have hB10 : Below wr.heap.size wr w10 := bTrans (Below.refl _ _) hb
        have HD10 := Lib.hid (bTrans HD9.out hB10)
        have HT10 := Lib.hid (HT9.out.mono hB10)
        have HTB10 := Lib.hid (HTB9.out.mono hB10)
        have HLR10 := Lib.hid (HLR9.out.mono hB10)
        have HL110 := Lib.hid (HL19.out.mono hB10)
        have HRL10 := Lib.hid (HRL9.out.mono hB10)
        have T10 := Lib.hid (T9.out.mono hB10)
        have S110 := Lib.hid (S19.out.mono hB10)
        clear hb hB10 HD9 HT9 HTB9 HLR9 HL19 HRL9 T9 T_0 T_1 T_2 T_l S19 S1_0 S1_1 S1_l
        obtain ⟨T_0, T_1, T_2, T_l⟩ := T10.out.c3
        obtain ⟨S1_0, S1_1, S1_l⟩ := S110.out.c2
        clear hv HSH
        obtain ⟨n9, hn9⟩ : ∃ n9, (t.shown (q1, q2) t.leftL (k : Int)).length = n9 := ⟨_, rfl⟩
        rw [hn9]
        have HN9 := Lib.hid hn9
        clear hn9
        by_cases h9 : n9 = 0
        case pos =>
          subst h9
          have HR := Lib.hid (show maxTo (stepG t (q1, q2)) (k + 1) = m by rw [maxTo_succ, HM.out, step_empty (List.eq_nil_of_length_eq_zero HN9.out), if_neg (by have := HM0.out; omega)])
          go_wp2_with fail
          go_roundw
          case rel =>
            have hz := HRL10.out
            first
            | exact ⟨k + 1, by omega, by go_num, by rw [HR.out], hz⟩
            | ((repeat apply Exists.intro)
               refine ⟨⟨k + 1, by omega, ?_, by rw [HR.out], hz⟩, rfl⟩
               go_num)
          case measure => simp [intOf]; omega
        have h90 : (n9 == 0) = false := by simp; omega
        have h90i : ((n9 : Int) == 0) = false := by simp; omega
        have HND := Lib.hid (shown_depth HOK.out H5.out (by have := HMEM.out; rw [HNO.out] at this; exact this) hlt (fun h => h9 (by rw [← HN9.out, h]; rfl)))
        obtain ⟨o, ho⟩ : ∃ o, t.add (shownF (q1, q2) (k : Int)) = o := ⟨_, rfl⟩
        have HOA := Lib.hid ho
        have HSO := Lib.hid (show o.Small by rw [← ho]; exact add_small HF.out _)
        rw [ho] at HND
        obtain ⟨d, hd⟩ : ∃ d, stepG t (q1, q2) k = d := ⟨_, rfl⟩
        have HDS := Lib.hid hd
        rw [hd] at HG
        have hd1 : ¬ d < 0 := by have := HG.out.1; omega
        have hd2 : ¬ d ≥ dv := by have := HG.out.2; rw [← HDD.out] at this; omega
        have HND2 := Lib.hid (show o.knowErr true = 0 ∧ o.depthOut = d from ⟨HND.out.1, by rw [HND.out.2, ← hd]; rfl⟩)
        clear ho hd h9
        go_wp2_with fail
        refine wp_region_stir 10 [.const (.agg #[.int .i64 t.wells, .slice Aw t.nw cw, .slice Af t.nf cf]), .const (.agg #[.int .i64 (q1 : Int), .int .i64 (q2 : Int)]), .const (.int .i64 (k : Int)), .const (.agg #[.int .i64 (q1 : Int), .int .i64 1, .int .i64 (q2 : Int), .int .i64 (k : Int), .int .i64 (k : Int)]), .held (twcS o.wells o.nw o.nf) (twcR 0 o), .const (.tuple #[.int .i64 d, .int .i64 0]), .const (.tuple #[.int .i64 d, .int .i64 0]), .const (.int .i64 d), .const (.int .i64 0), .const (.int .i64 d)]
          (by kernel_rfl) (by kernel_rfl) rfl ⟨trivial, trivial, trivial, trivial, twcG, trivial, trivial, trivial, trivial, trivial, trivial⟩ (crossAll_no _ _ _ _ trivial) ?_
        iterate 3 refine wpStir_const (by go_simp) ?_
        refine wpStir_call rfl (fun w' hb hd => ?_) ?_
        · clear hd
          go_simp
          refine (shownAs5_any q1 q2 (k : Int) w').mono ?_
          rintro e w'' ⟨rfl, hb'⟩
          exact ⟨rfl, hb'⟩
        simp only [Act.put, List.setIfInBounds_toArray, List.set_cons_succ, List.set_cons_zero]
        refine wpStir_held rfl (fun w' hb hd => ?_) (fun v hv => ?_)
        · clear hd
          go_simp
          refine (told5_any Aw Af cw cf t (shownF (q1, q2) (k : Int)) w' HF.out (HT10.out.mono hb)).mono ?_
          rintro e w'' ⟨ho, hb'⟩
          rw [HOA.out] at ho
          obtain ⟨v, rfl, h1, h2⟩ := ho.twc (Nat.zero_le _)
          exact ⟨v, rfl, hb', h1, h2⟩
        obtain ⟨Bw, dw, Bf, df, rfl⟩ := hv
        simp only [Act.put, List.setIfInBounds_toArray, List.set_cons_succ, List.set_cons_zero]
        refine wpStir_call rfl (fun w' hb hd => ?_) ?_
        · have hcp : CopyAt w' 0 (.slice Bw o.nw dw) (.slice Bf o.nf df) o := hd.1 (by kernel_rfl) _ _ rfl
          clear hd
          obtain ⟨A7, c7, A8, c8, e7, e8, hq⟩ := hcp.qat
          simp only [Value.slice.injEq] at e7 e8
          obtain ⟨rfl, _, rfl⟩ := e7
          obtain ⟨rfl, _, rfl⟩ := e8
          have hdc := Lib.hid (depthQ_any Bw Bf dw df o w' HSO.out hq (HTB10.out.mono hb))
          go_simp
          refine hdc.out.mono ?_
          rintro e w'' ⟨rfl, hb'⟩
          exact ⟨by rw [HND2.out.1, HND2.out.2], hb'⟩
        iterate 4 refine wpStir_const (by go_simp) ?_
        refine wpStir_end (fun w11 hb hd => ?_)
        clear hd
        simp only [Act.put, List.setIfInBounds_toArray, List.set_cons_succ, List.set_cons_zero, List.drop_succ_cons, List.drop_zero]
        have hB11 : Below w10.heap.size w10 w11 := bTrans (Below.refl _ _) hb
        have HD11 := Lib.hid (bTrans HD10.out hB11)
        have HT11 := Lib.hid (HT10.out.mono hB11)
        have HTB11 := Lib.hid (HTB10.out.mono hB11)
        have HLR11 := Lib.hid (HLR10.out.mono hB11)
        have HL111 := Lib.hid (HL110.out.mono hB11)
        have HRL11 := Lib.hid (HRL10.out.mono hB11)
        have T11 := Lib.hid (T10.out.mono hB11)
        have S111 := Lib.hid (S110.out.mono hB11)
        clear hb hB11 HD10 HT10 HTB10 HLR10 HL110 HRL10 T10 T_0 T_1 T_2 T_l S110 S1_0 S1_1 S1_l
        obtain ⟨T_0, T_1, T_2, T_l⟩ := T11.out.c3
        obtain ⟨S1_0, S1_1, S1_l⟩ := S111.out.c2
        obtain ⟨m2, hm2⟩ : ∃ m2, (if m < d then d else m) = m2 := ⟨_, rfl⟩
        have HR := Lib.hid (show maxTo (stepG t (q1, q2)) (k + 1) = m2 by rw [maxTo_succ, HM.out, HDS.out, hm2])
        go_wp2_with fail
        go_roundw
        case rel =>
          have hz := HRL11.out
          first
          | exact ⟨k + 1, by omega, by go_num, by rw [HR.out], hz⟩
          | ((repeat apply Exists.intro)
             refine ⟨⟨k + 1, by omega, ?_, by rw [HR.out], hz⟩, rfl⟩
             go_num)
        case measure => simp [intOf]; omega
      obtain rfl : k = 10 := by omega
      have hwm := step_worst HOK.out (x := (q1, q2)) (by rw [HNX.out, HNO.out])
      rw [HM.out, ← HDD.out] at hwm
      have hw63 : dv ≤ 1000 := by have := left_six HOK.out; have := HN.out; omega
      have hwq : IntKind.i64.wrap (dv - 1) = m := by rw [hwm]; exact IntWalk.i64_in _ (by omega)
      have hmm : m = dv - 1 := hwm
      clear hwm
      go_wp2_with fail
      refine (works5_any _ HTB9.out).mono ?_
      rintro e w99 ⟨rfl, hb99⟩
      go_wp2_with fail
      go_ret
      exact ⟨rfl, bTrans HD9.out hb99⟩
end Go.Proofs.YtchhodikgllgnaaDoor
