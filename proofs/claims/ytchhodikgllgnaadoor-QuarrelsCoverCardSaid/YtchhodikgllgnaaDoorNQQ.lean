/- Parts joined. -/
import Derived.Test.YtchhodikgllgnaaDoorNQO
import Derived.Test.YtchhodikgllgnaaDoorNQP
import Derived.Test.YtchhodikgllgnaaDoorNQJ
set_option linter.unusedSimpArgs false
set_option linter.unusedVariables false
/- The walk of alike of the law 05: two towns whose worlds are alike. Conditions: valid towns; the listed table holds what it holds. -/
namespace Go.Proofs.YtchhodikgllgnaaDoor
open Go.RowKit Go.Sort
set_option maxHeartbeats 8000000 in
set_option maxRecDepth 100000 in
theorem alikeS_any (Aw Af Bw Bf : Option Addr) (cw cf dw df : Nat) (t o : Qt) (p q : Nat) (law : Int) (Ad : Option Addr) (nd cd : Nat) (w : World) (hs : t.Small) (hs2 : o.Small) (hT : QAt w Aw Af t) (hQ : QAt w Bw Bf o) (hB : TabAt w) (ha : Alike t o) (hp : (p : Int) < t.wells) (hq : (q : Int) < t.wells) :
    Calls Tryd.prog 65 #[.agg #[.int .i64 t.wells, .slice Aw t.nw cw, .slice Af t.nf cf], .agg #[.int .i64 o.wells, .slice Bw o.nw dw, .slice Bf o.nf df], .agg #[.int .i64 (p : Int), .int .i64 (q : Int), .int .i64 law, .slice Ad nd cd]] w fun e w' => e = .returned (.bool true) ∧ Below w.heap.size w w' := by
  have HT0 := Lib.hid hT
  have HQ0 := Lib.hid hQ
  have HTB0 := Lib.hid hB
  have HD0 := Lib.hid (Below.refl w.heap.size w)
  have HS := Lib.hid hs
  have HSO := Lib.hid hs2
  have HA := Lib.hid ha
  have HP := Lib.hid hp
  have HQQ := Lib.hid hq
  clear hT hQ hB hs hs2 ha hp hq
  go_enter Tryd.func65, Tryd.ntmps65
  go_wp2_with fail
  obtain ⟨nl, hnl⟩ : ∃ n, (lstO (t.knowErr true) (t.fewest t.leftL)).length = n := ⟨_, rfl⟩
  have HNL := Lib.hid hnl
  have HNS := Lib.hid (show (lstO (t.knowErr true) (t.fewest t.leftL)).length ≤ 100000 from fewest_len t)
  clear hnl
  obtain ⟨er2, her2⟩ : ∃ v, t.knowErr true = v := ⟨_, rfl⟩
  have HV2 := Lib.hid her2
  clear her2
  refine (fewestQ_any Aw Af cw cf t _ HS.out (HT0.out.mono (bAlloc (bAlloc (bAlloc (Below.refl _ _) (.cells #[.int .i64 t.wells, .slice Aw t.nw cw, .slice Af t.nf cf] 25)) (.cells #[.int .i64 o.wells, .slice Bw o.nw dw, .slice Bf o.nf df] 25)) (.cells #[.int .i64 (p : Int), .int .i64 (q : Int), .int .i64 law, .slice Ad nd cd] 45))) (HTB0.out.mono (bAlloc (bAlloc (bAlloc (Below.refl _ _) (.cells #[.int .i64 t.wells, .slice Aw t.nw cw, .slice Af t.nf cf] 25)) (.cells #[.int .i64 o.wells, .slice Bw o.nw dw, .slice Bf o.nf df] 25)) (.cells #[.int .i64 (p : Int), .int .i64 (q : Int), .int .i64 law, .slice Ad nd cd] 45)))).mono ?_
  rintro e w1 ⟨ho, hb⟩
  obtain ⟨L1A, L1c, rfl, hrow⟩ := ho.o
  rw [HNL.out]
  have hB1 : Below w.heap.size w w1 := bTrans (bAlloc (bAlloc (bAlloc (Below.refl _ _) (.cells #[.int .i64 t.wells, .slice Aw t.nw cw, .slice Af t.nf cf] 25)) (.cells #[.int .i64 o.wells, .slice Bw o.nw dw, .slice Bf o.nf df] 25)) (.cells #[.int .i64 (p : Int), .int .i64 (q : Int), .int .i64 law, .slice Ad nd cd] 45)) hb
  have HD1 := Lib.hid (bTrans HD0.out hB1)
  have HT1 := Lib.hid (HT0.out.mono hB1)
  have HQ1 := Lib.hid (HQ0.out.mono hB1)
  have HTB1 := Lib.hid (HTB0.out.mono hB1)
  have HL11 := Lib.hid (hrow)
  have T1 := Lib.hid (show TBox w1 w.heap.size 25 #[.int .i64 t.wells, .slice Aw t.nw cw, .slice Af t.nf cf] from by have := ((TBox.new w #[.int .i64 t.wells, .slice Aw t.nw cw, .slice Af t.nf cf] 25).mono (bAlloc (bAlloc (Below.refl _ _) (.cells #[.int .i64 o.wells, .slice Bw o.nw dw, .slice Bf o.nf df] 25)) (.cells #[.int .i64 (p : Int), .int .i64 (q : Int), .int .i64 law, .slice Ad nd cd] 45))).mono hb; simpa using this)
  have O1 := Lib.hid (show TBox w1 (w.heap.size + 1) 25 #[.int .i64 o.wells, .slice Bw o.nw dw, .slice Bf o.nf df] from by have := ((TBox.new (w.alloc (.cells #[.int .i64 t.wells, .slice Aw t.nw cw, .slice Af t.nf cf] 25)) #[.int .i64 o.wells, .slice Bw o.nw dw, .slice Bf o.nf df] 25).mono (bAlloc (Below.refl _ _) (.cells #[.int .i64 (p : Int), .int .i64 (q : Int), .int .i64 law, .slice Ad nd cd] 45))).mono hb; simpa using this)
  have X1 := Lib.hid (show TBox w1 (w.heap.size + 1 + 1) 45 #[.int .i64 (p : Int), .int .i64 (q : Int), .int .i64 law, .slice Ad nd cd] from by have := ((TBox.new ((w.alloc (.cells #[.int .i64 t.wells, .slice Aw t.nw cw, .slice Af t.nf cf] 25)).alloc (.cells #[.int .i64 o.wells, .slice Bw o.nw dw, .slice Bf o.nf df] 25)) #[.int .i64 (p : Int), .int .i64 (q : Int), .int .i64 law, .slice Ad nd cd] 45).mono (Below.refl _ _)).mono hb; simpa using this)
  clear hb hB1 HD0 HT0 HQ0 HTB0
  obtain ⟨T_0, T_1, T_2, T_l⟩ := T1.out.c3
  obtain ⟨O_0, O_1, O_2, O_l⟩ := O1.out.c3
  obtain ⟨X_0, X_1, X_2, X_3, X_l⟩ := X1.out.c4
  clear ho hrow
  rw [HV2.out]
  go_wp2_with fail
  refine ((by have := fewestQ_any Bw Bf dw df o w1 HSO.out HQ1.out HTB1.out; rw [← HA.out.know true, ← HA.out.fewest] at this; exact this : Calls Tryd.prog 22 #[.agg #[.int .i64 o.wells, .slice Bw o.nw dw, .slice Bf o.nf df]] w1 fun e w' => LstOut w' (t.knowErr true) (t.fewest t.leftL) e ∧ Below w1.heap.size w1 w')).mono ?_
  rintro e w2 ⟨ho, hb⟩
  obtain ⟨L2A, L2c, rfl, hrow⟩ := ho.o
  rw [HNL.out]
  have hB2 : Below w1.heap.size w1 w2 := bTrans (Below.refl _ _) hb
  have HD2 := Lib.hid (bTrans HD1.out hB2)
  have HT2 := Lib.hid (HT1.out.mono hB2)
  have HQ2 := Lib.hid (HQ1.out.mono hB2)
  have HTB2 := Lib.hid (HTB1.out.mono hB2)
  have HL12 := Lib.hid (HL11.out.mono hB2)
  have HL22 := Lib.hid (hrow)
  have T2 := Lib.hid (T1.out.mono hB2)
  have O2 := Lib.hid (O1.out.mono hB2)
  have X2 := Lib.hid (X1.out.mono hB2)
  clear hb hB2 HD1 HT1 HQ1 HTB1 HL11 T1 T_0 T_1 T_2 T_l O1 O_0 O_1 O_2 O_l X1 X_0 X_1 X_2 X_3 X_l
  obtain ⟨T_0, T_1, T_2, T_l⟩ := T2.out.c3
  obtain ⟨O_0, O_1, O_2, O_l⟩ := O2.out.c3
  obtain ⟨X_0, X_1, X_2, X_3, X_l⟩ := X2.out.c4
  clear ho hrow
  rw [HV2.out]
  go_wp2_with fail
  obtain ⟨nm, hnm⟩ : ∃ n, (lstO (t.decErr p q law) (t.decL p q law)).length = n := ⟨_, rfl⟩
  have HNM := Lib.hid hnm
  have HNSM := Lib.hid (decide_len t p q law)
  clear hnm
  obtain ⟨er3, her3⟩ : ∃ v, t.decErr p q law = v := ⟨_, rfl⟩
  have HV3 := Lib.hid her3
  clear her3
  have HDE := Lib.hid (HA.out.dec HP.out HQQ.out law)
  refine (decideQ_any Aw Af cw cf t (p : Int) (q : Int) law _ HS.out HT2.out HTB2.out).mono ?_
  rintro e w3 ⟨ho, hb⟩
  obtain ⟨L3A, L3c, rfl, hrow⟩ := ho.o
  rw [HNM.out]
  have hB3 : Below w2.heap.size w2 w3 := bTrans (Below.refl _ _) hb
  have HD3 := Lib.hid (bTrans HD2.out hB3)
  have HT3 := Lib.hid (HT2.out.mono hB3)
  have HQ3 := Lib.hid (HQ2.out.mono hB3)
  have HTB3 := Lib.hid (HTB2.out.mono hB3)
  have HL13 := Lib.hid (HL12.out.mono hB3)
  have HL23 := Lib.hid (HL22.out.mono hB3)
  have HL33 := Lib.hid (hrow)
  have T3 := Lib.hid (T2.out.mono hB3)
  have O3 := Lib.hid (O2.out.mono hB3)
  have X3 := Lib.hid (X2.out.mono hB3)
  clear hb hB3 HD2 HT2 HQ2 HTB2 HL12 HL22 T2 T_0 T_1 T_2 T_l O2 O_0 O_1 O_2 O_l X2 X_0 X_1 X_2 X_3 X_l
  obtain ⟨T_0, T_1, T_2, T_l⟩ := T3.out.c3
  obtain ⟨O_0, O_1, O_2, O_l⟩ := O3.out.c3
  obtain ⟨X_0, X_1, X_2, X_3, X_l⟩ := X3.out.c4
  clear ho hrow
  rw [HV3.out]
  go_wp2_with fail
  refine ((by have := decideQ_any Bw Bf dw df o (p : Int) (q : Int) law w3 HSO.out HQ3.out HTB3.out; rw [← HDE.out.1, ← HDE.out.2] at this; exact this : Calls Tryd.prog 60 #[.agg #[.int .i64 o.wells, .slice Bw o.nw dw, .slice Bf o.nf df], .int .i64 (p : Int), .int .i64 (q : Int), .int .i64 law] w3 fun e w' => LstOut w' (t.decErr p q law) (t.decL p q law) e ∧ Below w3.heap.size w3 w')).mono ?_
  rintro e w4 ⟨ho, hb⟩
  obtain ⟨L4A, L4c, rfl, hrow⟩ := ho.o
  rw [HNM.out]
  have hB4 : Below w3.heap.size w3 w4 := bTrans (Below.refl _ _) hb
  have HD4 := Lib.hid (bTrans HD3.out hB4)
  have HT4 := Lib.hid (HT3.out.mono hB4)
  have HQ4 := Lib.hid (HQ3.out.mono hB4)
  have HTB4 := Lib.hid (HTB3.out.mono hB4)
  have HL14 := Lib.hid (HL13.out.mono hB4)
  have HL24 := Lib.hid (HL23.out.mono hB4)
  have HL34 := Lib.hid (HL33.out.mono hB4)
  have HL44 := Lib.hid (hrow)
  have T4 := Lib.hid (T3.out.mono hB4)
  have O4 := Lib.hid (O3.out.mono hB4)
  have X4 := Lib.hid (X3.out.mono hB4)
  clear hb hB4 HD3 HT3 HQ3 HTB3 HL13 HL23 HL33 T3 T_0 T_1 T_2 T_l O3 O_0 O_1 O_2 O_l X3 X_0 X_1 X_2 X_3 X_l
  obtain ⟨T_0, T_1, T_2, T_l⟩ := T4.out.c3
  obtain ⟨O_0, O_1, O_2, O_l⟩ := O4.out.c3
  obtain ⟨X_0, X_1, X_2, X_3, X_l⟩ := X4.out.c4
  clear ho hrow
  rw [HV3.out]
  go_wp2_with fail
  refine ((by have := sameTests_any L1A L2A L1c L2c _ _ _ HNS.out HNS.out HL14.out HL24.out; rw [HNL.out, decide_eq_true rfl] at this; exact this : Calls Tryd.prog 24 #[.slice L1A nl L1c, .slice L2A nl L2c] w4 fun e w' => e = .returned (.bool true) ∧ Below w4.heap.size w4 w')).mono ?_
  rintro e w5 ⟨rfl, hb⟩
  have hB5 : Below w4.heap.size w4 w5 := bTrans (Below.refl _ _) hb
  have HD5 := Lib.hid (bTrans HD4.out hB5)
  have HT5 := Lib.hid (HT4.out.mono hB5)
  have HQ5 := Lib.hid (HQ4.out.mono hB5)
  have HTB5 := Lib.hid (HTB4.out.mono hB5)
  have HL15 := Lib.hid (HL14.out.mono hB5)
  have HL25 := Lib.hid (HL24.out.mono hB5)
  have HL35 := Lib.hid (HL34.out.mono hB5)
  have HL45 := Lib.hid (HL44.out.mono hB5)
  have T5 := Lib.hid (T4.out.mono hB5)
  have O5 := Lib.hid (O4.out.mono hB5)
  have X5 := Lib.hid (X4.out.mono hB5)
  clear hb hB5 HD4 HT4 HQ4 HTB4 HL14 HL24 HL34 HL44 T4 T_0 T_1 T_2 T_l O4 O_0 O_1 O_2 O_l X4 X_0 X_1 X_2 X_3 X_l
  obtain ⟨T_0, T_1, T_2, T_l⟩ := T5.out.c3
  obtain ⟨O_0, O_1, O_2, O_l⟩ := O5.out.c3
  obtain ⟨X_0, X_1, X_2, X_3, X_l⟩ := X5.out.c4
  go_wp2_with fail
  refine ((by have := sameTests_any L3A L4A L3c L4c _ _ _ HNSM.out HNSM.out HL35.out HL45.out; rw [HNM.out, decide_eq_true rfl] at this; exact this : Calls Tryd.prog 24 #[.slice L3A nm L3c, .slice L4A nm L4c] w5 fun e w' => e = .returned (.bool true) ∧ Below w5.heap.size w5 w')).mono ?_
  rintro e w6 ⟨rfl, hb⟩
  have hB6 : Below w5.heap.size w5 w6 := bTrans (Below.refl _ _) hb
  have HD6 := Lib.hid (bTrans HD5.out hB6)
  have HT6 := Lib.hid (HT5.out.mono hB6)
  have HQ6 := Lib.hid (HQ5.out.mono hB6)
  have HTB6 := Lib.hid (HTB5.out.mono hB6)
  have HL16 := Lib.hid (HL15.out.mono hB6)
  have HL26 := Lib.hid (HL25.out.mono hB6)
  have HL36 := Lib.hid (HL35.out.mono hB6)
  have HL46 := Lib.hid (HL45.out.mono hB6)
  have T6 := Lib.hid (T5.out.mono hB6)
  have O6 := Lib.hid (O5.out.mono hB6)
  have X6 := Lib.hid (X5.out.mono hB6)
  clear hb hB6 HD5 HT5 HQ5 HTB5 HL15 HL25 HL35 HL45 T5 T_0 T_1 T_2 T_l O5 O_0 O_1 O_2 O_l X5 X_0 X_1 X_2 X_3 X_l
  obtain ⟨T_0, T_1, T_2, T_l⟩ := T6.out.c3
  obtain ⟨O_0, O_1, O_2, O_l⟩ := O6.out.c3
  obtain ⟨X_0, X_1, X_2, X_3, X_l⟩ := X6.out.c4
  go_wp2_with fail
  obtain ⟨dv, hdv⟩ : ∃ v, t.depthOut = v := ⟨_, rfl⟩
  have HDV := Lib.hid hdv
  clear hdv
  refine (depthQ_any Aw Af cw cf t _ HS.out HT6.out HTB6.out).mono ?_
  rintro e w7 ⟨rfl, hb⟩
  rw [HDV.out, HV2.out]
  have hB7 : Below w6.heap.size w6 w7 := bTrans (Below.refl _ _) hb
  have HD7 := Lib.hid (bTrans HD6.out hB7)
  have HT7 := Lib.hid (HT6.out.mono hB7)
  have HQ7 := Lib.hid (HQ6.out.mono hB7)
  have HTB7 := Lib.hid (HTB6.out.mono hB7)
  have HL17 := Lib.hid (HL16.out.mono hB7)
  have HL27 := Lib.hid (HL26.out.mono hB7)
  have HL37 := Lib.hid (HL36.out.mono hB7)
  have HL47 := Lib.hid (HL46.out.mono hB7)
  have T7 := Lib.hid (T6.out.mono hB7)
  have O7 := Lib.hid (O6.out.mono hB7)
  have X7 := Lib.hid (X6.out.mono hB7)
  clear hb hB7 HD6 HT6 HQ6 HTB6 HL16 HL26 HL36 HL46 T6 T_0 T_1 T_2 T_l O6 O_0 O_1 O_2 O_l X6 X_0 X_1 X_2 X_3 X_l
  obtain ⟨T_0, T_1, T_2, T_l⟩ := T7.out.c3
  obtain ⟨O_0, O_1, O_2, O_l⟩ := O7.out.c3
  obtain ⟨X_0, X_1, X_2, X_3, X_l⟩ := X7.out.c4
  go_wp2_with fail
  refine (depthQ_any Bw Bf dw df o _ HSO.out HQ7.out HTB7.out).mono ?_
  rintro e w8 ⟨rfl, hb⟩
  rw [← HA.out.depth, ← HA.out.know, HDV.out, HV2.out]
  have hB8 : Below w7.heap.size w7 w8 := bTrans (Below.refl _ _) hb
  have HD8 := Lib.hid (bTrans HD7.out hB8)
  have HT8 := Lib.hid (HT7.out.mono hB8)
  have HQ8 := Lib.hid (HQ7.out.mono hB8)
  have HTB8 := Lib.hid (HTB7.out.mono hB8)
  have HL18 := Lib.hid (HL17.out.mono hB8)
  have HL28 := Lib.hid (HL27.out.mono hB8)
  have HL38 := Lib.hid (HL37.out.mono hB8)
  have HL48 := Lib.hid (HL47.out.mono hB8)
  have T8 := Lib.hid (T7.out.mono hB8)
  have O8 := Lib.hid (O7.out.mono hB8)
  have X8 := Lib.hid (X7.out.mono hB8)
  clear hb hB8 HD7 HT7 HQ7 HTB7 HL17 HL27 HL37 HL47 T7 T_0 T_1 T_2 T_l O7 O_0 O_1 O_2 O_l X7 X_0 X_1 X_2 X_3 X_l
  obtain ⟨T_0, T_1, T_2, T_l⟩ := T8.out.c3
  obtain ⟨O_0, O_1, O_2, O_l⟩ := O8.out.c3
  obtain ⟨X_0, X_1, X_2, X_3, X_l⟩ := X8.out.c4
  go_wp2_with fail
  obtain ⟨q1, hq1⟩ : ∃ v : Nat, t.nextOut.1 = v := ⟨_, rfl⟩
  obtain ⟨q2, hq2⟩ : ∃ v : Nat, t.nextOut.2 = v := ⟨_, rfl⟩
  obtain ⟨en, hen⟩ : ∃ v, t.nextErr = v := ⟨_, rfl⟩
  have HW := Lib.hid (And.intro hq1 (And.intro hq2 hen))
  have hst : sameT (q1 : Int) (q2 : Int) (q1 : Int) (q2 : Int) = true := by simp [sameT]
  clear hq1 hq2 hen
  refine (nextQ_any Aw Af cw cf t _ HS.out HT8.out HTB8.out).mono ?_
  rintro e w9 ⟨rfl, hb⟩
  rw [HW.out.1, HW.out.2.1, HW.out.2.2]
  have hB9 : Below w8.heap.size w8 w9 := bTrans (Below.refl _ _) hb
  have HD9 := Lib.hid (bTrans HD8.out hB9)
  have HT9 := Lib.hid (HT8.out.mono hB9)
  have HQ9 := Lib.hid (HQ8.out.mono hB9)
  have HTB9 := Lib.hid (HTB8.out.mono hB9)
  have HL19 := Lib.hid (HL18.out.mono hB9)
  have HL29 := Lib.hid (HL28.out.mono hB9)
  have HL39 := Lib.hid (HL38.out.mono hB9)
  have HL49 := Lib.hid (HL48.out.mono hB9)
  have T9 := Lib.hid (T8.out.mono hB9)
  have O9 := Lib.hid (O8.out.mono hB9)
  have X9 := Lib.hid (X8.out.mono hB9)
  clear hb hB9 HD8 HT8 HQ8 HTB8 HL18 HL28 HL38 HL48 T8 T_0 T_1 T_2 T_l O8 O_0 O_1 O_2 O_l X8 X_0 X_1 X_2 X_3 X_l
  obtain ⟨T_0, T_1, T_2, T_l⟩ := T9.out.c3
  obtain ⟨O_0, O_1, O_2, O_l⟩ := O9.out.c3
  obtain ⟨X_0, X_1, X_2, X_3, X_l⟩ := X9.out.c4
  go_wp2_with fail
  refine (nextQ_any Bw Bf dw df o _ HSO.out (HQ9.out.mono (bAlloc (Below.refl _ _) (.cells #[.int .i64 (q1 : Int), .int .i64 (q2 : Int)] 27))) (HTB9.out.mono (bAlloc (Below.refl _ _) (.cells #[.int .i64 (q1 : Int), .int .i64 (q2 : Int)] 27)))).mono ?_
  rintro e w10 ⟨rfl, hb⟩
  rw [← HA.out.next.1, ← HA.out.next.2, HW.out.1, HW.out.2.1, HW.out.2.2]
  have hB10 : Below w9.heap.size w9 w10 := bTrans (bAlloc (Below.refl _ _) (.cells #[.int .i64 (q1 : Int), .int .i64 (q2 : Int)] 27)) hb
  have HD10 := Lib.hid (bTrans HD9.out hB10)
  have HT10 := Lib.hid (HT9.out.mono hB10)
  have HQ10 := Lib.hid (HQ9.out.mono hB10)
  have HTB10 := Lib.hid (HTB9.out.mono hB10)
  have HL110 := Lib.hid (HL19.out.mono hB10)
  have HL210 := Lib.hid (HL29.out.mono hB10)
  have HL310 := Lib.hid (HL39.out.mono hB10)
  have HL410 := Lib.hid (HL49.out.mono hB10)
  have T10 := Lib.hid (T9.out.mono hB10)
  have O10 := Lib.hid (O9.out.mono hB10)
  have X10 := Lib.hid (X9.out.mono hB10)
  have S110 := Lib.hid (show TBox w10 w9.heap.size 27 #[.int .i64 (q1 : Int), .int .i64 (q2 : Int)] from by have := ((TBox.new w9 #[.int .i64 (q1 : Int), .int .i64 (q2 : Int)] 27).mono (Below.refl _ _)).mono hb; simpa using this)
  clear hb hB10 HD9 HT9 HQ9 HTB9 HL19 HL29 HL39 HL49 T9 T_0 T_1 T_2 T_l O9 O_0 O_1 O_2 O_l X9 X_0 X_1 X_2 X_3 X_l
  obtain ⟨T_0, T_1, T_2, T_l⟩ := T10.out.c3
  obtain ⟨O_0, O_1, O_2, O_l⟩ := O10.out.c3
  obtain ⟨X_0, X_1, X_2, X_3, X_l⟩ := X10.out.c4
  obtain ⟨S1_0, S1_1, S1_l⟩ := S110.out.c2
  go_wp2_with fail
  go_ret
  exact ⟨rfl, (bTrans HD10.out (bAlloc (Below.refl _ _) (.cells #[.int .i64 (q1 : Int), .int .i64 (q2 : Int)] 27)))⟩
end Go.Proofs.YtchhodikgllgnaaDoor
/- The statement QuarrelsStep: the walk. Conditions: what is read fits into memory; the listed table holds what it holds. -/
namespace Go.Proofs.YtchhodikgllgnaaDoor
open Go.RowKit Go.Sort
set_option maxHeartbeats 8000000 in
set_option maxRecDepth 100000 in
theorem quarrelsStep_any (Aw Af : Option Addr) (cw cf : Nat) (t : Qt)  (w : World) (hf : t.Fits) (hT : QAt w Aw Af t) (hB : TabAt w) :
    Calls Tryd.prog 8 #[.agg #[.int .i64 t.wells, .slice Aw t.nw cw, .slice Af t.nf cf]] w fun e w' => e = .returned (.bool true) ∧ Below w.heap.size w w' := by
  have HT0 := Lib.hid hT
  have HTB0 := Lib.hid hB
  have HD0 := Lib.hid (Below.refl w.heap.size w)
  have HS := Lib.hid hf.small
  have HF := Lib.hid hf
  clear hT hB hf
  go_enter Tryd.func8, Tryd.ntmps8
  go_wp2_with fail
  refine (ready_any _ _ _ _ t _ HS.out (HT0.out.mono (bAlloc (Below.refl _ _) (.cells #[.int .i64 t.wells, .slice Aw t.nw cw, .slice Af t.nf cf] 25)))).mono ?_
  rintro e w1 ⟨rfl, hb⟩
  have hB1 : Below w.heap.size w w1 := bTrans (bAlloc (Below.refl _ _) (.cells #[.int .i64 t.wells, .slice Aw t.nw cw, .slice Af t.nf cf] 25)) hb
  have HD1 := Lib.hid (bTrans HD0.out hB1)
  have HT1 := Lib.hid (HT0.out.mono hB1)
  have HTB1 := Lib.hid (HTB0.out.mono hB1)
  have T1 := Lib.hid (show TBox w1 w.heap.size 25 #[.int .i64 t.wells, .slice Aw t.nw cw, .slice Af t.nf cf] from by have := ((TBox.new w #[.int .i64 t.wells, .slice Aw t.nw cw, .slice Af t.nf cf] 25).mono (Below.refl _ _)).mono hb; simpa using this)
  clear hb hB1 HD0 HT0 HTB0
  obtain ⟨T_0, T_1, T_2, T_l⟩ := T1.out.c3
  obtain ⟨bq, hbq⟩ : ∃ b, t.readyB = b := ⟨_, rfl⟩
  rw [hbq]
  have HR1 := Lib.hid hbq
  clear hbq
  cases bq
  case false =>
    go_wp2_with fail
    refine (works5_any _ HTB1.out).mono ?_
    rintro e w99 ⟨rfl, hb99⟩
    go_wp2_with fail
    go_ret
    exact ⟨rfl, bTrans HD1.out hb99⟩
  have HOK := Lib.hid (readyB_ok HR1.out).1
  by_cases h5 : (t.nf : Int) > 5
  case pos =>
    go_wp2_with fail
    refine (works5_any _ HTB1.out).mono ?_
    rintro e w99 ⟨rfl, hb99⟩
    go_wp2_with fail
    go_ret
    exact ⟨rfl, bTrans HD1.out hb99⟩
  have H5 := Lib.hid (show t.nf ≤ 5 by omega)
  go_wp2_with fail
  refine (refLeftOf Aw Af cw cf t _ HOK.out HT1.out).mono ?_
  rintro e w2 ⟨⟨v, rfl, hv⟩, hb⟩
  obtain ⟨A4, c4, rfl, hr4⟩ := hv.nums
  have hB2 : Below w1.heap.size w1 w2 := bTrans (Below.refl _ _) hb
  have HD2 := Lib.hid (bTrans HD1.out hB2)
  have HT2 := Lib.hid (HT1.out.mono hB2)
  have HTB2 := Lib.hid (HTB1.out.mono hB2)
  have HLR2 := Lib.hid (hr4)
  have T2 := Lib.hid (T1.out.mono hB2)
  clear hb hB2 HD1 HT1 HTB1 T1 T_0 T_1 T_2 T_l
  obtain ⟨T_0, T_1, T_2, T_l⟩ := T2.out.c3
  clear hv hr4
  obtain ⟨n, hn⟩ : ∃ n, t.leftL.length = n := ⟨_, rfl⟩
  rw [hn]
  have HN := Lib.hid hn
  have n6 : n ≤ 6 := by rw [← hn]; exact left_six HOK.out
  clear hn
  obtain ⟨nl, hnl⟩ : ∃ m, (lstO (t.knowErr true) (t.fewest t.leftL)).length = m := ⟨_, rfl⟩
  have HNL := Lib.hid hnl
  clear hnl
  obtain ⟨q1, hq1⟩ : ∃ v : Nat, t.nextOut.1 = v := ⟨_, rfl⟩
  obtain ⟨q2, hq2⟩ : ∃ v : Nat, t.nextOut.2 = v := ⟨_, rfl⟩
  have HW := Lib.hid (And.intro hq1 hq2)
  clear hq1 hq2
  obtain ⟨dv, hdv⟩ : ∃ v, t.depthOut = v := ⟨_, rfl⟩
  have HDV := Lib.hid hdv
  clear hdv
  by_cases hnil : t.leftL = []
  case pos =>
    have HKE := Lib.hid (step_none HOK.out hnil).1
    have HEN := Lib.hid (step_none HOK.out hnil).2
    have hn0 : n = 0 := by rw [← HN.out, hnil]; rfl
    subst hn0
    clear hnil
    go_wp2_with fail
    refine (depthQ_any Aw Af cw cf t _ HS.out HT2.out HTB2.out).mono ?_
    rintro e w3 ⟨rfl, hb⟩
    rw [HKE.out, HDV.out]
    have hB3 : Below w2.heap.size w2 w3 := bTrans (Below.refl _ _) hb
    have HD3 := Lib.hid (bTrans HD2.out hB3)
    have HT3 := Lib.hid (HT2.out.mono hB3)
    have HTB3 := Lib.hid (HTB2.out.mono hB3)
    have HLR3 := Lib.hid (HLR2.out.mono hB3)
    have T3 := Lib.hid (T2.out.mono hB3)
    clear hb hB3 HD2 HT2 HTB2 HLR2 T2 T_0 T_1 T_2 T_l
    obtain ⟨T_0, T_1, T_2, T_l⟩ := T3.out.c3
    go_wp2_with fail
    refine (fewestQ_any Aw Af cw cf t _ HS.out HT3.out HTB3.out).mono ?_
    rintro e w4 ⟨ho, hb⟩
    obtain ⟨L1A, L1c, rfl, hrow⟩ := ho.o
    rw [HNL.out]
    have hB4 : Below w3.heap.size w3 w4 := bTrans (Below.refl _ _) hb
    have HD4 := Lib.hid (bTrans HD3.out hB4)
    have HT4 := Lib.hid (HT3.out.mono hB4)
    have HTB4 := Lib.hid (HTB3.out.mono hB4)
    have HLR4 := Lib.hid (HLR3.out.mono hB4)
    have HL14 := Lib.hid (hrow)
    have T4 := Lib.hid (T3.out.mono hB4)
    clear hb hB4 HD3 HT3 HTB3 HLR3 T3 T_0 T_1 T_2 T_l
    obtain ⟨T_0, T_1, T_2, T_l⟩ := T4.out.c3
    clear ho hrow
    rw [HKE.out]
    go_wp2_with fail
    refine (nextQ_any Aw Af cw cf t _ HS.out HT4.out HTB4.out).mono ?_
    rintro e w5 ⟨rfl, hb⟩
    rw [HW.out.1, HW.out.2, HEN.out]
    have hB5 : Below w4.heap.size w4 w5 := bTrans (Below.refl _ _) hb
    have HD5 := Lib.hid (bTrans HD4.out hB5)
    have HT5 := Lib.hid (HT4.out.mono hB5)
    have HTB5 := Lib.hid (HTB4.out.mono hB5)
    have HLR5 := Lib.hid (HLR4.out.mono hB5)
    have HL15 := Lib.hid (HL14.out.mono hB5)
    have T5 := Lib.hid (T4.out.mono hB5)
    clear hb hB5 HD4 HT4 HTB4 HLR4 HL14 T4 T_0 T_1 T_2 T_l
    obtain ⟨T_0, T_1, T_2, T_l⟩ := T5.out.c3
    go_wp2_with fail
    refine (works5_any _ (HTB5.out.mono (bAlloc (Below.refl _ _) (.cells #[.int .i64 (q1 : Int), .int .i64 (q2 : Int)] 27)))).mono ?_
    rintro e w99 ⟨rfl, hb99⟩
    go_wp2_with fail
    go_ret
    exact ⟨rfl, bTrans (bTrans HD5.out (bAlloc (Below.refl _ _) (.cells #[.int .i64 (q1 : Int), .int .i64 (q2 : Int)] 27))) hb99⟩
  have HKE := Lib.hid (step_some HOK.out hnil).1
  have hst := (step_some HOK.out hnil).2
  have n0 : (n == 0) = false := by simp; rw [← HN.out]; exact fun h => hnil (List.eq_nil_of_length_eq_zero h)
  have n00 : 0 < n := by rw [← HN.out]; exact List.length_pos_iff.2 hnil
  have n0i : ((n : Int) == 0) = false := by simp; omega
  have hlo : lstO 0 (t.fewest t.leftL) = lstO (t.knowErr true) (t.fewest t.leftL) := by rw [HKE.out]
  rw [HDV.out, HN.out, hlo, HNL.out] at hst
  have d1 : ¬ dv < 0 := by omega
  have d2 : ¬ dv > (nl : Int) := by omega
  have d3 : ¬ dv ≥ (n : Int) := by omega
  have HDD := Lib.hid hst.2.1
  clear hlo
  rcases hst.2.2.2.2 with ⟨hd0, hen, hal⟩ | ⟨hd0, hen, hal, hnx, hmem⟩
  · skip
    have HEN := Lib.hid hen
    have HAL := Lib.hid hal
    subst hd0
    clear hst hen hal hnil
    go_wp2_with fail
    refine (depthQ_any Aw Af cw cf t _ HS.out HT2.out HTB2.out).mono ?_
    rintro e w3 ⟨rfl, hb⟩
    rw [HKE.out, HDV.out]
    have hB3 : Below w2.heap.size w2 w3 := bTrans (Below.refl _ _) hb
    have HD3 := Lib.hid (bTrans HD2.out hB3)
    have HT3 := Lib.hid (HT2.out.mono hB3)
    have HTB3 := Lib.hid (HTB2.out.mono hB3)
    have HLR3 := Lib.hid (HLR2.out.mono hB3)
    have T3 := Lib.hid (T2.out.mono hB3)
    clear hb hB3 HD2 HT2 HTB2 HLR2 T2 T_0 T_1 T_2 T_l
    obtain ⟨T_0, T_1, T_2, T_l⟩ := T3.out.c3
    go_wp2_with fail
    refine (fewestQ_any Aw Af cw cf t _ HS.out HT3.out HTB3.out).mono ?_
    rintro e w4 ⟨ho, hb⟩
    obtain ⟨L1A, L1c, rfl, hrow⟩ := ho.o
    rw [HNL.out]
    have hB4 : Below w3.heap.size w3 w4 := bTrans (Below.refl _ _) hb
    have HD4 := Lib.hid (bTrans HD3.out hB4)
    have HT4 := Lib.hid (HT3.out.mono hB4)
    have HTB4 := Lib.hid (HTB3.out.mono hB4)
    have HLR4 := Lib.hid (HLR3.out.mono hB4)
    have HL14 := Lib.hid (hrow)
    have T4 := Lib.hid (T3.out.mono hB4)
    clear hb hB4 HD3 HT3 HTB3 HLR3 T3 T_0 T_1 T_2 T_l
    obtain ⟨T_0, T_1, T_2, T_l⟩ := T4.out.c3
    clear ho hrow
    rw [HKE.out]
    go_wp2_with fail
    refine (nextQ_any Aw Af cw cf t _ HS.out HT4.out HTB4.out).mono ?_
    rintro e w5 ⟨rfl, hb⟩
    rw [HW.out.1, HW.out.2, HEN.out]
    have hB5 : Below w4.heap.size w4 w5 := bTrans (Below.refl _ _) hb
    have HD5 := Lib.hid (bTrans HD4.out hB5)
    have HT5 := Lib.hid (HT4.out.mono hB5)
    have HTB5 := Lib.hid (HTB4.out.mono hB5)
    have HLR5 := Lib.hid (HLR4.out.mono hB5)
    have HL15 := Lib.hid (HL14.out.mono hB5)
    have T5 := Lib.hid (T4.out.mono hB5)
    clear hb hB5 HD4 HT4 HTB4 HLR4 HL14 T4 T_0 T_1 T_2 T_l
    obtain ⟨T_0, T_1, T_2, T_l⟩ := T5.out.c3
    go_wp2_with fail
    refine (isKnown_any 3 _).mono ?_
    rintro e w6 ⟨rfl, hb⟩
    have hB6 : Below w5.heap.size w5 w6 := bTrans (bAlloc (Below.refl _ _) (.cells #[.int .i64 (q1 : Int), .int .i64 (q2 : Int)] 27)) hb
    have HD6 := Lib.hid (bTrans HD5.out hB6)
    have HT6 := Lib.hid (HT5.out.mono hB6)
    have HTB6 := Lib.hid (HTB5.out.mono hB6)
    have HLR6 := Lib.hid (HLR5.out.mono hB6)
    have HL16 := Lib.hid (HL15.out.mono hB6)
    have T6 := Lib.hid (T5.out.mono hB6)
    have S16 := Lib.hid (show TBox w6 w5.heap.size 27 #[.int .i64 (q1 : Int), .int .i64 (q2 : Int)] from by have := ((TBox.new w5 #[.int .i64 (q1 : Int), .int .i64 (q2 : Int)] 27).mono (Below.refl _ _)).mono hb; simpa using this)
    clear hb hB6 HD5 HT5 HTB5 HLR5 HL15 T5 T_0 T_1 T_2 T_l
    obtain ⟨T_0, T_1, T_2, T_l⟩ := T6.out.c3
    obtain ⟨S1_0, S1_1, S1_l⟩ := S16.out.c2
    go_wp2_with fail
    refine ((by have := allApart5_any Aw Af none A4 cw cf 0 c4 t [] t.leftL w6 HOK.out HT6.out (fun x hx => by cases hx) (by simp) (.inl rfl) left_worlds (by have := left_six HOK.out; omega) HLR6.out; rw [HN.out, HAL.out] at this; exact this : Calls Tryd.prog 29 #[.agg #[.int .i64 t.wells, .slice Aw t.nw cw, .slice Af t.nf cf], .slice none 0 0, .slice A4 n c4] w6 fun e w' => e = .returned (.bool true) ∧ Below w6.heap.size w6 w')).mono ?_
    rintro e w7 ⟨rfl, hb⟩
    have hB7 : Below w6.heap.size w6 w7 := bTrans (Below.refl _ _) hb
    have HD7 := Lib.hid (bTrans HD6.out hB7)
    have HT7 := Lib.hid (HT6.out.mono hB7)
    have HTB7 := Lib.hid (HTB6.out.mono hB7)
    have HLR7 := Lib.hid (HLR6.out.mono hB7)
    have HL17 := Lib.hid (HL16.out.mono hB7)
    have T7 := Lib.hid (T6.out.mono hB7)
    have S17 := Lib.hid (S16.out.mono hB7)
    clear hb hB7 HD6 HT6 HTB6 HLR6 HL16 T6 T_0 T_1 T_2 T_l S16 S1_0 S1_1 S1_l
    obtain ⟨T_0, T_1, T_2, T_l⟩ := T7.out.c3
    obtain ⟨S1_0, S1_1, S1_l⟩ := S17.out.c2
    go_wp2_with fail
    refine (works5_any _ HTB7.out).mono ?_
    rintro e w99 ⟨rfl, hb99⟩
    go_wp2_with fail
    go_ret
    exact ⟨rfl, bTrans HD7.out hb99⟩
  · skip
    have HEN := Lib.hid hen
    have HAL := Lib.hid hal
    have HNX := Lib.hid hnx
    have HMEM := Lib.hid hmem
    have d4 : (dv == 0) = false := by simp; omega
    have d5 : ¬ dv = 0 := by omega
    clear hst hen hal hnx hmem hnil
    go_wp2_with fail
    refine (depthQ_any Aw Af cw cf t _ HS.out HT2.out HTB2.out).mono ?_
    rintro e w3 ⟨rfl, hb⟩
    rw [HKE.out, HDV.out]
    have hB3 : Below w2.heap.size w2 w3 := bTrans (Below.refl _ _) hb
    have HD3 := Lib.hid (bTrans HD2.out hB3)
    have HT3 := Lib.hid (HT2.out.mono hB3)
    have HTB3 := Lib.hid (HTB2.out.mono hB3)
    have HLR3 := Lib.hid (HLR2.out.mono hB3)
    have T3 := Lib.hid (T2.out.mono hB3)
    clear hb hB3 HD2 HT2 HTB2 HLR2 T2 T_0 T_1 T_2 T_l
    obtain ⟨T_0, T_1, T_2, T_l⟩ := T3.out.c3
    go_wp2_with fail
    refine (fewestQ_any Aw Af cw cf t _ HS.out HT3.out HTB3.out).mono ?_
    rintro e w4 ⟨ho, hb⟩
    obtain ⟨L1A, L1c, rfl, hrow⟩ := ho.o
    rw [HNL.out]
    have hB4 : Below w3.heap.size w3 w4 := bTrans (Below.refl _ _) hb
    have HD4 := Lib.hid (bTrans HD3.out hB4)
    have HT4 := Lib.hid (HT3.out.mono hB4)
    have HTB4 := Lib.hid (HTB3.out.mono hB4)
    have HLR4 := Lib.hid (HLR3.out.mono hB4)
    have HL14 := Lib.hid (hrow)
    have T4 := Lib.hid (T3.out.mono hB4)
    clear hb hB4 HD3 HT3 HTB3 HLR3 T3 T_0 T_1 T_2 T_l
    obtain ⟨T_0, T_1, T_2, T_l⟩ := T4.out.c3
    clear ho hrow
    rw [HKE.out]
    go_wp2_with fail
    refine (nextQ_any Aw Af cw cf t _ HS.out HT4.out HTB4.out).mono ?_
    rintro e w5 ⟨rfl, hb⟩
    rw [HW.out.1, HW.out.2, HEN.out]
    have hB5 : Below w4.heap.size w4 w5 := bTrans (Below.refl _ _) hb
    have HD5 := Lib.hid (bTrans HD4.out hB5)
    have HT5 := Lib.hid (HT4.out.mono hB5)
    have HTB5 := Lib.hid (HTB4.out.mono hB5)
    have HLR5 := Lib.hid (HLR4.out.mono hB5)
    have HL15 := Lib.hid (HL14.out.mono hB5)
    have T5 := Lib.hid (T4.out.mono hB5)
    clear hb hB5 HD4 HT4 HTB4 HLR4 HL14 T4 T_0 T_1 T_2 T_l
    obtain ⟨T_0, T_1, T_2, T_l⟩ := T5.out.c3
    go_wp2_with fail
    refine (isKnown_any 0 _).mono ?_
    rintro e w6 ⟨rfl, hb⟩
    have hB6 : Below w5.heap.size w5 w6 := bTrans (bAlloc (Below.refl _ _) (.cells #[.int .i64 (q1 : Int), .int .i64 (q2 : Int)] 27)) hb
    have HD6 := Lib.hid (bTrans HD5.out hB6)
    have HT6 := Lib.hid (HT5.out.mono hB6)
    have HTB6 := Lib.hid (HTB5.out.mono hB6)
    have HLR6 := Lib.hid (HLR5.out.mono hB6)
    have HL16 := Lib.hid (HL15.out.mono hB6)
    have T6 := Lib.hid (T5.out.mono hB6)
    have S16 := Lib.hid (show TBox w6 w5.heap.size 27 #[.int .i64 (q1 : Int), .int .i64 (q2 : Int)] from by have := ((TBox.new w5 #[.int .i64 (q1 : Int), .int .i64 (q2 : Int)] 27).mono (Below.refl _ _)).mono hb; simpa using this)
    clear hb hB6 HD5 HT5 HTB5 HLR5 HL15 T5 T_0 T_1 T_2 T_l
    obtain ⟨T_0, T_1, T_2, T_l⟩ := T6.out.c3
    obtain ⟨S1_0, S1_1, S1_l⟩ := S16.out.c2
    go_wp2_with fail
    refine ((by have := allApart5_any Aw Af none A4 cw cf 0 c4 t [] t.leftL w6 HOK.out HT6.out (fun x hx => by cases hx) (by simp) (.inl rfl) left_worlds (by have := left_six HOK.out; omega) HLR6.out; rw [HN.out, HAL.out] at this; exact this : Calls Tryd.prog 29 #[.agg #[.int .i64 t.wells, .slice Aw t.nw cw, .slice Af t.nf cf], .slice none 0 0, .slice A4 n c4] w6 fun e w' => e = .returned (.bool false) ∧ Below w6.heap.size w6 w')).mono ?_
    rintro e w7 ⟨rfl, hb⟩
    have hB7 : Below w6.heap.size w6 w7 := bTrans (Below.refl _ _) hb
    have HD7 := Lib.hid (bTrans HD6.out hB7)
    have HT7 := Lib.hid (HT6.out.mono hB7)
    have HTB7 := Lib.hid (HTB6.out.mono hB7)
    have HLR7 := Lib.hid (HLR6.out.mono hB7)
    have HL17 := Lib.hid (HL16.out.mono hB7)
    have T7 := Lib.hid (T6.out.mono hB7)
    have S17 := Lib.hid (S16.out.mono hB7)
    clear hb hB7 HD6 HT6 HTB6 HLR6 HL16 T6 T_0 T_1 T_2 T_l S16 S1_0 S1_1 S1_l
    obtain ⟨T_0, T_1, T_2, T_l⟩ := T7.out.c3
    obtain ⟨S1_0, S1_1, S1_l⟩ := S17.out.c2
    go_wp2_with fail
    have hmm := testsL_mem.1 HMEM.out
    rw [HW.out.1, HW.out.2] at hmm
    have HP := Lib.hid (show (q1 : Int) < t.wells by have := HOK.out.w0; have := hmm.1; omega)
    have HQ := Lib.hid (show (q2 : Int) < t.wells by have := HOK.out.w0; have := hmm.2; omega)
    have HNO := Lib.hid (show t.nextOut = (q1, q2) from Prod.ext HW.out.1 HW.out.2)
    clear hmm
    refine (isTest5_any Aw Af cw cf t (q1 : Int) (q2 : Int) _).mono ?_
    rintro e w8 ⟨rfl, hb⟩
    rw [show t.testB (q1 : Int) (q2 : Int) = true by unfold Qt.testB; rw [wellB_in HOK.out HP.out, wellB_in HOK.out HQ.out]; rfl]
    have hB8 : Below w7.heap.size w7 w8 := bTrans (Below.refl _ _) hb
    have HD8 := Lib.hid (bTrans HD7.out hB8)
    have HT8 := Lib.hid (HT7.out.mono hB8)
    have HTB8 := Lib.hid (HTB7.out.mono hB8)
    have HLR8 := Lib.hid (HLR7.out.mono hB8)
    have HL18 := Lib.hid (HL17.out.mono hB8)
    have T8 := Lib.hid (T7.out.mono hB8)
    have S18 := Lib.hid (S17.out.mono hB8)
    clear hb hB8 HD7 HT7 HTB7 HLR7 HL17 T7 T_0 T_1 T_2 T_l S17 S1_0 S1_1 S1_l
    obtain ⟨T_0, T_1, T_2, T_l⟩ := T8.out.c3
    obtain ⟨S1_0, S1_1, S1_l⟩ := S18.out.c2
    go_wp2_with fail
    go_loopw [10, 11] (fun s10 s11 wr => ∃ k : Nat, k ≤ 10 ∧ s11 = .int .i64 (k : Int) ∧ s10 = .int .i64 (maxTo (stepG t (q1, q2)) k) ∧ Below w8.heap.size w8 wr) (fun _ s _ => 10 - (intOf s).toNat)
    case atStart => exact ⟨0, by omega, rfl, rfl, Below.refl _ _⟩
    case round =>
      obtain ⟨k, hk, rfl, rfl, hb⟩ := hrel
      obtain ⟨m, hm⟩ : ∃ m, maxTo (stepG t (q1, q2)) k = m := ⟨_, rfl⟩
      have HM := Lib.hid hm
      have HM0 := Lib.hid (show 0 ≤ m by rw [← hm]; exact maxTo_nonneg _ _)
      rw [hm]
      clear hm
      have hB9 : Below w8.heap.size w8 wr := bTrans (Below.refl _ _) hb
      have HD9 := Lib.hid (bTrans HD8.out hB9)
      have HT9 := Lib.hid (HT8.out.mono hB9)
      have HTB9 := Lib.hid (HTB8.out.mono hB9)
      have HLR9 := Lib.hid (HLR8.out.mono hB9)
      have HL19 := Lib.hid (HL18.out.mono hB9)
      have HRL9 := Lib.hid ((show Upto w8 wr from hb))
      have T9 := Lib.hid (T8.out.mono hB9)
      have S19 := Lib.hid (S18.out.mono hB9)
      clear hb hB9 HD8 HT8 HTB8 HLR8 HL18 T8 T_0 T_1 T_2 T_l S18 S1_0 S1_1 S1_l
      obtain ⟨T_0, T_1, T_2, T_l⟩ := T9.out.c3
      obtain ⟨S1_0, S1_1, S1_l⟩ := S19.out.c2
      by_cases hlt : k < 10
      case pos =>
        have k1 : (k : Int) ≤ 9 := by omega
        have HG := Lib.hid (step_less HOK.out (x := (q1, q2)) (by rw [HNX.out, HNO.out]) hlt)
        have HSH := Lib.hid (by
          have := shown5_any Aw Af A4 cw cf c4 t q1 q2 t.leftL (k : Int) wr HOK.out HT9.out HP.out HQ.out left_worlds (by have := left_six HOK.out; omega) HLR9.out
          rw [HN.out] at this
          exact this : Calls Tryd.prog 47 #[.agg #[.int .i64 t.wells, .slice Aw t.nw cw, .slice Af t.nf cf], .agg #[.int .i64 (q1 : Int), .int .i64 (q2 : Int)], .slice A4 n c4, .int .i64 (k : Int)] wr fun e w' => (∃ v, e = .returned v ∧ OwnL w' wr.heap.size v (t.shown (q1, q2) t.leftL k)) ∧ Below wr.heap.size wr w')
        go_wp2_with fail
        refine (HSH.out).mono ?_
        rintro e w10 ⟨⟨v, rfl, hv⟩, hb⟩
        obtain ⟨A9, c9, rfl, _⟩ := hv.nums
        have hB10 : Below wr.heap.size wr w10 := bTrans (Below.refl _ _) hb
        have HD10 := Lib.hid (bTrans HD9.out hB10)
        have HT10 := Lib.hid (HT9.out.mono hB10)
        have HTB10 := Lib.hid (HTB9.out.mono hB10)
        have HLR10 := Lib.hid (HLR9.out.mono hB10)
        have HL110 := Lib.hid (HL19.out.mono hB10)
        have HRL10 := Lib.hid (HRL9.out.mono hB10)
        have T10 := Lib.hid (T9.out.mono hB10)
        have S110 := Lib.hid (S19.out.mono hB10)
        clear hb hB10 HD9 HT9 HTB9 HLR9 HL19 HRL9 T9 T_0 T_1 T_2 T_l S19 S1_0 S1_1 S1_l
        obtain ⟨T_0, T_1, T_2, T_l⟩ := T10.out.c3
        obtain ⟨S1_0, S1_1, S1_l⟩ := S110.out.c2
        clear hv HSH
        obtain ⟨n9, hn9⟩ : ∃ n9, (t.shown (q1, q2) t.leftL (k : Int)).length = n9 := ⟨_, rfl⟩
        rw [hn9]
        have HN9 := Lib.hid hn9
        clear hn9
        by_cases h9 : n9 = 0
        case pos =>
          subst h9
          have HR := Lib.hid (show maxTo (stepG t (q1, q2)) (k + 1) = m by rw [maxTo_succ, HM.out, step_empty (List.eq_nil_of_length_eq_zero HN9.out), if_neg (by have := HM0.out; omega)])
          go_wp2_with fail
          go_roundw
          case rel =>
            have hz := HRL10.out
            first
            | exact ⟨k + 1, by omega, by go_num, by rw [HR.out], hz⟩
            | ((repeat apply Exists.intro)
               refine ⟨⟨k + 1, by omega, ?_, by rw [HR.out], hz⟩, rfl⟩
               go_num)
          case measure => simp [intOf]; omega
        have h90 : (n9 == 0) = false := by simp; omega
        have h90i : ((n9 : Int) == 0) = false := by simp; omega
        have HND := Lib.hid (shown_depth HOK.out H5.out (by have := HMEM.out; rw [HNO.out] at this; exact this) hlt (fun h => h9 (by rw [← HN9.out, h]; rfl)))
        obtain ⟨o, ho⟩ : ∃ o, t.add (shownF (q1, q2) (k : Int)) = o := ⟨_, rfl⟩
        have HOA := Lib.hid ho
        have HSO := Lib.hid (show o.Small by rw [← ho]; exact add_small HF.out _)
        rw [ho] at HND
        obtain ⟨d, hd⟩ : ∃ d, stepG t (q1, q2) k = d := ⟨_, rfl⟩
        have HDS := Lib.hid hd
        rw [hd] at HG
        have hd1 : ¬ d < 0 := by have := HG.out.1; omega
        have hd2 : ¬ d ≥ dv := by have := HG.out.2; rw [← HDD.out] at this; omega
        have HND2 := Lib.hid (show o.knowErr true = 0 ∧ o.depthOut = d from ⟨HND.out.1, by rw [HND.out.2, ← hd]; rfl⟩)
        clear ho hd h9
        go_wp2_with fail
        refine wp_region_stir 10 [.const (.agg #[.int .i64 t.wells, .slice Aw t.nw cw, .slice Af t.nf cf]), .const (.agg #[.int .i64 (q1 : Int), .int .i64 (q2 : Int)]), .const (.int .i64 (k : Int)), .const (.agg #[.int .i64 (q1 : Int), .int .i64 1, .int .i64 (q2 : Int), .int .i64 (k : Int), .int .i64 (k : Int)]), .held (twcS o.wells o.nw o.nf) (twcR 0 o), .const (.tuple #[.int .i64 d, .int .i64 0]), .const (.tuple #[.int .i64 d, .int .i64 0]), .const (.int .i64 d), .const (.int .i64 0), .const (.int .i64 d)]
          (by kernel_rfl) (by kernel_rfl) rfl ⟨trivial, trivial, trivial, trivial, twcG, trivial, trivial, trivial, trivial, trivial, trivial⟩ (crossAll_no _ _ _ _ trivial) ?_
        iterate 3 refine wpStir_const (by go_simp) ?_
        refine wpStir_call rfl (fun w' hb hd => ?_) ?_
        · clear hd
          go_simp
          refine (shownAs5_any q1 q2 (k : Int) w').mono ?_
          rintro e w'' ⟨rfl, hb'⟩
          exact ⟨rfl, hb'⟩
        simp only [Act.put, List.setIfInBounds_toArray, List.set_cons_succ, List.set_cons_zero]
        refine wpStir_held rfl (fun w' hb hd => ?_) (fun v hv => ?_)
        · clear hd
          go_simp
          refine (told5_any Aw Af cw cf t (shownF (q1, q2) (k : Int)) w' HF.out (HT10.out.mono hb)).mono ?_
          rintro e w'' ⟨ho, hb'⟩
          rw [HOA.out] at ho
          obtain ⟨v, rfl, h1, h2⟩ := ho.twc (Nat.zero_le _)
          exact ⟨v, rfl, hb', h1, h2⟩
        obtain ⟨Bw, dw, Bf, df, rfl⟩ := hv
        simp only [Act.put, List.setIfInBounds_toArray, List.set_cons_succ, List.set_cons_zero]
        refine wpStir_call rfl (fun w' hb hd => ?_) ?_
        · have hcp : CopyAt w' 0 (.slice Bw o.nw dw) (.slice Bf o.nf df) o := hd.1 (by kernel_rfl) _ _ rfl
          clear hd
          obtain ⟨A7, c7, A8, c8, e7, e8, hq⟩ := hcp.qat
          simp only [Value.slice.injEq] at e7 e8
          obtain ⟨rfl, _, rfl⟩ := e7
          obtain ⟨rfl, _, rfl⟩ := e8
          have hdc := Lib.hid (depthQ_any Bw Bf dw df o w' HSO.out hq (HTB10.out.mono hb))
          go_simp
          refine hdc.out.mono ?_
          rintro e w'' ⟨rfl, hb'⟩
          exact ⟨by rw [HND2.out.1, HND2.out.2], hb'⟩
        iterate 4 refine wpStir_const (by go_simp) ?_
        refine wpStir_end (fun w11 hb hd => ?_)
        clear hd
        simp only [Act.put, List.setIfInBounds_toArray, List.set_cons_succ, List.set_cons_zero, List.drop_succ_cons, List.drop_zero]
        have hB11 : Below w10.heap.size w10 w11 := bTrans (Below.refl _ _) hb
        have HD11 := Lib.hid (bTrans HD10.out hB11)
        have HT11 := Lib.hid (HT10.out.mono hB11)
        have HTB11 := Lib.hid (HTB10.out.mono hB11)
        have HLR11 := Lib.hid (HLR10.out.mono hB11)
        have HL111 := Lib.hid (HL110.out.mono hB11)
        have HRL11 := Lib.hid (HRL10.out.mono hB11)
        have T11 := Lib.hid (T10.out.mono hB11)
        have S111 := Lib.hid (S110.out.mono hB11)
        clear hb hB11 HD10 HT10 HTB10 HLR10 HL110 HRL10 T10 T_0 T_1 T_2 T_l S110 S1_0 S1_1 S1_l
        obtain ⟨T_0, T_1, T_2, T_l⟩ := T11.out.c3
        obtain ⟨S1_0, S1_1, S1_l⟩ := S111.out.c2
        obtain ⟨m2, hm2⟩ : ∃ m2, (if m < d then d else m) = m2 := ⟨_, rfl⟩
        have HR := Lib.hid (show maxTo (stepG t (q1, q2)) (k + 1) = m2 by rw [maxTo_succ, HM.out, HDS.out, hm2])
        go_wp2_with fail
        go_roundw
        case rel =>
          have hz := HRL11.out
          first
          | exact ⟨k + 1, by omega, by go_num, by rw [HR.out], hz⟩
          | ((repeat apply Exists.intro)
             refine ⟨⟨k + 1, by omega, ?_, by rw [HR.out], hz⟩, rfl⟩
             go_num)
        case measure => simp [intOf]; omega
      obtain rfl : k = 10 := by omega
      have hwm := step_worst HOK.out (x := (q1, q2)) (by rw [HNX.out, HNO.out])
      rw [HM.out, ← HDD.out] at hwm
      have hw63 : dv ≤ 1000 := by have := left_six HOK.out; have := HN.out; omega
      have hwq : IntKind.i64.wrap (dv - 1) = m := by rw [hwm]; exact IntWalk.i64_in _ (by omega)
      have hmm : m = dv - 1 := hwm
      clear hwm
      go_wp2_with fail
      refine (works5_any _ HTB9.out).mono ?_
      rintro e w99 ⟨rfl, hb99⟩
      go_wp2_with fail
      go_ret
      exact ⟨rfl, bTrans HD9.out hb99⟩
end Go.Proofs.YtchhodikgllgnaaDoor
