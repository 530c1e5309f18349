/- Parts joined: what the claim TopToldApart needs beyond the others. -/
import Derived.Test.YthnojgdckkdcgaaGreatDoorNQTopToldApartB
set_option linter.unusedSimpArgs false
set_option linter.unusedVariables false
namespace Go.Proofs.YthnojgdckkdcgaaGreatDoor
open Go.RowKit Go.Sort
set_option maxHeartbeats 40000000 in
set_option maxRecDepth 100000 in
theorem topToldApart_b (Aw Af Ao Ap As : Option Addr) (cw cf co cp cs : Nat) (t : Pt) (wd sp : Int) (w : World) (hs : t.Fits) (hT : PAt w Aw Af Ao Ap As t) (hB : TabAt w) (hN : NoneAt w) (hE : ¬ t.decErr sp = 3) :
    Calls Tryz.prog 6 #[.agg #[.int .i64 t.q.wells, .slice Aw t.q.nw cw, .slice Af t.q.nf cf, .slice Ao t.no co, .slice Ap t.np cp, .slice As t.ns cs, .int .i64 t.far, .int .i64 t.harm, .int .i64 t.many], .int .i64 wd, .int .i64 sp] w fun e w' => e = .returned (.bool true) ∧ Below w.heap.size w w' := by
  have HD0 := Lib.hid (Below.refl w.heap.size w)
  have HFI := Lib.hid hs
  have HT0 := Lib.hid hT
  have HTB0 := Lib.hid hB
  have HNA0 := Lib.hid hN
  have HEE := Lib.hid hE
  clear hs hT hB hN hE
  go_enter Tryz.func6, Tryz.ntmps6
  have HSM := Lib.hid HFI.out.small
  go_wp2_with fail
  refine (far9_any Aw Af Ao Ap As cw cf co cp cs t _ HSM.out (HT0.out.mono (bAlloc (Below.refl _ _) (.cells #[.int .i64 t.q.wells, .slice Aw t.q.nw cw, .slice Af t.q.nf cf, .slice Ao t.no co, .slice Ap t.np cp, .slice As t.ns cs, .int .i64 t.far, .int .i64 t.harm, .int .i64 t.many] 62)))).mono ?_
  rintro e w1 ⟨⟨bf, rfl⟩, hb⟩
  have hB1 : Below w.heap.size w w1 := bTrans (bAlloc (Below.refl _ _) (.cells #[.int .i64 t.q.wells, .slice Aw t.q.nw cw, .slice Af t.q.nf cf, .slice Ao t.no co, .slice Ap t.np cp, .slice As t.ns cs, .int .i64 t.far, .int .i64 t.harm, .int .i64 t.many] 62)) hb
  have HD1 := Lib.hid (bTrans HD0.out hB1)
  have HT1 := Lib.hid (HT0.out.mono hB1)
  have HTB1 := Lib.hid (HTB0.out.mono hB1)
  have HNA1 := Lib.hid (HNA0.out.mono hB1)
  have T1 := Lib.hid (show TBox w1 w.heap.size 62 #[.int .i64 t.q.wells, .slice Aw t.q.nw cw, .slice Af t.q.nf cf, .slice Ao t.no co, .slice Ap t.np cp, .slice As t.ns cs, .int .i64 t.far, .int .i64 t.harm, .int .i64 t.many] from by have := ((TBox.new w #[.int .i64 t.q.wells, .slice Aw t.q.nw cw, .slice Af t.q.nf cf, .slice Ao t.no co, .slice Ap t.np cp, .slice As t.ns cs, .int .i64 t.far, .int .i64 t.harm, .int .i64 t.many] 62).mono (Below.refl _ _)).mono hb; simpa using this)
  clear hb hB1 HD0 HT0 HTB0 HNA0
  obtain ⟨T_0, T_1, T_2, T_3, T_4, T_5, T_6, T_7, T_8, T_l⟩ := T1.out.c9
  cases bf
  case true =>
    go_wp2_with fail
    refine (dug_any _ HTB1.out HNA1.out).mono ?_
    rintro e w2 ⟨rfl, hb⟩
    have hB2 : Below w1.heap.size w1 w2 := bTrans (Below.refl _ _) hb
    have HD2 := Lib.hid (bTrans HD1.out hB2)
    have HT2 := Lib.hid (HT1.out.mono hB2)
    have HTB2 := Lib.hid (HTB1.out.mono hB2)
    have HNA2 := Lib.hid (HNA1.out.mono hB2)
    have T2 := Lib.hid (T1.out.mono hB2)
    clear hb hB2 HD1 HT1 HTB1 HNA1 T1 T_0 T_1 T_2 T_3 T_4 T_5 T_6 T_7 T_8 T_l
    obtain ⟨T_0, T_1, T_2, T_3, T_4, T_5, T_6, T_7, T_8, T_l⟩ := T2.out.c9
    go_wp2_with fail
    go_ret
    exact ⟨rfl, HD2.out⟩
  go_wp2_with fail
  refine (check9_any Aw Af Ao Ap As cw cf co cp cs t _ HSM.out HT1.out).mono ?_
  rintro e w2 ⟨rfl, hb⟩
  have hB2 : Below w1.heap.size w1 w2 := bTrans (Below.refl _ _) hb
  have HD2 := Lib.hid (bTrans HD1.out hB2)
  have HT2 := Lib.hid (HT1.out.mono hB2)
  have HTB2 := Lib.hid (HTB1.out.mono hB2)
  have HNA2 := Lib.hid (HNA1.out.mono hB2)
  have T2 := Lib.hid (T1.out.mono hB2)
  clear hb hB2 HD1 HT1 HTB1 HNA1 T1 T_0 T_1 T_2 T_3 T_4 T_5 T_6 T_7 T_8 T_l
  obtain ⟨T_0, T_1, T_2, T_3, T_4, T_5, T_6, T_7, T_8, T_l⟩ := T2.out.c9
  by_cases hok : t.Ok
  case neg =>
    rw [Pt.err_bad hok]
    clear hok
    go_wp2_with fail
    refine (dug_any _ HTB2.out HNA2.out).mono ?_
    rintro e w3 ⟨rfl, hb⟩
    have hB3 : Below w2.heap.size w2 w3 := bTrans (Below.refl _ _) hb
    have HD3 := Lib.hid (bTrans HD2.out hB3)
    have HT3 := Lib.hid (HT2.out.mono hB3)
    have HTB3 := Lib.hid (HTB2.out.mono hB3)
    have HNA3 := Lib.hid (HNA2.out.mono hB3)
    have T3 := Lib.hid (T2.out.mono hB3)
    clear hb hB3 HD2 HT2 HTB2 HNA2 T2 T_0 T_1 T_2 T_3 T_4 T_5 T_6 T_7 T_8 T_l
    obtain ⟨T_0, T_1, T_2, T_3, T_4, T_5, T_6, T_7, T_8, T_l⟩ := T3.out.c9
    go_wp2_with fail
    go_ret
    exact ⟨rfl, HD3.out⟩
  rw [Pt.err_ok hok]
  have HOK := Lib.hid hok
  clear hok
  go_wp2_with fail
  obtain ⟨bb, hbb⟩ : ∃ b, t.hasB sp = b := ⟨_, rfl⟩
  refine (hbb ▸ isSpotN9_any Aw Af Ao Ap As cw cf co cp cs t sp _ HSM.out.ns).mono ?_
  rintro e w3 ⟨rfl, hb⟩
  have hB3 : Below w2.heap.size w2 w3 := bTrans (Below.refl _ _) hb
  have HD3 := Lib.hid (bTrans HD2.out hB3)
  have HT3 := Lib.hid (HT2.out.mono hB3)
  have HTB3 := Lib.hid (HTB2.out.mono hB3)
  have HNA3 := Lib.hid (HNA2.out.mono hB3)
  have T3 := Lib.hid (T2.out.mono hB3)
  clear hb hB3 HD2 HT2 HTB2 HNA2 T2 T_0 T_1 T_2 T_3 T_4 T_5 T_6 T_7 T_8 T_l
  obtain ⟨T_0, T_1, T_2, T_3, T_4, T_5, T_6, T_7, T_8, T_l⟩ := T3.out.c9
  cases bb
  case false =>
    clear hbb
    go_wp2_with fail
    refine (dug_any _ HTB3.out HNA3.out).mono ?_
    rintro e w4 ⟨rfl, hb⟩
    have hB4 : Below w3.heap.size w3 w4 := bTrans (Below.refl _ _) hb
    have HD4 := Lib.hid (bTrans HD3.out hB4)
    have HT4 := Lib.hid (HT3.out.mono hB4)
    have HTB4 := Lib.hid (HTB3.out.mono hB4)
    have HNA4 := Lib.hid (HNA3.out.mono hB4)
    have T4 := Lib.hid (T3.out.mono hB4)
    clear hb hB4 HD3 HT3 HTB3 HNA3 T3 T_0 T_1 T_2 T_3 T_4 T_5 T_6 T_7 T_8 T_l
    obtain ⟨T_0, T_1, T_2, T_3, T_4, T_5, T_6, T_7, T_8, T_l⟩ := T4.out.c9
    go_wp2_with fail
    go_ret
    exact ⟨rfl, HD4.out⟩
  have hn := hasB_iff.1 hbb
  obtain ⟨i, rfl⟩ : ∃ i : Nat, sp = (i : Int) := ⟨sp.toNat, by omega⟩
  have HI := Lib.hid (show i < t.ns by omega)
  clear hn hbb
  by_cases hnf : 2 < t.q.nf
  case pos =>
    have hn1 : (2 : Int) < (t.q.nf : Int) := by omega
    have hn2 : decide ((t.q.nf : Int) > 2) = true := by simp; omega
    go_wp2_with fail
    refine (dug_any _ HTB3.out HNA3.out).mono ?_
    rintro e w4 ⟨rfl, hb⟩
    have hB4 : Below w3.heap.size w3 w4 := bTrans (Below.refl _ _) hb
    have HD4 := Lib.hid (bTrans HD3.out hB4)
    have HT4 := Lib.hid (HT3.out.mono hB4)
    have HTB4 := Lib.hid (HTB3.out.mono hB4)
    have HNA4 := Lib.hid (HNA3.out.mono hB4)
    have T4 := Lib.hid (T3.out.mono hB4)
    clear hb hB4 HD3 HT3 HTB3 HNA3 T3 T_0 T_1 T_2 T_3 T_4 T_5 T_6 T_7 T_8 T_l
    obtain ⟨T_0, T_1, T_2, T_3, T_4, T_5, T_6, T_7, T_8, T_l⟩ := T4.out.c9
    go_wp2_with fail
    go_ret
    exact ⟨rfl, HD4.out⟩
  have H2 := Lib.hid (show t.q.nf ≤ 2 by omega)
  have hn1 : ¬ (2 : Int) < (t.q.nf : Int) := by omega
  have hn2 : decide ((t.q.nf : Int) > 2) = false := by simp; omega
  have hn3 : decide ((2 : Int) < (t.q.nf : Int)) = false := by simp; omega
  go_wp2_with fail
  refine (leftOf9_any Aw Af Ao Ap As cw cf co cp cs t _ HOK.out HT3.out).mono ?_
  rintro e w4 ⟨⟨A4, c4, rfl, hi4⟩, hb⟩
  have hB4 : Below w3.heap.size w3 w4 := bTrans (Below.refl _ _) hb
  have HD4 := Lib.hid (bTrans HD3.out hB4)
  have HT4 := Lib.hid (HT3.out.mono hB4)
  have HTB4 := Lib.hid (HTB3.out.mono hB4)
  have HNA4 := Lib.hid (HNA3.out.mono hB4)
  have HI44 := Lib.hid (hi4)
  have T4 := Lib.hid (T3.out.mono hB4)
  clear hb hB4 HD3 HT3 HTB3 HNA3 T3 T_0 T_1 T_2 T_3 T_4 T_5 T_6 T_7 T_8 T_l
  obtain ⟨T_0, T_1, T_2, T_3, T_4, T_5, T_6, T_7, T_8, T_l⟩ := T4.out.c9
  clear hi4
  go_wp2_with fail
  obtain ⟨bb, hbb⟩ : ∃ b, decide (wd ∈ t.q.leftL) = b := ⟨_, rfl⟩
  have hl6 := left_len HOK.out.q
  refine ((mem_anyB t.q.leftL wd).trans hbb ▸ in1_any A4 t.q.leftL.length c4 (intL0 t.q.leftL) wd _ (by omega) HI44.out).mono ?_
  rintro e w5 ⟨rfl, hb⟩
  have hB5 : Below w4.heap.size w4 w5 := bTrans (Below.refl _ _) hb
  have HD5 := Lib.hid (bTrans HD4.out hB5)
  have HT5 := Lib.hid (HT4.out.mono hB5)
  have HTB5 := Lib.hid (HTB4.out.mono hB5)
  have HNA5 := Lib.hid (HNA4.out.mono hB5)
  have T5 := Lib.hid (T4.out.mono hB5)
  clear hb hB5 HD4 HT4 HTB4 HNA4 HI44 T4 T_0 T_1 T_2 T_3 T_4 T_5 T_6 T_7 T_8 T_l
  obtain ⟨T_0, T_1, T_2, T_3, T_4, T_5, T_6, T_7, T_8, T_l⟩ := T5.out.c9
  cases bb
  case false =>
    clear hbb hl6
    go_wp2_with fail
    refine (dug_any _ HTB5.out HNA5.out).mono ?_
    rintro e w6 ⟨rfl, hb⟩
    have hB6 : Below w5.heap.size w5 w6 := bTrans (Below.refl _ _) hb
    have HD6 := Lib.hid (bTrans HD5.out hB6)
    have HT6 := Lib.hid (HT5.out.mono hB6)
    have HTB6 := Lib.hid (HTB5.out.mono hB6)
    have HNA6 := Lib.hid (HNA5.out.mono hB6)
    have T6 := Lib.hid (T5.out.mono hB6)
    clear hb hB6 HD5 HT5 HTB5 HNA5 T5 T_0 T_1 T_2 T_3 T_4 T_5 T_6 T_7 T_8 T_l
    obtain ⟨T_0, T_1, T_2, T_3, T_4, T_5, T_6, T_7, T_8, T_l⟩ := T6.out.c9
    go_wp2_with fail
    go_ret
    exact ⟨rfl, HD6.out⟩
  have hmem : wd ∈ t.q.leftL := of_decide_eq_true hbb
  obtain ⟨j, hj, _, rfl⟩ := (leftTo_mem t.q t.q.nw).1 hmem
  have HWJ := Lib.hid hmem
  have HNE := Lib.hid (List.ne_nil_of_mem hmem)
  have HJ := Lib.hid hj
  clear hmem hj hbb hl6
  go_wp2_with fail
  clear hn1 hn2 hn3 hnf
  obtain ⟨L, hL⟩ : ∃ L, t.q.fewest t.q.leftL = L := ⟨_, rfl⟩
  obtain ⟨nl, hnl⟩ : ∃ n, L.length = n := ⟨_, rfl⟩
  obtain ⟨er, her⟩ : ∃ e, t.decErr (i : Int) = e := ⟨_, rfl⟩
  have HER := Lib.hid her
  have HL0 := Lib.hid hL
  have HNL := Lib.hid hnl
  have HSB := Lib.hid (show List.Sublist L t.q.tests from hL ▸ fewest_sub t.q t.q.leftL)
  have HLO := Lib.hid (show t.q.TestsOk L from fun x hx => tests_ok5 HOK.out.q x (HSB.out.subset hx))
  have hlm := (sub_tests HSB.out).2.1
  rw [hnl] at hlm
  have HN16 := Lib.hid (show nl ≤ 16 by have h2 := HOK.out.q.w0; have h3 := HOK.out.q.w1; have h4 : t.q.wells.toNat ≤ 4 := (by omega); have := Nat.mul_le_mul h4 h4; omega)
  have hway : er = 3 ∨ er = 0 ∧ t.decB i t.q.tests = true := by
    rw [← her]
    unfold Pt.decErr
    rw [hasB_in HI.out, Pt.knowErr_ok HOK.out HNE.out, if_pos rfl, Int.toNat_natCast]
    cases h : t.decB i t.q.tests
    · exact .inl rfl
    · exact .inr ⟨rfl, rfl⟩
  have hq1 : ¬ (nl : Int) > 16 := by have := HN16.out; omega
  have hq2 : ¬ (16 : Int) < (nl : Int) := by have := HN16.out; omega
  have ⟨h0, hde⟩ := hway.resolve_left (fun h => HEE.out (her.trans h))
  clear her hL hnl hlm hway
  refine ((by have := fewestQ_any Aw Af cw cf t.q w5 HSM.out.q HT5.out.q HTB5.out; rw [knowErr_ok HOK.out.q HNE.out, HL0.out] at this; exact this : Calls Tryz.prog 43 #[.agg #[.int .i64 t.q.wells, .slice Aw t.q.nw cw, .slice Af t.q.nf cf]] w5 fun e w' => LstOut w' 0 L e ∧ Below w5.heap.size w5 w')).mono ?_
  rintro e w6 ⟨ho, hb⟩
  obtain ⟨A5, c5, rfl, hl7⟩ := ho.1 rfl
  rw [HNL.out]
  have hB6 : Below w5.heap.size w5 w6 := bTrans (Below.refl _ _) hb
  have HD6 := Lib.hid (bTrans HD5.out hB6)
  have HT6 := Lib.hid (HT5.out.mono hB6)
  have HTB6 := Lib.hid (HTB5.out.mono hB6)
  have HNA6 := Lib.hid (HNA5.out.mono hB6)
  have HLA6 := Lib.hid (hl7.row)
  have T6 := Lib.hid (T5.out.mono hB6)
  clear hb hB6 HD5 HT5 HTB5 HNA5 T5 T_0 T_1 T_2 T_3 T_4 T_5 T_6 T_7 T_8 T_l
  obtain ⟨T_0, T_1, T_2, T_3, T_4, T_5, T_6, T_7, T_8, T_l⟩ := T6.out.c9
  clear ho hl7
  go_wp2_with fail
  refine ((decideP9_any Aw Af Ao Ap As cw cf co cp cs t (i : Int) w6 HSM.out HT6.out HTB6.out)).mono ?_
  rintro e w7 ⟨ho, hb⟩
  obtain ⟨A6, c6, rfl, hr⟩ := ho.o
  clear hr
  obtain ⟨n6, hn6⟩ : ∃ n, (lstO (t.decErr (i : Int)) (t.decL (i : Int))).length = n := ⟨_, rfl⟩
  rw [hn6, HER.out]
  have hB7 : Below w6.heap.size w6 w7 := bTrans (Below.refl _ _) hb
  have HD7 := Lib.hid (bTrans HD6.out hB7)
  have HT7 := Lib.hid (HT6.out.mono hB7)
  have HTB7 := Lib.hid (HTB6.out.mono hB7)
  have HNA7 := Lib.hid (HNA6.out.mono hB7)
  have HLA7 := Lib.hid (HLA6.out.mono hB7)
  have T7 := Lib.hid (T6.out.mono hB7)
  clear hb hB7 HD6 HT6 HTB6 HNA6 HLA6 T6 T_0 T_1 T_2 T_3 T_4 T_5 T_6 T_7 T_8 T_l
  obtain ⟨T_0, T_1, T_2, T_3, T_4, T_5, T_6, T_7, T_8, T_l⟩ := T7.out.c9
  clear ho hn6
  subst h0
  have HDE := Lib.hid hde
  clear hde
  go_wp2_with fail
  clear hq1 hq2
  go_loopw [12] (fun s wr => ∃ (k : Nat) (o : Pt) (Bw Bf Bo Bp Bs : Option Addr) (dw df do_ dp ds : Nat), k ≤ nl ∧ s = .int .i64 (k : Int) ∧ t.toldAll (j : Int) (L.take k) = o ∧ PAt wr Bw Bf Bo Bp Bs o ∧ TBox wr w7.heap.size 62 #[.int .i64 o.q.wells, .slice Bw o.q.nw dw, .slice Bf o.q.nf df, .slice Bo o.no do_, .slice Bp o.np dp, .slice Bs o.ns ds, .int .i64 o.far, .int .i64 o.harm, .int .i64 o.many] ∧ Below w7.heap.size w7 wr) (fun s _ => nl - (intOf s).toNat)
  case atStart => exact ⟨0, t, Aw, Af, Ao, Ap, As, cw, cf, co, cp, cs, Nat.zero_le _, rfl, rfl, HT7.out.mono (bAlloc (Below.refl _ _) _), TBox.new _ _ _, bAlloc (Below.refl _ _) _⟩
  case round =>
    obtain ⟨k, o, Bw, Bf, Bo, Bp, Bs, dw, df, do_, dp, ds, hk, rfl, ho, hq, hbx, hb⟩ := hrel
    have HOA := Lib.hid ho
    have HOX := Lib.hid hbx
    have HOF := Lib.hid (show o.Fits by rw [← ho]; exact toldAll_fits HFI.out H2.out (by rw [List.length_take, HNL.out]; have := HN16.out; omega))
    have HSO := Lib.hid HOF.out.small
    clear ho hbx
    clear T_0 T_1 T_2 T_3 T_4 T_5 T_6 T_7 T_8 T_l
    have hB8 : Below w7.heap.size w7 wr := bTrans (Below.refl _ _) hb
    have HD8 := Lib.hid (bTrans HD7.out hB8)
    have HT8 := Lib.hid (HT7.out.mono hB8)
    have HTB8 := Lib.hid (HTB7.out.mono hB8)
    have HNA8 := Lib.hid (HNA7.out.mono hB8)
    have HLA8 := Lib.hid (HLA7.out.mono hB8)
    have HQ8 := Lib.hid (hq)
    have HRL8 := Lib.hid ((show Upto w7 wr from hb))
    have T8 := Lib.hid (T7.out.mono hB8)
    clear hb hB8
    obtain ⟨T_0, T_1, T_2, T_3, T_4, T_5, T_6, T_7, T_8, T_l⟩ := T8.out.c9
    have O8 := HOX
    clear HOX
    obtain ⟨O_0, O_1, O_2, O_3, O_4, O_5, O_6, O_7, O_8, O_l⟩ := O8.out.c9
    by_cases hlt : k < nl
    case pos =>
      obtain ⟨x, hx⟩ : ∃ x, L[k]? = some x := ⟨_, List.getElem?_eq_getElem (by rw [HNL.out]; exact hlt)⟩
      obtain ⟨bb, oo, rfl, hbb, cq1, cq2⟩ := SliceE.tst HLA8.out hx
      have hxo := HLO.out x (List.mem_of_getElem? hx)
      obtain ⟨a, b⟩ := x
      have HA1 := Lib.hid (show (a : Int) < t.q.wells from hxo.1)
      have HB1 := Lib.hid (show (b : Int) < t.q.wells from hxo.2)
      have HTB9 := Lib.hid (show t.q.testB (a : Int) (b : Int) = true from test_in HOK.out.q hxo.1 hxo.2)
      have has := toldAll_succ (t := t) (a := (j : Int)) hx
      obtain ⟨v, hv⟩ : ∃ v, t.q.F (j : Int) (a, b) = v := ⟨_, rfl⟩
      rw [hv, HOA.out] at has
      obtain ⟨o2, ho2⟩ : ∃ o2, o.told (shownF (a, b) v) = o2 := ⟨_, rfl⟩
      rw [ho2] at has
      have HAS := Lib.hid has
      have HV := Lib.hid hv
      have HO2 := Lib.hid ho2
      have k1 : (k : Int) < (nl : Int) := by omega
      have k0 : (0 : Int) ≤ (k : Int) := by omega
      have k100 : k < 100 := by have := HN16.out; omega
      have cq1 : wr.cell? ⟨bb, oo + k * 2, none⟩ = some (.int .i64 (a : Int)) := cq1
      have cq2 : wr.cell? ⟨bb, oo + k * 2 + 1, none⟩ = some (.int .i64 (b : Int)) := cq2
      have HX := Lib.hid hx
      clear hx hxo has hv ho2
      have HCT := Lib.hid (fun (w' : World) (hb : Below wr.heap.size wr w') => (HTB9.out ▸ isTest5_any Aw Af cw cf t.q (a : Int) (b : Int) w' : Calls Tryz.prog 45 #[.agg #[.int .i64 t.q.wells, .slice Aw t.q.nw cw, .slice Af t.q.nf cf], .agg #[.int .i64 (a : Int), .int .i64 (b : Int)]] w' fun e w'' => e = .returned (.bool true) ∧ Below w'.heap.size w' w''))
      go_wp2_with fail
      refine wp_region_quiet_below (by kernel_rfl) (by kernel_rfl) ?_
      repeat (go_big_quiet_step (((go_at_call 45; with_reducible exact Calls.regrown_of (HCT.out _ (below_regrown _ _ _))))))
      refine wpQuiet_nil ?_
      intro w9 hw9
      have hb := below_of_regrown hw9
      clear hw9
      clear cq1 cq2 HCT
      have hB9 : Below wr.heap.size wr w9 := bTrans (Below.refl _ _) hb
      have HD9 := Lib.hid (bTrans HD8.out hB9)
      have HT9 := Lib.hid (HT8.out.mono hB9)
      have HTB9 := Lib.hid (HTB8.out.mono hB9)
      have HNA9 := Lib.hid (HNA8.out.mono hB9)
      have HLA9 := Lib.hid (HLA8.out.mono hB9)
      have HQ9 := Lib.hid (HQ8.out.mono hB9)
      have HRL9 := Lib.hid (HRL8.out.mono hB9)
      have T9 := Lib.hid (T8.out.mono hB9)
      have O9 := Lib.hid (O8.out.mono hB9)
      clear hb hB9 HD8 HT8 HTB8 HNA8 HLA8 HQ8 HRL8 T8 T_0 T_1 T_2 T_3 T_4 T_5 T_6 T_7 T_8 T_l O8 O_0 O_1 O_2 O_3 O_4 O_5 O_6 O_7 O_8 O_l
      obtain ⟨T_0, T_1, T_2, T_3, T_4, T_5, T_6, T_7, T_8, T_l⟩ := T9.out.c9
      obtain ⟨O_0, O_1, O_2, O_3, O_4, O_5, O_6, O_7, O_8, O_l⟩ := O9.out.c9
      go_wp2_with fail
      obtain ⟨_, _, e5, _, cq1, cq2⟩ := SliceE.tst HLA9.out (HX.out)
      simp only [Option.some.injEq, Addr.mk.injEq, and_true] at e5
      obtain ⟨rfl, rfl⟩ := e5
      refine wp_region_stir 21 [.const (.agg #[.int .i64 o.q.wells, .slice Bw o.q.nw dw, .slice Bf o.q.nf df, .slice Bo o.no do_, .slice Bp o.np dp, .slice Bs o.ns ds, .int .i64 o.far, .int .i64 o.harm, .int .i64 o.many]), .const (.slice (some ⟨bb, oo, none⟩) nl c5), .const (.int .i64 (k : Int)), .const (.pointer (some ⟨bb, oo + k * 2, none⟩)), .const (.agg #[.int .i64 (a : Int), .int .i64 (b : Int)]), .const (.pointer (some ⟨w.heap.size, 0, none⟩)), .const (.agg #[.int .i64 t.q.wells, .slice Aw t.q.nw cw, .slice Af t.q.nf cf]), .const (.int .i64 (j : Int)), .const (.slice (some ⟨bb, oo, none⟩) nl c5), .const (.int .i64 (k : Int)), .const (.pointer (some ⟨bb, oo + k * 2, none⟩)), .const (.pointer (some ⟨bb, oo + k * 2, none⟩)), .const (.int .i64 (a : Int)), .const (.slice (some ⟨bb, oo, none⟩) nl c5), .const (.int .i64 (k : Int)), .const (.pointer (some ⟨bb, oo + k * 2, none⟩)), .const (.pointer (some ⟨bb, oo + k * 2 + 1, none⟩)), .const (.int .i64 (b : Int)), .const (.int .i64 v), .const (.agg #[.int .i64 (a : Int), .int .i64 1, .int .i64 (b : Int), .int .i64 v, .int .i64 v]), .held (pcS o2) (pcR w9.heap.size o2)]
        (by kernel_rfl) (by kernel_rfl) rfl ⟨trivial, trivial, trivial, trivial, trivial, trivial, trivial, trivial, trivial, trivial, trivial, trivial, trivial, trivial, trivial, trivial, trivial, trivial, trivial, trivial, pcG, trivial⟩ (crossAll_no _ _ _ _ trivial) ?_
      iterate 18 refine wpStir_const (by go_simp) ?_
      refine wpStir_call rfl (fun w' hb hd => ?_) ?_
      · clear hd
        have hfc := Lib.hid (fallAt_F t.q j a b ▸ fall5_any Aw Af cw cf t.q j a b w' HOK.out.q HJ.out HA1.out HB1.out (HT9.out.mono hb).q)
        rw [HV.out] at hfc
        go_simp
        refine hfc.out.mono ?_
        rintro e w'' ⟨rfl, hb'⟩
        exact ⟨rfl, hb'⟩
      refine wpStir_call rfl (fun w' hb hd => ?_) ?_
      · clear hd
        go_simp
        refine (shownAs5_any a b v w').mono ?_
        rintro e w'' ⟨rfl, hb'⟩
        exact ⟨rfl, hb'⟩
      simp only [Act.put, List.setIfInBounds_toArray, List.set_cons_succ, List.set_cons_zero]
      refine wpStir_held rfl (fun w' hb hd => ?_) (fun v9 hv9 => ?_)
      · clear hd
        have hto := Lib.hid (told9c_any Bw Bf Bo Bp Bs dw df do_ dp ds o (shownF (a, b) v) w' HOF.out (HQ9.out.mono hb))
        rw [HO2.out] at hto
        have hz := hb.size
        go_simp
        refine hto.out.mono ?_
        rintro e w'' ⟨ho, hb'⟩
        obtain ⟨v8, rfl, h1, h2⟩ := ho.pc hz
        exact ⟨v8, rfl, hb', h1, h2⟩
      obtain ⟨Cw, Cf, Co, Cp, Cs, ew, ef, eo, ep, es, rfl⟩ := hv9
      refine wpStir_end (fun w5 hb5 hd => ?_)
      have hcp := hd.1 _ _ _ _ _ _ _ _ _ _ rfl
      clear hd
      have htb : TBox w5 w7.heap.size 62 #[.int .i64 o.q.wells, .slice Bw o.q.nw dw, .slice Bf o.q.nf df, .slice Bo o.no do_, .slice Bp o.np dp, .slice Bs o.ns ds, .int .i64 o.far, .int .i64 o.harm, .int .i64 o.many] := O9.out.mono hb5
      obtain ⟨hx0, hx1, hx2, hx3, hx4, hx5, hx6, hx7, hx8, hxl⟩ := htb.c9
      have hf0 := htb.frozen 0
      have hf1 := htb.frozen 1
      have hf2 := htb.frozen 2
      have hf3 := htb.frozen 3
      have hf4 := htb.frozen 4
      have hf5 := htb.frozen 5
      have hf6 := htb.frozen 6
      have hf7 := htb.frozen 7
      have hf8 := htb.frozen 8
      simp only [Act.put, List.setIfInBounds_toArray, List.set_cons_succ, List.set_cons_zero, List.drop_succ_cons, List.drop_zero]
      have ty : ∃ cs, TBox w5 w7.heap.size 62 cs := ⟨_, htb⟩
      obtain ⟨w20, hw20⟩ : ∃ w20, (((((((((w5.setCell ⟨w7.heap.size, 0, none⟩ (.int .i64 o2.q.wells)).setCell ⟨w7.heap.size, 1, none⟩ (.slice Cw o2.q.nw ew)).setCell ⟨w7.heap.size, 2, none⟩ (.slice Cf o2.q.nf ef)).setCell ⟨w7.heap.size, 3, none⟩ (.slice Co o2.no eo)).setCell ⟨w7.heap.size, 4, none⟩ (.slice Cp o2.np ep)).setCell ⟨w7.heap.size, 5, none⟩ (.slice Cs o2.ns es)).setCell ⟨w7.heap.size, 6, none⟩ (.int .i64 o2.far)).setCell ⟨w7.heap.size, 7, none⟩ (.int .i64 o2.harm)).setCell ⟨w7.heap.size, 8, none⟩ (.int .i64 o2.many)) = w20 := ⟨_, rfl⟩
      have hc9 : CopyAt9 w20 w9.heap.size (.slice Cw o2.q.nw ew) (.slice Cf o2.q.nf ef) (.slice Co o2.no eo) (.slice Cp o2.np ep) (.slice Cs o2.ns es) o2 := by
        rw [← hw20]
        repeat with_reducible refine CopyAt9.setTy ?_ ?_ _ _
        · exact hcp
        all_goals repeat (first | with_reducible refine TyB.set ?_ _ _ _ | with_reducible exact ty)
      have hbb3 : Below w7.heap.size w7 w20 := by
        rw [← hw20]
        have k9 : Below w7.heap.size w7 w5 := (bTrans (show Below w7.heap.size w7 w9 from HRL9.out) hb5)
        repeat (with_reducible refine Below.setCell ?_ ?_ _)
        · exact k9
        all_goals exact Nat.le_refl _
      have htb3 : TBox w20 w7.heap.size 62 #[.int .i64 o2.q.wells, .slice Cw o2.q.nw ew, .slice Cf o2.q.nf ef, .slice Co o2.no eo, .slice Cp o2.np ep, .slice Cs o2.ns es, .int .i64 o2.far, .int .i64 o2.harm, .int .i64 o2.many] := by
        rw [← hw20]
        have := ((((((((htb.set 0 (.int .i64 o2.q.wells)).set 1 (.slice Cw o2.q.nw ew)).set 2 (.slice Cf o2.q.nf ef)).set 3 (.slice Co o2.no eo)).set 4 (.slice Cp o2.np ep)).set 5 (.slice Cs o2.ns es)).set 6 (.int .i64 o2.far)).set 7 (.int .i64 o2.harm)).set 8 (.int .i64 o2.many)
        exact this
      have HW20 := Lib.hid hw20
      have HQ2 := Lib.hid (told_chain hc9)
      have HT3 := Lib.hid htb3
      have HB3 := Lib.hid hbb3
      clear hc9 hbb3 htb3 hw20 hcp htb hb5 ty
      unfold pcV
      refine wpList_skip rfl rfl (w'' := w20) (by rw [← HW20.out]; go_simp) ?_
      go_wp2_with fail
      go_roundw
      case rel =>
        first
        | exact ⟨k + 1, o2, Cw, Cf, Co, Cp, Cs, ew, ef, eo, ep, es, by omega, by go_num, HAS.out, HQ2.out, HT3.out, HB3.out⟩
        | ((repeat apply Exists.intro)
           refine ⟨⟨k + 1, o2, Cw, Cf, Co, Cp, Cs, ew, ef, eo, ep, es, by omega, ?_, HAS.out, HQ2.out, HT3.out, HB3.out⟩, rfl⟩
           go_num)
      case measure => simp [intOf]; omega
    obtain rfl : k = nl := by omega
    have k1 : ¬ (k : Int) < (k : Int) := by omega
    go_wp2_with fail
    have HOL := Lib.hid (show t.toldAll (j : Int) (t.q.fewest t.q.leftL) = o by have h := HOA.out; rw [List.take_of_length_le (Nat.le_of_eq HNL.out), ← HL0.out] at h; exact h)
    clear k1
    refine ((by have := check9_any Bw Bf Bo Bp Bs dw df do_ dp ds o wr HSO.out HQ8.out; exact this : Calls Tryz.prog 34 #[.agg #[.int .i64 o.q.wells, .slice Bw o.q.nw dw, .slice Bf o.q.nf df, .slice Bo o.no do_, .slice Bp o.np dp, .slice Bs o.ns ds, .int .i64 o.far, .int .i64 o.harm, .int .i64 o.many]] wr fun e w' => e = .returned (.int .i64 o.err) ∧ Below wr.heap.size wr w')).mono ?_
    rintro e w9 ⟨rfl, hb⟩
    have hB9 : Below wr.heap.size wr w9 := bTrans (Below.refl _ _) hb
    have HD9 := Lib.hid (bTrans HD8.out hB9)
    have HT9 := Lib.hid (HT8.out.mono hB9)
    have HTB9 := Lib.hid (HTB8.out.mono hB9)
    have HNA9 := Lib.hid (HNA8.out.mono hB9)
    have HLA9 := Lib.hid (HLA8.out.mono hB9)
    have HQ9 := Lib.hid (HQ8.out.mono hB9)
    have HRL9 := Lib.hid (HRL8.out.mono hB9)
    have T9 := Lib.hid (T8.out.mono hB9)
    have O9 := Lib.hid (O8.out.mono hB9)
    clear hb hB9 HD8 HT8 HTB8 HNA8 HLA8 HQ8 HRL8 T8 T_0 T_1 T_2 T_3 T_4 T_5 T_6 T_7 T_8 T_l O8 O_0 O_1 O_2 O_3 O_4 O_5 O_6 O_7 O_8 O_l
    obtain ⟨T_0, T_1, T_2, T_3, T_4, T_5, T_6, T_7, T_8, T_l⟩ := T9.out.c9
    obtain ⟨O_0, O_1, O_2, O_3, O_4, O_5, O_6, O_7, O_8, O_l⟩ := O9.out.c9
    by_cases hok : o.Ok
    case neg =>
      rw [Pt.err_bad hok]
      clear hok
      go_wp2_with fail
      refine (dug_any _ HTB9.out HNA9.out).mono ?_
      rintro e w10 ⟨rfl, hb⟩
      have hB10 : Below w9.heap.size w9 w10 := bTrans (Below.refl _ _) hb
      have HD10 := Lib.hid (bTrans HD9.out hB10)
      have HT10 := Lib.hid (HT9.out.mono hB10)
      have HTB10 := Lib.hid (HTB9.out.mono hB10)
      have HNA10 := Lib.hid (HNA9.out.mono hB10)
      have HLA10 := Lib.hid (HLA9.out.mono hB10)
      have HQ10 := Lib.hid (HQ9.out.mono hB10)
      have HRL10 := Lib.hid (HRL9.out.mono hB10)
      have T10 := Lib.hid (T9.out.mono hB10)
      have O10 := Lib.hid (O9.out.mono hB10)
      clear hb hB10 HD9 HT9 HTB9 HNA9 HLA9 HQ9 HRL9 T9 T_0 T_1 T_2 T_3 T_4 T_5 T_6 T_7 T_8 T_l O9 O_0 O_1 O_2 O_3 O_4 O_5 O_6 O_7 O_8 O_l
      obtain ⟨T_0, T_1, T_2, T_3, T_4, T_5, T_6, T_7, T_8, T_l⟩ := T10.out.c9
      obtain ⟨O_0, O_1, O_2, O_3, O_4, O_5, O_6, O_7, O_8, O_l⟩ := O10.out.c9
      go_wp2_with fail
      go_ret
      exact ⟨rfl, HD10.out⟩
    rw [Pt.err_ok hok]
    have HOK2 := Lib.hid hok
    clear hok
    have HNE2 := Lib.hid (show o.q.leftL ≠ [] by rw [← HOL.out]; exact List.ne_nil_of_mem (toldAll_self HWJ.out))
    go_wp2_with fail
    obtain ⟨wl443, hwl⟩ : ∃ y, y = wr := ⟨_, rfl⟩
    subst hwl
    clear T_0 T_1 T_2 T_3 T_4 T_5 T_6 T_7 T_8 T_l O_0 O_1 O_2 O_3 O_4 O_5 O_6 O_7 O_8 O_l
    go_loopw [13, 14] (fun s13 s14 wr => ∃ k2 : Nat, k2 ≤ t.no ∧ s13 = .int .i64 ((t.cntW i (j : Int) k2 : Nat) : Int) ∧ s14 = .int .i64 (k2 : Int) ∧ Below w9.heap.size w9 wr) (fun _ s14 _ => t.no - (intOf s14).toNat)
    case atStart => exact ⟨0, Nat.zero_le _, rfl, rfl, Below.refl _ _⟩
    case round =>
      obtain ⟨k2, hk_k2, rfl, rfl, hb⟩ := hrel
      have HBk2 := Lib.hid hb
      have hB10 : Below w9.heap.size w9 wr := bTrans (Below.refl _ _) hb
      have HD10 := Lib.hid (bTrans HD9.out hB10)
      have HT10 := Lib.hid (HT9.out.mono hB10)
      have HTB10 := Lib.hid (HTB9.out.mono hB10)
      have HNA10 := Lib.hid (HNA9.out.mono hB10)
      have HLA10 := Lib.hid (HLA9.out.mono hB10)
      have HQ10 := Lib.hid (HQ9.out.mono hB10)
      have HRL10 := Lib.hid (HRL9.out.mono hB10)
      have HU_k210 := Lib.hid ((show Upto w9 wr from HBk2.out))
      have T10 := Lib.hid (T9.out.mono hB10)
      have O10 := Lib.hid (O9.out.mono hB10)
      clear hb hB10
      obtain ⟨T_0, T_1, T_2, T_3, T_4, T_5, T_6, T_7, T_8, T_l⟩ := T10.out.c9
      obtain ⟨O_0, O_1, O_2, O_3, O_4, O_5, O_6, O_7, O_8, O_l⟩ := O10.out.c9
      by_cases hlt_k2 : k2 < t.no
      case pos =>
        have h1_k2 : (k2 : Int) < (t.no : Int) := by omega
        have h0_k2 : (0 : Int) ≤ (k2 : Int) := by omega
        have hb_k2 : k2 < 100 := by have := HOK.out.no; have := HOK.out.q.w1; omega
        have hk5 : (k2 : Int) < t.q.wells := by have := HOK.out.no; omega
        have HK5 := Lib.hid hk5
        clear hk5
        obtain ⟨bf, hbf⟩ : ∃ b, t.forb i k2 (j : Int) = b := ⟨_, rfl⟩
        obtain ⟨cc, hcc⟩ : ∃ c, t.cntW i (j : Int) k2 = c := ⟨_, rfl⟩
        have hcb : cc < 100 := by have := cntW_le t i (j : Int) k2; omega
        have hc0 : (0 : Int) ≤ (cc : Int) := by omega
        have HC1 := Lib.hid (show t.cntW i (j : Int) (k2 + 1) = if bf then cc + 1 else cc by rw [cntW_succ, hbf, hcc])
        have HBF := Lib.hid hbf
        rw [hcc]
        clear hbf hcc
        go_wp2_with fail
        cases bf
        case false =>
          have HFO := Lib.hid (show o.forbidsOut (i : Int) (k2 : Int) = (2, 0) by rw [told_forbOut HOL.out HOK2.out HDE.out HWJ.out HI.out HK5.out, HBF.out]; rfl)
          have HC2 := Lib.hid (show t.cntW i (j : Int) (k2 + 1) = cc from HC1.out)
          clear HC1
          refine ((by have := forbidsOutP_any Bw Bf Bo Bp Bs dw df do_ dp ds o (i : Int) (k2 : Int) wr HSO.out HQ10.out HTB10.out; rw [HFO.out] at this; exact this : Calls Tryz.prog 49 #[.agg #[.int .i64 o.q.wells, .slice Bw o.q.nw dw, .slice Bf o.q.nf df, .slice Bo o.no do_, .slice Bp o.np dp, .slice Bs o.ns ds, .int .i64 o.far, .int .i64 o.harm, .int .i64 o.many], .int .i64 (i : Int), .int .i64 (k2 : Int)] wr fun e w' => e = .returned (.tuple #[.int .i64 2, .int .i64 0]) ∧ Below wr.heap.size wr w')).mono ?_
          rintro e w11 ⟨rfl, hb⟩
          have hB11 : Below wr.heap.size wr w11 := bTrans (Below.refl _ _) hb
          have HD11 := Lib.hid (bTrans HD10.out hB11)
          have HT11 := Lib.hid (HT10.out.mono hB11)
          have HTB11 := Lib.hid (HTB10.out.mono hB11)
          have HNA11 := Lib.hid (HNA10.out.mono hB11)
          have HLA11 := Lib.hid (HLA10.out.mono hB11)
          have HQ11 := Lib.hid (HQ10.out.mono hB11)
          have HRL11 := Lib.hid (HRL10.out.mono hB11)
          have HU_k211 := Lib.hid (HU_k210.out.mono hB11)
          have T11 := Lib.hid (T10.out.mono hB11)
          have O11 := Lib.hid (O10.out.mono hB11)
          clear hb hB11 HD10 HT10 HTB10 HNA10 HLA10 HQ10 HRL10 HU_k210 T10 T_0 T_1 T_2 T_3 T_4 T_5 T_6 T_7 T_8 T_l O10 O_0 O_1 O_2 O_3 O_4 O_5 O_6 O_7 O_8 O_l
          obtain ⟨T_0, T_1, T_2, T_3, T_4, T_5, T_6, T_7, T_8, T_l⟩ := T11.out.c9
          obtain ⟨O_0, O_1, O_2, O_3, O_4, O_5, O_6, O_7, O_8, O_l⟩ := O11.out.c9
          go_wp2_with fail
          refine ((by have := isForb9_any Aw Af Ao Ap As cw cf co cp cs t j i k2 w11 HOK.out HT11.out HI.out HK5.out HJ.out; rw [HBF.out] at this; exact this : Calls Tryz.prog 50 #[.agg #[.int .i64 t.q.wells, .slice Aw t.q.nw cw, .slice Af t.q.nf cf, .slice Ao t.no co, .slice Ap t.np cp, .slice As t.ns cs, .int .i64 t.far, .int .i64 t.harm, .int .i64 t.many], .int .i64 (j : Int), .int .i64 (i : Int), .int .i64 (k2 : Int)] w11 fun e w' => e = .returned (.bool false) ∧ Below w11.heap.size w11 w')).mono ?_
          rintro e w12 ⟨rfl, hb⟩
          have hB12 : Below w11.heap.size w11 w12 := bTrans (Below.refl _ _) hb
          have HD12 := Lib.hid (bTrans HD11.out hB12)
          have HT12 := Lib.hid (HT11.out.mono hB12)
          have HTB12 := Lib.hid (HTB11.out.mono hB12)
          have HNA12 := Lib.hid (HNA11.out.mono hB12)
          have HLA12 := Lib.hid (HLA11.out.mono hB12)
          have HQ12 := Lib.hid (HQ11.out.mono hB12)
          have HRL12 := Lib.hid (HRL11.out.mono hB12)
          have HU_k212 := Lib.hid (HU_k211.out.mono hB12)
          have T12 := Lib.hid (T11.out.mono hB12)
          have O12 := Lib.hid (O11.out.mono hB12)
          clear hb hB12 HD11 HT11 HTB11 HNA11 HLA11 HQ11 HRL11 HU_k211 T11 T_0 T_1 T_2 T_3 T_4 T_5 T_6 T_7 T_8 T_l O11 O_0 O_1 O_2 O_3 O_4 O_5 O_6 O_7 O_8 O_l
          obtain ⟨T_0, T_1, T_2, T_3, T_4, T_5, T_6, T_7, T_8, T_l⟩ := T12.out.c9
          obtain ⟨O_0, O_1, O_2, O_3, O_4, O_5, O_6, O_7, O_8, O_l⟩ := O12.out.c9
          go_wp2_with fail
          go_roundw
          case rel =>
            first
            | exact ⟨k2 + 1, by omega, by rw [HC2.out], by go_num, HU_k212.out⟩
            | ((repeat apply Exists.intro)
               refine ⟨⟨k2 + 1, by omega, by rw [HC2.out], ?_, HU_k212.out⟩, rfl⟩
               go_num)
          case measure => simp [intOf]; omega
        case true =>
          have HFO := Lib.hid (show o.forbidsOut (i : Int) (k2 : Int) = (1, 0) by rw [told_forbOut HOL.out HOK2.out HDE.out HWJ.out HI.out HK5.out, HBF.out]; rfl)
          have HC2 := Lib.hid (show t.cntW i (j : Int) (k2 + 1) = cc + 1 from HC1.out)
          clear HC1
          refine ((by have := forbidsOutP_any Bw Bf Bo Bp Bs dw df do_ dp ds o (i : Int) (k2 : Int) wr HSO.out HQ10.out HTB10.out; rw [HFO.out] at this; exact this : Calls Tryz.prog 49 #[.agg #[.int .i64 o.q.wells, .slice Bw o.q.nw dw, .slice Bf o.q.nf df, .slice Bo o.no do_, .slice Bp o.np dp, .slice Bs o.ns ds, .int .i64 o.far, .int .i64 o.harm, .int .i64 o.many], .int .i64 (i : Int), .int .i64 (k2 : Int)] wr fun e w' => e = .returned (.tuple #[.int .i64 1, .int .i64 0]) ∧ Below wr.heap.size wr w')).mono ?_
          rintro e w11 ⟨rfl, hb⟩
          have hB11 : Below wr.heap.size wr w11 := bTrans (Below.refl _ _) hb
          have HD11 := Lib.hid (bTrans HD10.out hB11)
          have HT11 := Lib.hid (HT10.out.mono hB11)
          have HTB11 := Lib.hid (HTB10.out.mono hB11)
          have HNA11 := Lib.hid (HNA10.out.mono hB11)
          have HLA11 := Lib.hid (HLA10.out.mono hB11)
          have HQ11 := Lib.hid (HQ10.out.mono hB11)
          have HRL11 := Lib.hid (HRL10.out.mono hB11)
          have HU_k211 := Lib.hid (HU_k210.out.mono hB11)
          have T11 := Lib.hid (T10.out.mono hB11)
          have O11 := Lib.hid (O10.out.mono hB11)
          clear hb hB11 HD10 HT10 HTB10 HNA10 HLA10 HQ10 HRL10 HU_k210 T10 T_0 T_1 T_2 T_3 T_4 T_5 T_6 T_7 T_8 T_l O10 O_0 O_1 O_2 O_3 O_4 O_5 O_6 O_7 O_8 O_l
          obtain ⟨T_0, T_1, T_2, T_3, T_4, T_5, T_6, T_7, T_8, T_l⟩ := T11.out.c9
          obtain ⟨O_0, O_1, O_2, O_3, O_4, O_5, O_6, O_7, O_8, O_l⟩ := O11.out.c9
          go_wp2_with fail
          refine ((by have := isForb9_any Aw Af Ao Ap As cw cf co cp cs t j i k2 w11 HOK.out HT11.out HI.out HK5.out HJ.out; rw [HBF.out] at this; exact this : Calls Tryz.prog 50 #[.agg #[.int .i64 t.q.wells, .slice Aw t.q.nw cw, .slice Af t.q.nf cf, .slice Ao t.no co, .slice Ap t.np cp, .slice As t.ns cs, .int .i64 t.far, .int .i64 t.harm, .int .i64 t.many], .int .i64 (j : Int), .int .i64 (i : Int), .int .i64 (k2 : Int)] w11 fun e w' => e = .returned (.bool true) ∧ Below w11.heap.size w11 w')).mono ?_
          rintro e w12 ⟨rfl, hb⟩
          have hB12 : Below w11.heap.size w11 w12 := bTrans (Below.refl _ _) hb
          have HD12 := Lib.hid (bTrans HD11.out hB12)
          have HT12 := Lib.hid (HT11.out.mono hB12)
          have HTB12 := Lib.hid (HTB11.out.mono hB12)
          have HNA12 := Lib.hid (HNA11.out.mono hB12)
          have HLA12 := Lib.hid (HLA11.out.mono hB12)
          have HQ12 := Lib.hid (HQ11.out.mono hB12)
          have HRL12 := Lib.hid (HRL11.out.mono hB12)
          have HU_k212 := Lib.hid (HU_k211.out.mono hB12)
          have T12 := Lib.hid (T11.out.mono hB12)
          have O12 := Lib.hid (O11.out.mono hB12)
          clear hb hB12 HD11 HT11 HTB11 HNA11 HLA11 HQ11 HRL11 HU_k211 T11 T_0 T_1 T_2 T_3 T_4 T_5 T_6 T_7 T_8 T_l O11 O_0 O_1 O_2 O_3 O_4 O_5 O_6 O_7 O_8 O_l
          obtain ⟨T_0, T_1, T_2, T_3, T_4, T_5, T_6, T_7, T_8, T_l⟩ := T12.out.c9
          obtain ⟨O_0, O_1, O_2, O_3, O_4, O_5, O_6, O_7, O_8, O_l⟩ := O12.out.c9
          go_wp2_with fail
          go_roundw
          case rel =>
            first
            | exact ⟨k2 + 1, by omega, by rw [HC2.out]; go_num, by go_num, HU_k212.out⟩
            | ((repeat apply Exists.intro)
               refine ⟨⟨k2 + 1, by omega, by rw [HC2.out]; go_num, ?_, HU_k212.out⟩, rfl⟩
               go_num)
          case measure => simp [intOf]; omega
      have he_k2 : k2 = t.no := by omega
      have hk9 : ¬ (k2 : Int) < (t.no : Int) := by omega
      obtain ⟨cc, hcc⟩ : ∃ c, t.cntW i (j : Int) k2 = c := ⟨_, rfl⟩
      have HCC := Lib.hid (show t.cntW i (j : Int) t.m = cc by rw [← hcc, he_k2]; congr 1; unfold Pt.m; have := HOK.out.no; omega)
      rw [hcc]
      clear hcc he_k2
      go_wp2_with fail
      clear hk9
      obtain ⟨z, hz⟩ : ∃ y, o.frees.length = y := ⟨_, rfl⟩
      have HZ := Lib.hid hz
      clear hz
      obtain ⟨p1, hp1⟩ : ∃ y, (o.priceOut (i : Int)).1 = y := ⟨_, rfl⟩
      obtain ⟨p2, hp2⟩ : ∃ y, (o.priceOut (i : Int)).2 = y := ⟨_, rfl⟩
      have HP := Lib.hid (And.intro hp1 hp2)
      clear hp1 hp2
      have hz1 : (z : Int) ≤ (t.ns : Int) := by have h := selTo_len o.freeB o.ns; have h2 := HZ.out; unfold Pt.frees at h2; have h3 : o.ns = t.ns := (by rw [← HOL.out]; rfl); omega
      have HZL := Lib.hid (show z ≤ 9223372036854775807 by have := HSM.out.ns; omega)
      obtain ⟨bb, hbb⟩ : ∃ b, decide ((i : Int) ∈ o.frees) = b := ⟨_, rfl⟩
      have HMB := Lib.hid (show anyB (fun x => intL0 o.frees x == (i : Int)) z = bb by rw [← HZ.out, mem_anyB]; exact hbb)
      have hlast : bb = (decide (cc = 0) && decide (p2 = 0)) := by rw [← hbb, told_last HOL.out HOK2.out HDE.out HWJ.out HI.out, HCC.out, HP.out.2]
      clear hbb
      refine ((by have := freeP_any Bw Bf Bo Bp Bs dw df do_ dp ds o wr HSO.out HQ10.out HTB10.out HNA10.out; rw [Pt.knowErr_ok HOK2.out HNE2.out] at this; exact this : Calls Tryz.prog 29 #[.agg #[.int .i64 o.q.wells, .slice Bw o.q.nw dw, .slice Bf o.q.nf df, .slice Bo o.no do_, .slice Bp o.np dp, .slice Bs o.ns ds, .int .i64 o.far, .int .i64 o.harm, .int .i64 o.many]] wr fun e w' => NumsOut w' wr.heap.size 0 (o.frees) e ∧ Below wr.heap.size wr w')).mono ?_
      rintro e w11 ⟨ho, hb⟩
      obtain ⟨v, rfl, hv⟩ := ho.1 rfl
      obtain ⟨A8, c8, rfl, hi6⟩ := hv.lst
      rw [HZ.out] at hi6 ⊢
      have hB11 : Below wr.heap.size wr w11 := bTrans (Below.refl _ _) hb
      have HD11 := Lib.hid (bTrans HD10.out hB11)
      have HT11 := Lib.hid (HT10.out.mono hB11)
      have HTB11 := Lib.hid (HTB10.out.mono hB11)
      have HNA11 := Lib.hid (HNA10.out.mono hB11)
      have HLA11 := Lib.hid (HLA10.out.mono hB11)
      have HQ11 := Lib.hid (HQ10.out.mono hB11)
      have HRL11 := Lib.hid (HRL10.out.mono hB11)
      have HU_k211 := Lib.hid (HU_k210.out.mono hB11)
      have HW11 := Lib.hid (hi6)
      have T11 := Lib.hid (T10.out.mono hB11)
      have O11 := Lib.hid (O10.out.mono hB11)
      clear hb hB11 HD10 HT10 HTB10 HNA10 HLA10 HQ10 HRL10 HU_k210 T10 T_0 T_1 T_2 T_3 T_4 T_5 T_6 T_7 T_8 T_l O10 O_0 O_1 O_2 O_3 O_4 O_5 O_6 O_7 O_8 O_l
      obtain ⟨T_0, T_1, T_2, T_3, T_4, T_5, T_6, T_7, T_8, T_l⟩ := T11.out.c9
      obtain ⟨O_0, O_1, O_2, O_3, O_4, O_5, O_6, O_7, O_8, O_l⟩ := O11.out.c9
      clear ho hv hi6
      go_wp2_with fail
      refine ((by have := pricesP_any Bw Bf Bo Bp Bs dw df do_ dp ds o (i : Int) w11 HSO.out HQ11.out HTB11.out HNA11.out; rw [HP.out.1, HP.out.2] at this; exact this : Calls Tryz.prog 39 #[.agg #[.int .i64 o.q.wells, .slice Bw o.q.nw dw, .slice Bf o.q.nf df, .slice Bo o.no do_, .slice Bp o.np dp, .slice Bs o.ns ds, .int .i64 o.far, .int .i64 o.harm, .int .i64 o.many], .int .i64 (i : Int)] w11 fun e w' => e = .returned (.tuple #[.int .i64 p1, .int .i64 p2]) ∧ Below w11.heap.size w11 w')).mono ?_
      rintro e w12 ⟨rfl, hb⟩
      have hB12 : Below w11.heap.size w11 w12 := bTrans (Below.refl _ _) hb
      have HD12 := Lib.hid (bTrans HD11.out hB12)
      have HT12 := Lib.hid (HT11.out.mono hB12)
      have HTB12 := Lib.hid (HTB11.out.mono hB12)
      have HNA12 := Lib.hid (HNA11.out.mono hB12)
      have HLA12 := Lib.hid (HLA11.out.mono hB12)
      have HQ12 := Lib.hid (HQ11.out.mono hB12)
      have HRL12 := Lib.hid (HRL11.out.mono hB12)
      have HU_k212 := Lib.hid (HU_k211.out.mono hB12)
      have HW12 := Lib.hid (HW11.out.mono hB12)
      have T12 := Lib.hid (T11.out.mono hB12)
      have O12 := Lib.hid (O11.out.mono hB12)
      clear hb hB12 HD11 HT11 HTB11 HNA11 HLA11 HQ11 HRL11 HU_k211 HW11 T11 T_0 T_1 T_2 T_3 T_4 T_5 T_6 T_7 T_8 T_l O11 O_0 O_1 O_2 O_3 O_4 O_5 O_6 O_7 O_8 O_l
      obtain ⟨T_0, T_1, T_2, T_3, T_4, T_5, T_6, T_7, T_8, T_l⟩ := T12.out.c9
      obtain ⟨O_0, O_1, O_2, O_3, O_4, O_5, O_6, O_7, O_8, O_l⟩ := O12.out.c9
      go_wp2_with fail
      have hthree : (cc = 0 ∧ p2 = 0) ∨ (cc = 0 ∧ ¬ p2 = 0) ∨ ¬ cc = 0 := by omega
      rcases hthree with ⟨c0, q0⟩ | ⟨c0, q0⟩ | c0
      · skip
        subst c0 q0
        obtain rfl : bb = true := hlast
        skip
        refine ((HMB.out ▸ in1_any A8 z c8 (intL0 o.frees) (i : Int) w12 HZL.out HW12.out)).mono ?_
        rintro e w13 ⟨rfl, hb⟩
        have hB13 : Below w12.heap.size w12 w13 := bTrans (Below.refl _ _) hb
        have HD13 := Lib.hid (bTrans HD12.out hB13)
        have HT13 := Lib.hid (HT12.out.mono hB13)
        have HTB13 := Lib.hid (HTB12.out.mono hB13)
        have HNA13 := Lib.hid (HNA12.out.mono hB13)
        have HLA13 := Lib.hid (HLA12.out.mono hB13)
        have HQ13 := Lib.hid (HQ12.out.mono hB13)
        have HRL13 := Lib.hid (HRL12.out.mono hB13)
        have HU_k213 := Lib.hid (HU_k212.out.mono hB13)
        have HW13 := Lib.hid (HW12.out.mono hB13)
        have T13 := Lib.hid (T12.out.mono hB13)
        have O13 := Lib.hid (O12.out.mono hB13)
        clear hb hB13 HD12 HT12 HTB12 HNA12 HLA12 HQ12 HRL12 HU_k212 HW12 T12 T_0 T_1 T_2 T_3 T_4 T_5 T_6 T_7 T_8 T_l O12 O_0 O_1 O_2 O_3 O_4 O_5 O_6 O_7 O_8 O_l
        obtain ⟨T_0, T_1, T_2, T_3, T_4, T_5, T_6, T_7, T_8, T_l⟩ := T13.out.c9
        obtain ⟨O_0, O_1, O_2, O_3, O_4, O_5, O_6, O_7, O_8, O_l⟩ := O13.out.c9
        go_wp2_with fail
        refine (dug_any _ HTB13.out HNA13.out).mono ?_
        rintro e w14 ⟨rfl, hb⟩
        have hB14 : Below w13.heap.size w13 w14 := bTrans (Below.refl _ _) hb
        have HD14 := Lib.hid (bTrans HD13.out hB14)
        have HT14 := Lib.hid (HT13.out.mono hB14)
        have HTB14 := Lib.hid (HTB13.out.mono hB14)
        have HNA14 := Lib.hid (HNA13.out.mono hB14)
        have HLA14 := Lib.hid (HLA13.out.mono hB14)
        have HQ14 := Lib.hid (HQ13.out.mono hB14)
        have HRL14 := Lib.hid (HRL13.out.mono hB14)
        have HU_k214 := Lib.hid (HU_k213.out.mono hB14)
        have HW14 := Lib.hid (HW13.out.mono hB14)
        have T14 := Lib.hid (T13.out.mono hB14)
        have O14 := Lib.hid (O13.out.mono hB14)
        clear hb hB14 HD13 HT13 HTB13 HNA13 HLA13 HQ13 HRL13 HU_k213 HW13 T13 T_0 T_1 T_2 T_3 T_4 T_5 T_6 T_7 T_8 T_l O13 O_0 O_1 O_2 O_3 O_4 O_5 O_6 O_7 O_8 O_l
        obtain ⟨T_0, T_1, T_2, T_3, T_4, T_5, T_6, T_7, T_8, T_l⟩ := T14.out.c9
        obtain ⟨O_0, O_1, O_2, O_3, O_4, O_5, O_6, O_7, O_8, O_l⟩ := O14.out.c9
        go_wp2_with fail
        go_ret
        exact ⟨rfl, HD14.out⟩
      · skip
        subst c0
        obtain rfl : bb = false := by rw [hlast, decide_eq_false q0]; rfl
        have u1 : (p2 == 0) = false := by simp; exact q0
        clear hlast
        refine ((HMB.out ▸ in1_any A8 z c8 (intL0 o.frees) (i : Int) w12 HZL.out HW12.out)).mono ?_
        rintro e w13 ⟨rfl, hb⟩
        have hB13 : Below w12.heap.size w12 w13 := bTrans (Below.refl _ _) hb
        have HD13 := Lib.hid (bTrans HD12.out hB13)
        have HT13 := Lib.hid (HT12.out.mono hB13)
        have HTB13 := Lib.hid (HTB12.out.mono hB13)
        have HNA13 := Lib.hid (HNA12.out.mono hB13)
        have HLA13 := Lib.hid (HLA12.out.mono hB13)
        have HQ13 := Lib.hid (HQ12.out.mono hB13)
        have HRL13 := Lib.hid (HRL12.out.mono hB13)
        have HU_k213 := Lib.hid (HU_k212.out.mono hB13)
        have HW13 := Lib.hid (HW12.out.mono hB13)
        have T13 := Lib.hid (T12.out.mono hB13)
        have O13 := Lib.hid (O12.out.mono hB13)
        clear hb hB13 HD12 HT12 HTB12 HNA12 HLA12 HQ12 HRL12 HU_k212 HW12 T12 T_0 T_1 T_2 T_3 T_4 T_5 T_6 T_7 T_8 T_l O12 O_0 O_1 O_2 O_3 O_4 O_5 O_6 O_7 O_8 O_l
        obtain ⟨T_0, T_1, T_2, T_3, T_4, T_5, T_6, T_7, T_8, T_l⟩ := T13.out.c9
        obtain ⟨O_0, O_1, O_2, O_3, O_4, O_5, O_6, O_7, O_8, O_l⟩ := O13.out.c9
        go_wp2_with fail
        refine (dug_any _ HTB13.out HNA13.out).mono ?_
        rintro e w14 ⟨rfl, hb⟩
        have hB14 : Below w13.heap.size w13 w14 := bTrans (Below.refl _ _) hb
        have HD14 := Lib.hid (bTrans HD13.out hB14)
        have HT14 := Lib.hid (HT13.out.mono hB14)
        have HTB14 := Lib.hid (HTB13.out.mono hB14)
        have HNA14 := Lib.hid (HNA13.out.mono hB14)
        have HLA14 := Lib.hid (HLA13.out.mono hB14)
        have HQ14 := Lib.hid (HQ13.out.mono hB14)
        have HRL14 := Lib.hid (HRL13.out.mono hB14)
        have HU_k214 := Lib.hid (HU_k213.out.mono hB14)
        have HW14 := Lib.hid (HW13.out.mono hB14)
        have T14 := Lib.hid (T13.out.mono hB14)
        have O14 := Lib.hid (O13.out.mono hB14)
        clear hb hB14 HD13 HT13 HTB13 HNA13 HLA13 HQ13 HRL13 HU_k213 HW13 T13 T_0 T_1 T_2 T_3 T_4 T_5 T_6 T_7 T_8 T_l O13 O_0 O_1 O_2 O_3 O_4 O_5 O_6 O_7 O_8 O_l
        obtain ⟨T_0, T_1, T_2, T_3, T_4, T_5, T_6, T_7, T_8, T_l⟩ := T14.out.c9
        obtain ⟨O_0, O_1, O_2, O_3, O_4, O_5, O_6, O_7, O_8, O_l⟩ := O14.out.c9
        go_wp2_with fail
        go_ret
        exact ⟨rfl, HD14.out⟩
      · skip
        obtain rfl : bb = false := by rw [hlast, decide_eq_false c0]; rfl
        have u2 : ¬ (cc : Int) = 0 := by omega
        have u1 : ((cc : Int) == 0) = false := by simp; exact c0
        clear hlast
        refine ((HMB.out ▸ in1_any A8 z c8 (intL0 o.frees) (i : Int) w12 HZL.out HW12.out)).mono ?_
        rintro e w13 ⟨rfl, hb⟩
        have hB13 : Below w12.heap.size w12 w13 := bTrans (Below.refl _ _) hb
        have HD13 := Lib.hid (bTrans HD12.out hB13)
        have HT13 := Lib.hid (HT12.out.mono hB13)
        have HTB13 := Lib.hid (HTB12.out.mono hB13)
        have HNA13 := Lib.hid (HNA12.out.mono hB13)
        have HLA13 := Lib.hid (HLA12.out.mono hB13)
        have HQ13 := Lib.hid (HQ12.out.mono hB13)
        have HRL13 := Lib.hid (HRL12.out.mono hB13)
        have HU_k213 := Lib.hid (HU_k212.out.mono hB13)
        have HW13 := Lib.hid (HW12.out.mono hB13)
        have T13 := Lib.hid (T12.out.mono hB13)
        have O13 := Lib.hid (O12.out.mono hB13)
        clear hb hB13 HD12 HT12 HTB12 HNA12 HLA12 HQ12 HRL12 HU_k212 HW12 T12 T_0 T_1 T_2 T_3 T_4 T_5 T_6 T_7 T_8 T_l O12 O_0 O_1 O_2 O_3 O_4 O_5 O_6 O_7 O_8 O_l
        obtain ⟨T_0, T_1, T_2, T_3, T_4, T_5, T_6, T_7, T_8, T_l⟩ := T13.out.c9
        obtain ⟨O_0, O_1, O_2, O_3, O_4, O_5, O_6, O_7, O_8, O_l⟩ := O13.out.c9
        go_wp2_with fail
        refine (dug_any _ HTB13.out HNA13.out).mono ?_
        rintro e w14 ⟨rfl, hb⟩
        have hB14 : Below w13.heap.size w13 w14 := bTrans (Below.refl _ _) hb
        have HD14 := Lib.hid (bTrans HD13.out hB14)
        have HT14 := Lib.hid (HT13.out.mono hB14)
        have HTB14 := Lib.hid (HTB13.out.mono hB14)
        have HNA14 := Lib.hid (HNA13.out.mono hB14)
        have HLA14 := Lib.hid (HLA13.out.mono hB14)
        have HQ14 := Lib.hid (HQ13.out.mono hB14)
        have HRL14 := Lib.hid (HRL13.out.mono hB14)
        have HU_k214 := Lib.hid (HU_k213.out.mono hB14)
        have HW14 := Lib.hid (HW13.out.mono hB14)
        have T14 := Lib.hid (T13.out.mono hB14)
        have O14 := Lib.hid (O13.out.mono hB14)
        clear hb hB14 HD13 HT13 HTB13 HNA13 HLA13 HQ13 HRL13 HU_k213 HW13 T13 T_0 T_1 T_2 T_3 T_4 T_5 T_6 T_7 T_8 T_l O13 O_0 O_1 O_2 O_3 O_4 O_5 O_6 O_7 O_8 O_l
        obtain ⟨T_0, T_1, T_2, T_3, T_4, T_5, T_6, T_7, T_8, T_l⟩ := T14.out.c9
        obtain ⟨O_0, O_1, O_2, O_3, O_4, O_5, O_6, O_7, O_8, O_l⟩ := O14.out.c9
        go_wp2_with fail
        go_ret
        exact ⟨rfl, HD14.out⟩
end Go.Proofs.YthnojgdckkdcgaaGreatDoor

namespace Go.Proofs.YthnojgdckkdcgaaGreatDoor
open Go.RowKit Go.Sort
theorem topToldApart_any (Aw Af Ao Ap As : Option Addr) (cw cf co cp cs : Nat) (t : Pt) (wd sp : Int) (w : World) (hs : t.Fits) (hT : PAt w Aw Af Ao Ap As t) (hB : TabAt w) (hN : NoneAt w) :
    Calls Tryz.prog 6 #[.agg #[.int .i64 t.q.wells, .slice Aw t.q.nw cw, .slice Af t.q.nf cf, .slice Ao t.no co, .slice Ap t.np cp, .slice As t.ns cs, .int .i64 t.far, .int .i64 t.harm, .int .i64 t.many], .int .i64 wd, .int .i64 sp] w fun e w' => e = .returned (.bool true) ∧ Below w.heap.size w w' := by
  by_cases h : t.decErr sp = 3
  · exact topToldApart_a Aw Af Ao Ap As cw cf co cp cs t wd sp w hs hT hB hN h
  · exact topToldApart_b Aw Af Ao Ap As cw cf co cp cs t wd sp w hs hT hB hN h
end Go.Proofs.YthnojgdckkdcgaaGreatDoor

