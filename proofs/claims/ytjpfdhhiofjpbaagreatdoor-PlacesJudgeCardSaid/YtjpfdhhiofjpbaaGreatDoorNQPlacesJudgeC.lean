/- Parts joined: what the claim PlacesJudge needs beyond the others. -/
import Derived.Test.YtjpfdhhiofjpbaaGreatDoorNQPlacesJudgeB
set_option linter.unusedSimpArgs false
set_option linter.unusedVariables false
namespace Go.Proofs.YtjpfdhhiofjpbaaGreatDoor
open Go.RowKit Go.Sort
/-- a town, as a value -/
def pcV (u : Pt) (A1 A2 A3 A4 A5 : Option Addr) (c1 c2 c3 c4 c5 : Nat) : Value := .agg #[.int .i64 u.q.wells, .slice A1 u.q.nw c1, .slice A2 u.q.nf c2, .slice A3 u.no c3, .slice A4 u.np c4, .slice A5 u.ns c5, .int .i64 u.far, .int .i64 u.harm, .int .i64 u.many]
def pcS (u : Pt) (v : Value) : Prop := ∃ A1 A2 A3 A4 A5 c1 c2 c3 c4 c5, v = pcV u A1 A2 A3 A4 A5 c1 c2 c3 c4 c5
def pcR (N : Nat) (u : Pt) (w : World) (v : Value) : Prop := ∀ A1 A2 A3 A4 A5 c1 c2 c3 c4 c5, v = pcV u A1 A2 A3 A4 A5 c1 c2 c3 c4 c5 → CopyAt9 w N (.slice A1 u.q.nw c1) (.slice A2 u.q.nf c2) (.slice A3 u.no c3) (.slice A4 u.np c4) (.slice A5 u.ns c5) u
theorem pcG {N : Nat} {u : Pt} : (Stir.held (pcS u) (pcR N u)).good := ⟨⟨_, none, none, none, none, none, 0, 0, 0, 0, 0, rfl⟩, fun _ _ _ hb h a b c d e a' b' c' d' e' he => (h a b c d e a' b' c' d' e' he).mono hb⟩
theorem CopyOut9.pc {w : World} {base N : Nat} {u : Pt} {e : Ending} (h : CopyOut9 w base u e) (hb : N ≤ base) : ∃ v, e = .returned v ∧ pcS u v ∧ pcR N u w v := by
  obtain ⟨_, _, _, _, _, rfl, h⟩ := h
  have h2 := h
  obtain ⟨a1, c1, a2, c2, a3, c3, a4, c4, a5, c5, rfl, rfl, rfl, rfl, rfl, _⟩ := h2.pat
  refine ⟨_, rfl, ⟨a1, a2, a3, a4, a5, c1, c2, c3, c4, c5, rfl⟩, fun b1 b2 b3 b4 b5 d1 d2 d3 d4 d5 e => ?_⟩
  unfold pcV at e
  simp only [Value.agg.injEq, Array.mk.injEq, List.cons.injEq, Value.slice.injEq, and_true, true_and] at e
  obtain ⟨⟨rfl, rfl⟩, ⟨rfl, rfl⟩, ⟨rfl, rfl⟩, ⟨rfl, rfl⟩, rfl, rfl⟩ := e
  exact h.lower hb
theorem toldAll_fits {t : Pt} (hf : t.Fits) {a : Int} {l : List Tp} (h2 : t.q.nf ≤ 2) (hl : l.length ≤ 100) : (t.toldAll a l).Fits := ⟨addAll_fits hf.q h2 hl, hf.no, hf.np, hf.ns, hf.spot⟩
theorem told_chain {w : World} {N : Nat} {u : Pt} {A1 A2 A3 A4 A5 : Option Addr} {c1 c2 c3 c4 c5 : Nat} (h : CopyAt9 w N (.slice A1 u.q.nw c1) (.slice A2 u.q.nf c2) (.slice A3 u.no c3) (.slice A4 u.np c4) (.slice A5 u.ns c5) u) : PAt w A1 A2 A3 A4 A5 u := by
  obtain ⟨a1, d1, a2, d2, a3, d3, a4, d4, a5, d5, e1, e2, e3, e4, e5, hU⟩ := h.pat
  simp only [Value.slice.injEq, true_and] at e1 e2 e3 e4 e5
  obtain ⟨rfl, rfl⟩ := e1
  obtain ⟨rfl, rfl⟩ := e2
  obtain ⟨rfl, rfl⟩ := e3
  obtain ⟨rfl, rfl⟩ := e4
  obtain ⟨rfl, rfl⟩ := e5
  exact hU
theorem test_in {t : Qt} (ok : t.Ok) {a b : Nat} (ha : (a : Int) < t.wells) (hb : (b : Int) < t.wells) : t.testB (a : Int) (b : Int) = true := by
  unfold Qt.testB
  rw [wellB_in ok ha, wellB_in ok hb]
  rfl
set_option maxHeartbeats 40000000 in
set_option maxRecDepth 100000 in
theorem placesJudge_any (Aw Af Ao Ap As : Option Addr) (cw cf co cp cs : Nat) (t : Pt) (wd sp by_ wh : Int) (w : World) (hs : t.Fits) (hT : PAt w Aw Af Ao Ap As t) (hB : TabAt w) (hN : NoneAt w) :
    Calls Tryz.prog 14 #[.agg #[.int .i64 t.q.wells, .slice Aw t.q.nw cw, .slice Af t.q.nf cf, .slice Ao t.no co, .slice Ap t.np cp, .slice As t.ns cs, .int .i64 t.far, .int .i64 t.harm, .int .i64 t.many], .int .i64 wd, .agg #[.int .i64 sp, .int .i64 by_, .int .i64 wh]] w fun e w' => e = .returned (.bool true) ∧ Below w.heap.size w w' := by
  have HD0 := Lib.hid (Below.refl w.heap.size w)
  have HFI := Lib.hid hs
  have HT0 := Lib.hid hT
  have HTB0 := Lib.hid hB
  have HNA0 := Lib.hid hN
  clear hs hT hB hN
  go_enter Tryz.func14, Tryz.ntmps14
  have HSM := Lib.hid HFI.out.small
  go_wp2_with fail
  refine (ready9_any Aw Af Ao Ap As cw cf co cp cs t _ HSM.out (HT0.out.mono (bAlloc (bAlloc (Below.refl _ _) (.cells #[.int .i64 t.q.wells, .slice Aw t.q.nw cw, .slice Af t.q.nf cf, .slice Ao t.no co, .slice Ap t.np cp, .slice As t.ns cs, .int .i64 t.far, .int .i64 t.harm, .int .i64 t.many] 29)) (.cells #[.int .i64 sp, .int .i64 by_, .int .i64 wh] 47)))).mono ?_
  rintro e w1 ⟨⟨bf, rfl, hok⟩, hb⟩
  have hB1 : Below w.heap.size w w1 := bTrans (bAlloc (bAlloc (Below.refl _ _) (.cells #[.int .i64 t.q.wells, .slice Aw t.q.nw cw, .slice Af t.q.nf cf, .slice Ao t.no co, .slice Ap t.np cp, .slice As t.ns cs, .int .i64 t.far, .int .i64 t.harm, .int .i64 t.many] 29)) (.cells #[.int .i64 sp, .int .i64 by_, .int .i64 wh] 47)) hb
  have HD1 := Lib.hid (bTrans HD0.out hB1)
  have HT1 := Lib.hid (HT0.out.mono hB1)
  have HTB1 := Lib.hid (HTB0.out.mono hB1)
  have HNA1 := Lib.hid (HNA0.out.mono hB1)
  have T1 := Lib.hid (show TBox w1 w.heap.size 29 #[.int .i64 t.q.wells, .slice Aw t.q.nw cw, .slice Af t.q.nf cf, .slice Ao t.no co, .slice Ap t.np cp, .slice As t.ns cs, .int .i64 t.far, .int .i64 t.harm, .int .i64 t.many] from by have := ((TBox.new w #[.int .i64 t.q.wells, .slice Aw t.q.nw cw, .slice Af t.q.nf cf, .slice Ao t.no co, .slice Ap t.np cp, .slice As t.ns cs, .int .i64 t.far, .int .i64 t.harm, .int .i64 t.many] 29).mono (bAlloc (Below.refl _ _) (.cells #[.int .i64 sp, .int .i64 by_, .int .i64 wh] 47))).mono hb; simpa using this)
  have X1 := Lib.hid (show TBox w1 (w.heap.size + 1) 47 #[.int .i64 sp, .int .i64 by_, .int .i64 wh] from by have := ((TBox.new (w.alloc (.cells #[.int .i64 t.q.wells, .slice Aw t.q.nw cw, .slice Af t.q.nf cf, .slice Ao t.no co, .slice Ap t.np cp, .slice As t.ns cs, .int .i64 t.far, .int .i64 t.harm, .int .i64 t.many] 29)) #[.int .i64 sp, .int .i64 by_, .int .i64 wh] 47).mono (Below.refl _ _)).mono hb; simpa using this)
  clear hb hB1 HD0 HT0 HTB0 HNA0
  obtain ⟨T_0, T_1, T_2, T_3, T_4, T_5, T_6, T_7, T_8, T_l⟩ := T1.out.c9
  obtain ⟨X_0, X_1, X_2, X_l⟩ := X1.out.c3
  cases bf
  case false =>
    go_wp2_with fail
    refine (works9_any _ HTB1.out HNA1.out).mono ?_
    rintro e w2 ⟨rfl, hb⟩
    have hB2 : Below w1.heap.size w1 w2 := bTrans (Below.refl _ _) hb
    have HD2 := Lib.hid (bTrans HD1.out hB2)
    have HT2 := Lib.hid (HT1.out.mono hB2)
    have HTB2 := Lib.hid (HTB1.out.mono hB2)
    have HNA2 := Lib.hid (HNA1.out.mono hB2)
    have T2 := Lib.hid (T1.out.mono hB2)
    have X2 := Lib.hid (X1.out.mono hB2)
    clear hb hB2 HD1 HT1 HTB1 HNA1 T1 T_0 T_1 T_2 T_3 T_4 T_5 T_6 T_7 T_8 T_l X1 X_0 X_1 X_2 X_l
    obtain ⟨T_0, T_1, T_2, T_3, T_4, T_5, T_6, T_7, T_8, T_l⟩ := T2.out.c9
    obtain ⟨X_0, X_1, X_2, X_l⟩ := X2.out.c3
    go_wp2_with fail
    go_ret
    exact ⟨rfl, HD2.out⟩
  have HOK := Lib.hid (hok rfl)
  clear hok
  go_wp2_with fail
  obtain ⟨bb, hbb⟩ : ∃ b, t.hasB sp = b := ⟨_, rfl⟩
  refine (hbb ▸ isSpotN9_any Aw Af Ao Ap As cw cf co cp cs t sp _ HSM.out.ns).mono ?_
  rintro e w2 ⟨rfl, hb⟩
  have hB2 : Below w1.heap.size w1 w2 := bTrans (Below.refl _ _) hb
  have HD2 := Lib.hid (bTrans HD1.out hB2)
  have HT2 := Lib.hid (HT1.out.mono hB2)
  have HTB2 := Lib.hid (HTB1.out.mono hB2)
  have HNA2 := Lib.hid (HNA1.out.mono hB2)
  have T2 := Lib.hid (T1.out.mono hB2)
  have X2 := Lib.hid (X1.out.mono hB2)
  clear hb hB2 HD1 HT1 HTB1 HNA1 T1 T_0 T_1 T_2 T_3 T_4 T_5 T_6 T_7 T_8 T_l X1 X_0 X_1 X_2 X_l
  obtain ⟨T_0, T_1, T_2, T_3, T_4, T_5, T_6, T_7, T_8, T_l⟩ := T2.out.c9
  obtain ⟨X_0, X_1, X_2, X_l⟩ := X2.out.c3
  cases bb
  case false =>
    clear hbb
    go_wp2_with fail
    refine (works9_any _ HTB2.out HNA2.out).mono ?_
    rintro e w3 ⟨rfl, hb⟩
    have hB3 : Below w2.heap.size w2 w3 := bTrans (Below.refl _ _) hb
    have HD3 := Lib.hid (bTrans HD2.out hB3)
    have HT3 := Lib.hid (HT2.out.mono hB3)
    have HTB3 := Lib.hid (HTB2.out.mono hB3)
    have HNA3 := Lib.hid (HNA2.out.mono hB3)
    have T3 := Lib.hid (T2.out.mono hB3)
    have X3 := Lib.hid (X2.out.mono hB3)
    clear hb hB3 HD2 HT2 HTB2 HNA2 T2 T_0 T_1 T_2 T_3 T_4 T_5 T_6 T_7 T_8 T_l X2 X_0 X_1 X_2 X_l
    obtain ⟨T_0, T_1, T_2, T_3, T_4, T_5, T_6, T_7, T_8, T_l⟩ := T3.out.c9
    obtain ⟨X_0, X_1, X_2, X_l⟩ := X3.out.c3
    go_wp2_with fail
    go_ret
    exact ⟨rfl, HD3.out⟩
  have hn := hasB_iff.1 hbb
  obtain ⟨i, rfl⟩ : ∃ i : Nat, sp = (i : Int) := ⟨sp.toNat, by omega⟩
  have HI := Lib.hid (show i < t.ns by omega)
  clear hn hbb
  by_cases hnf : 2 < t.q.nf
  case pos =>
    have hn1 : (2 : Int) < (t.q.nf : Int) := by omega
    have hn2 : decide ((t.q.nf : Int) > 2) = true := by simp; omega
    go_wp2_with fail
    refine (works9_any _ HTB2.out HNA2.out).mono ?_
    rintro e w3 ⟨rfl, hb⟩
    have hB3 : Below w2.heap.size w2 w3 := bTrans (Below.refl _ _) hb
    have HD3 := Lib.hid (bTrans HD2.out hB3)
    have HT3 := Lib.hid (HT2.out.mono hB3)
    have HTB3 := Lib.hid (HTB2.out.mono hB3)
    have HNA3 := Lib.hid (HNA2.out.mono hB3)
    have T3 := Lib.hid (T2.out.mono hB3)
    have X3 := Lib.hid (X2.out.mono hB3)
    clear hb hB3 HD2 HT2 HTB2 HNA2 T2 T_0 T_1 T_2 T_3 T_4 T_5 T_6 T_7 T_8 T_l X2 X_0 X_1 X_2 X_l
    obtain ⟨T_0, T_1, T_2, T_3, T_4, T_5, T_6, T_7, T_8, T_l⟩ := T3.out.c9
    obtain ⟨X_0, X_1, X_2, X_l⟩ := X3.out.c3
    go_wp2_with fail
    go_ret
    exact ⟨rfl, HD3.out⟩
  have H2 := Lib.hid (show t.q.nf ≤ 2 by omega)
  have hn1 : ¬ (2 : Int) < (t.q.nf : Int) := by omega
  have hn2 : decide ((t.q.nf : Int) > 2) = false := by simp; omega
  have hn3 : decide ((2 : Int) < (t.q.nf : Int)) = false := by simp; omega
  go_wp2_with fail
  refine (leftOf9_any Aw Af Ao Ap As cw cf co cp cs t _ HOK.out HT2.out).mono ?_
  rintro e w3 ⟨⟨A4, c4, rfl, hi4⟩, hb⟩
  have hB3 : Below w2.heap.size w2 w3 := bTrans (Below.refl _ _) hb
  have HD3 := Lib.hid (bTrans HD2.out hB3)
  have HT3 := Lib.hid (HT2.out.mono hB3)
  have HTB3 := Lib.hid (HTB2.out.mono hB3)
  have HNA3 := Lib.hid (HNA2.out.mono hB3)
  have HI43 := Lib.hid (hi4)
  have T3 := Lib.hid (T2.out.mono hB3)
  have X3 := Lib.hid (X2.out.mono hB3)
  clear hb hB3 HD2 HT2 HTB2 HNA2 T2 T_0 T_1 T_2 T_3 T_4 T_5 T_6 T_7 T_8 T_l X2 X_0 X_1 X_2 X_l
  obtain ⟨T_0, T_1, T_2, T_3, T_4, T_5, T_6, T_7, T_8, T_l⟩ := T3.out.c9
  obtain ⟨X_0, X_1, X_2, X_l⟩ := X3.out.c3
  clear hi4
  go_wp2_with fail
  obtain ⟨bb, hbb⟩ : ∃ b, decide (wd ∈ t.q.leftL) = b := ⟨_, rfl⟩
  have hl6 := left_len HOK.out.q
  refine ((mem_anyB t.q.leftL wd).trans hbb ▸ in1_any A4 t.q.leftL.length c4 (intL0 t.q.leftL) wd _ (by omega) HI43.out).mono ?_
  rintro e w4 ⟨rfl, hb⟩
  have hB4 : Below w3.heap.size w3 w4 := bTrans (Below.refl _ _) hb
  have HD4 := Lib.hid (bTrans HD3.out hB4)
  have HT4 := Lib.hid (HT3.out.mono hB4)
  have HTB4 := Lib.hid (HTB3.out.mono hB4)
  have HNA4 := Lib.hid (HNA3.out.mono hB4)
  have T4 := Lib.hid (T3.out.mono hB4)
  have X4 := Lib.hid (X3.out.mono hB4)
  clear hb hB4 HD3 HT3 HTB3 HNA3 HI43 T3 T_0 T_1 T_2 T_3 T_4 T_5 T_6 T_7 T_8 T_l X3 X_0 X_1 X_2 X_l
  obtain ⟨T_0, T_1, T_2, T_3, T_4, T_5, T_6, T_7, T_8, T_l⟩ := T4.out.c9
  obtain ⟨X_0, X_1, X_2, X_l⟩ := X4.out.c3
  cases bb
  case false =>
    clear hbb hl6
    go_wp2_with fail
    refine (works9_any _ HTB4.out HNA4.out).mono ?_
    rintro e w5 ⟨rfl, hb⟩
    have hB5 : Below w4.heap.size w4 w5 := bTrans (Below.refl _ _) hb
    have HD5 := Lib.hid (bTrans HD4.out hB5)
    have HT5 := Lib.hid (HT4.out.mono hB5)
    have HTB5 := Lib.hid (HTB4.out.mono hB5)
    have HNA5 := Lib.hid (HNA4.out.mono hB5)
    have T5 := Lib.hid (T4.out.mono hB5)
    have X5 := Lib.hid (X4.out.mono hB5)
    clear hb hB5 HD4 HT4 HTB4 HNA4 T4 T_0 T_1 T_2 T_3 T_4 T_5 T_6 T_7 T_8 T_l X4 X_0 X_1 X_2 X_l
    obtain ⟨T_0, T_1, T_2, T_3, T_4, T_5, T_6, T_7, T_8, T_l⟩ := T5.out.c9
    obtain ⟨X_0, X_1, X_2, X_l⟩ := X5.out.c3
    go_wp2_with fail
    go_ret
    exact ⟨rfl, HD5.out⟩
  have hmem : wd ∈ t.q.leftL := of_decide_eq_true hbb
  obtain ⟨j, hj, _, rfl⟩ := (leftTo_mem t.q t.q.nw).1 hmem
  have HWJ := Lib.hid hmem
  have HNE := Lib.hid (List.ne_nil_of_mem hmem)
  have HJ := Lib.hid hj
  clear hmem hj hbb hl6
  go_wp2_with fail
  clear hn1 hn2 hn3 hnf
  have hjd := judge9 (t := t) (hasB_in HI.out) (Pt.knowErr_ok HOK.out HNE.out)
  obtain ⟨er, her⟩ : ∃ e, t.decErr (i : Int) = e := ⟨_, rfl⟩
  obtain ⟨L, hL⟩ : ∃ L, lstO (t.decErr (i : Int)) (t.decL (i : Int)) = L := ⟨_, rfl⟩
  obtain ⟨nl, hnl⟩ : ∃ n, L.length = n := ⟨_, rfl⟩
  obtain ⟨db, hdb⟩ : ∃ d, t.doubt i = d := ⟨_, rfl⟩
  have HER := Lib.hid her
  have HLS := Lib.hid hL
  have HNL := Lib.hid hnl
  have HDB := Lib.hid hdb
  rw [her, hdb] at hjd
  have HJD := Lib.hid hjd
  have HLD := Lib.hid (show er = 0 → t.decL (i : Int) = L from fun h => by rw [← hL, her, h]; rfl)
  have HSB := Lib.hid (show List.Sublist L t.q.tests by
    rcases hjd.1 with h0 | h0
    · rw [← HLD.out h0]; exact (hjd.2.2 h0).2
    · rw [← hL, her, h0]; exact List.nil_sublist _)
  have HLO := Lib.hid (show t.q.TestsOk L from fun x hx => tests_ok5 HOK.out.q x (HSB.out.subset hx))
  have hlm := (sub_tests HSB.out).2.1
  have HN16 := Lib.hid (show nl ≤ 100 by have h2 := HOK.out.q.w0; have h3 := HOK.out.q.w1; have h4 : t.q.wells.toNat ≤ 4 := (by omega); have := Nat.mul_le_mul h4 h4; omega)
  obtain ⟨ww, hww⟩ : ∃ x, IntKind.i64.wrap (t.q.wells * t.q.wells) = x := ⟨_, rfl⟩
  have hw2 : (nl : Int) ≤ ww := by
    have h2 := HOK.out.q.w0
    have h3 := HOK.out.q.w1
    obtain ⟨m, hm⟩ : ∃ m : Nat, t.q.wells = m := ⟨t.q.wells.toNat, by omega⟩
    rw [hm] at hww hlm h3
    rw [← hww, IntWalk.i64_in _ (by have : (m : Int) * m ≤ 4 * 4 := Int.mul_le_mul h3 h3 (by omega) (by omega); have : (0 : Int) ≤ (m : Int) * m := Int.mul_nonneg (by omega) (by omega); omega)]
    rw [hnl, Int.toNat_natCast] at hlm
    exact_mod_cast hlm
  have hw3 : ¬ (nl : Int) > ww := by omega
  have hw4 : ¬ ww < (nl : Int) := by omega
  have hway : (er = 3 ∧ db = true ∧ nl = 0) ∨ (er = 0 ∧ nl = 0 ∧ db = false) ∨ (er = 0 ∧ 0 < nl ∧ db = true) := by
    have h1 := hjd.2.1
    rcases hjd.1 with h0 | h0
    · rcases Nat.eq_zero_or_pos nl with h3 | h3
      · exact .inr (.inl ⟨h0, h3, h1.1 ⟨h0, by rw [HLD.out h0]; exact List.eq_nil_of_length_eq_zero (hnl.trans h3)⟩⟩)
      · refine .inr (.inr ⟨h0, h3, ?_⟩)
        cases db
        · have := (h1.2 rfl).2
          rw [HLD.out h0] at this
          rw [this] at hnl
          simp at hnl
          omega
        · rfl
    · refine .inl ⟨h0, ?_, ?_⟩
      · cases db
        · have := (h1.2 rfl).1
          rw [h0] at this
          cases this
        · rfl
      · rw [← hnl, ← hL, her, h0]; rfl
  clear hjd her hL hnl hdb hlm hw2
  refine ((decideP9_any Aw Af Ao Ap As cw cf co cp cs t (i : Int) w4 HSM.out HT4.out HTB4.out)).mono ?_
  rintro e w5 ⟨ho, hb⟩
  obtain ⟨A5, c5, rfl, hr⟩ := ho.o
  rw [HLS.out] at hr ⊢
  rw [HNL.out, HER.out]
  have hB5 : Below w4.heap.size w4 w5 := bTrans (Below.refl _ _) hb
  have HD5 := Lib.hid (bTrans HD4.out hB5)
  have HT5 := Lib.hid (HT4.out.mono hB5)
  have HTB5 := Lib.hid (HTB4.out.mono hB5)
  have HNA5 := Lib.hid (HNA4.out.mono hB5)
  have HLA5 := Lib.hid (hr)
  have T5 := Lib.hid (T4.out.mono hB5)
  have X5 := Lib.hid (X4.out.mono hB5)
  clear hb hB5 HD4 HT4 HTB4 HNA4 T4 T_0 T_1 T_2 T_3 T_4 T_5 T_6 T_7 T_8 T_l X4 X_0 X_1 X_2 X_l
  obtain ⟨T_0, T_1, T_2, T_3, T_4, T_5, T_6, T_7, T_8, T_l⟩ := T5.out.c9
  obtain ⟨X_0, X_1, X_2, X_l⟩ := X5.out.c3
  clear ho hr
  go_wp2_with fail
  rcases hway with ⟨h0, h1, h3⟩ | ⟨h0, h3, h1⟩ | ⟨h0, h3, h1⟩
  · skip
    subst h0 h1 h3
    refine (isKnown9_any 3 _).mono ?_
    rintro e w6 ⟨rfl, hb⟩
    have hB6 : Below w5.heap.size w5 w6 := bTrans (Below.refl _ _) hb
    have HD6 := Lib.hid (bTrans HD5.out hB6)
    have HT6 := Lib.hid (HT5.out.mono hB6)
    have HTB6 := Lib.hid (HTB5.out.mono hB6)
    have HNA6 := Lib.hid (HNA5.out.mono hB6)
    have HLA6 := Lib.hid (HLA5.out.mono hB6)
    have T6 := Lib.hid (T5.out.mono hB6)
    have X6 := Lib.hid (X5.out.mono hB6)
    clear hb hB6 HD5 HT5 HTB5 HNA5 HLA5 T5 T_0 T_1 T_2 T_3 T_4 T_5 T_6 T_7 T_8 T_l X5 X_0 X_1 X_2 X_l
    obtain ⟨T_0, T_1, T_2, T_3, T_4, T_5, T_6, T_7, T_8, T_l⟩ := T6.out.c9
    obtain ⟨X_0, X_1, X_2, X_l⟩ := X6.out.c3
    go_wp2_with fail
    refine ((by have := perhaps9_any Aw Af Ao Ap As cw cf co cp cs t i w6 HSM.out HT6.out HTB6.out HNA6.out HOK.out HNE.out HI.out; rw [HDB.out] at this; exact this : Calls Tryz.prog 62 #[.agg #[.int .i64 t.q.wells, .slice Aw t.q.nw cw, .slice Af t.q.nf cf, .slice Ao t.no co, .slice Ap t.np cp, .slice As t.ns cs, .int .i64 t.far, .int .i64 t.harm, .int .i64 t.many], .int .i64 (i : Int)] w6 fun e w' => e = .returned (.tuple #[.bool true, .bool true]) ∧ Below w6.heap.size w6 w')).mono ?_
    rintro e w7 ⟨rfl, hb⟩
    have hB7 : Below w6.heap.size w6 w7 := bTrans (Below.refl _ _) hb
    have HD7 := Lib.hid (bTrans HD6.out hB7)
    have HT7 := Lib.hid (HT6.out.mono hB7)
    have HTB7 := Lib.hid (HTB6.out.mono hB7)
    have HNA7 := Lib.hid (HNA6.out.mono hB7)
    have HLA7 := Lib.hid (HLA6.out.mono hB7)
    have T7 := Lib.hid (T6.out.mono hB7)
    have X7 := Lib.hid (X6.out.mono hB7)
    clear hb hB7 HD6 HT6 HTB6 HNA6 HLA6 T6 T_0 T_1 T_2 T_3 T_4 T_5 T_6 T_7 T_8 T_l X6 X_0 X_1 X_2 X_l
    obtain ⟨T_0, T_1, T_2, T_3, T_4, T_5, T_6, T_7, T_8, T_l⟩ := T7.out.c9
    obtain ⟨X_0, X_1, X_2, X_l⟩ := X7.out.c3
    go_wp2_with fail
    clear hw3 hw4 hww
    go_loopw [12] (fun s wr => ∃ (k : Nat) (o : Pt) (Bw Bf Bo Bp Bs : Option Addr) (dw df do_ dp ds : Nat), k ≤ 0 ∧ s = .int .i64 (k : Int) ∧ t.toldAll (j : Int) (L.take k) = o ∧ PAt wr Bw Bf Bo Bp Bs o ∧ TBox wr w7.heap.size 29 #[.int .i64 o.q.wells, .slice Bw o.q.nw dw, .slice Bf o.q.nf df, .slice Bo o.no do_, .slice Bp o.np dp, .slice Bs o.ns ds, .int .i64 o.far, .int .i64 o.harm, .int .i64 o.many] ∧ Below w7.heap.size w7 wr) (fun s _ => 0 - (intOf s).toNat)
    case atStart => exact ⟨0, t, Aw, Af, Ao, Ap, As, cw, cf, co, cp, cs, Nat.zero_le _, rfl, rfl, HT7.out.mono (bAlloc (Below.refl _ _) _), TBox.new _ _ _, bAlloc (Below.refl _ _) _⟩
    case round =>
      obtain ⟨k, o, Bw, Bf, Bo, Bp, Bs, dw, df, do_, dp, ds, hk, rfl, ho, hq, hbx, hb⟩ := hrel
      have HOA := Lib.hid ho
      have HOX := Lib.hid hbx
      have HOF := Lib.hid (show o.Fits by rw [← ho]; exact toldAll_fits HFI.out H2.out (by rw [List.length_take, HNL.out]; have := HN16.out; omega))
      have HSO := Lib.hid HOF.out.small
      clear ho hbx
      clear T_0 T_1 T_2 T_3 T_4 T_5 T_6 T_7 T_8 T_l X_0 X_1 X_2 X_l
      have hB8 : Below w7.heap.size w7 wr := bTrans (Below.refl _ _) hb
      have HD8 := Lib.hid (bTrans HD7.out hB8)
      have HT8 := Lib.hid (HT7.out.mono hB8)
      have HTB8 := Lib.hid (HTB7.out.mono hB8)
      have HNA8 := Lib.hid (HNA7.out.mono hB8)
      have HLA8 := Lib.hid (HLA7.out.mono hB8)
      have HQ8 := Lib.hid (hq)
      have HRL8 := Lib.hid ((show Upto w7 wr from hb))
      have T8 := Lib.hid (T7.out.mono hB8)
      have X8 := Lib.hid (X7.out.mono hB8)
      clear hb hB8
      obtain ⟨T_0, T_1, T_2, T_3, T_4, T_5, T_6, T_7, T_8, T_l⟩ := T8.out.c9
      obtain ⟨X_0, X_1, X_2, X_l⟩ := X8.out.c3
      have O8 := HOX
      clear HOX
      obtain ⟨O_0, O_1, O_2, O_3, O_4, O_5, O_6, O_7, O_8, O_l⟩ := O8.out.c9
      by_cases hlt : k < 0
      case pos =>
        exact absurd hlt (Nat.not_lt_zero _)
      obtain rfl : k = 0 := by omega
      go_wp2_with fail
      go_wp2_with fail
      refine (works9_any _ HTB8.out HNA8.out).mono ?_
      rintro e w9 ⟨rfl, hb⟩
      have hB9 : Below wr.heap.size wr w9 := bTrans (Below.refl _ _) hb
      have HD9 := Lib.hid (bTrans HD8.out hB9)
      have HT9 := Lib.hid (HT8.out.mono hB9)
      have HTB9 := Lib.hid (HTB8.out.mono hB9)
      have HNA9 := Lib.hid (HNA8.out.mono hB9)
      have HLA9 := Lib.hid (HLA8.out.mono hB9)
      have HQ9 := Lib.hid (HQ8.out.mono hB9)
      have HRL9 := Lib.hid (HRL8.out.mono hB9)
      have T9 := Lib.hid (T8.out.mono hB9)
      have X9 := Lib.hid (X8.out.mono hB9)
      have O9 := Lib.hid (O8.out.mono hB9)
      clear hb hB9 HD8 HT8 HTB8 HNA8 HLA8 HQ8 HRL8 T8 T_0 T_1 T_2 T_3 T_4 T_5 T_6 T_7 T_8 T_l X8 X_0 X_1 X_2 X_l O8 O_0 O_1 O_2 O_3 O_4 O_5 O_6 O_7 O_8 O_l
      obtain ⟨T_0, T_1, T_2, T_3, T_4, T_5, T_6, T_7, T_8, T_l⟩ := T9.out.c9
      obtain ⟨X_0, X_1, X_2, X_l⟩ := X9.out.c3
      obtain ⟨O_0, O_1, O_2, O_3, O_4, O_5, O_6, O_7, O_8, O_l⟩ := O9.out.c9
      go_wp2_with fail
      go_ret
      exact ⟨rfl, HD9.out⟩
  · skip
    subst h0 h1 h3
    have HDE := Lib.hid (show t.decB i L = true by have := (HJD.out.2.2 (by first | rfl | trivial)).1; rw [HLD.out (by first | rfl | trivial)] at this; exact this)
    refine (isKnown9_any 0 _).mono ?_
    rintro e w6 ⟨rfl, hb⟩
    have hB6 : Below w5.heap.size w5 w6 := bTrans (Below.refl _ _) hb
    have HD6 := Lib.hid (bTrans HD5.out hB6)
    have HT6 := Lib.hid (HT5.out.mono hB6)
    have HTB6 := Lib.hid (HTB5.out.mono hB6)
    have HNA6 := Lib.hid (HNA5.out.mono hB6)
    have HLA6 := Lib.hid (HLA5.out.mono hB6)
    have T6 := Lib.hid (T5.out.mono hB6)
    have X6 := Lib.hid (X5.out.mono hB6)
    clear hb hB6 HD5 HT5 HTB5 HNA5 HLA5 T5 T_0 T_1 T_2 T_3 T_4 T_5 T_6 T_7 T_8 T_l X5 X_0 X_1 X_2 X_l
    obtain ⟨T_0, T_1, T_2, T_3, T_4, T_5, T_6, T_7, T_8, T_l⟩ := T6.out.c9
    obtain ⟨X_0, X_1, X_2, X_l⟩ := X6.out.c3
    go_wp2_with fail
    refine ((by have := perhaps9_any Aw Af Ao Ap As cw cf co cp cs t i w6 HSM.out HT6.out HTB6.out HNA6.out HOK.out HNE.out HI.out; rw [HDB.out] at this; exact this : Calls Tryz.prog 62 #[.agg #[.int .i64 t.q.wells, .slice Aw t.q.nw cw, .slice Af t.q.nf cf, .slice Ao t.no co, .slice Ap t.np cp, .slice As t.ns cs, .int .i64 t.far, .int .i64 t.harm, .int .i64 t.many], .int .i64 (i : Int)] w6 fun e w' => e = .returned (.tuple #[.bool false, .bool true]) ∧ Below w6.heap.size w6 w')).mono ?_
    rintro e w7 ⟨rfl, hb⟩
    have hB7 : Below w6.heap.size w6 w7 := bTrans (Below.refl _ _) hb
    have HD7 := Lib.hid (bTrans HD6.out hB7)
    have HT7 := Lib.hid (HT6.out.mono hB7)
    have HTB7 := Lib.hid (HTB6.out.mono hB7)
    have HNA7 := Lib.hid (HNA6.out.mono hB7)
    have HLA7 := Lib.hid (HLA6.out.mono hB7)
    have T7 := Lib.hid (T6.out.mono hB7)
    have X7 := Lib.hid (X6.out.mono hB7)
    clear hb hB7 HD6 HT6 HTB6 HNA6 HLA6 T6 T_0 T_1 T_2 T_3 T_4 T_5 T_6 T_7 T_8 T_l X6 X_0 X_1 X_2 X_l
    obtain ⟨T_0, T_1, T_2, T_3, T_4, T_5, T_6, T_7, T_8, T_l⟩ := T7.out.c9
    obtain ⟨X_0, X_1, X_2, X_l⟩ := X7.out.c3
    go_wp2_with fail
    clear hw3 hw4 hww
    go_loopw [12] (fun s wr => ∃ (k : Nat) (o : Pt) (Bw Bf Bo Bp Bs : Option Addr) (dw df do_ dp ds : Nat), k ≤ 0 ∧ s = .int .i64 (k : Int) ∧ t.toldAll (j : Int) (L.take k) = o ∧ PAt wr Bw Bf Bo Bp Bs o ∧ TBox wr w7.heap.size 29 #[.int .i64 o.q.wells, .slice Bw o.q.nw dw, .slice Bf o.q.nf df, .slice Bo o.no do_, .slice Bp o.np dp, .slice Bs o.ns ds, .int .i64 o.far, .int .i64 o.harm, .int .i64 o.many] ∧ Below w7.heap.size w7 wr) (fun s _ => 0 - (intOf s).toNat)
    case atStart => exact ⟨0, t, Aw, Af, Ao, Ap, As, cw, cf, co, cp, cs, Nat.zero_le _, rfl, rfl, HT7.out.mono (bAlloc (Below.refl _ _) _), TBox.new _ _ _, bAlloc (Below.refl _ _) _⟩
    case round =>
      obtain ⟨k, o, Bw, Bf, Bo, Bp, Bs, dw, df, do_, dp, ds, hk, rfl, ho, hq, hbx, hb⟩ := hrel
      have HOA := Lib.hid ho
      have HOX := Lib.hid hbx
      have HOF := Lib.hid (show o.Fits by rw [← ho]; exact toldAll_fits HFI.out H2.out (by rw [List.length_take, HNL.out]; have := HN16.out; omega))
      have HSO := Lib.hid HOF.out.small
      clear ho hbx
      clear T_0 T_1 T_2 T_3 T_4 T_5 T_6 T_7 T_8 T_l X_0 X_1 X_2 X_l
      have hB8 : Below w7.heap.size w7 wr := bTrans (Below.refl _ _) hb
      have HD8 := Lib.hid (bTrans HD7.out hB8)
      have HT8 := Lib.hid (HT7.out.mono hB8)
      have HTB8 := Lib.hid (HTB7.out.mono hB8)
      have HNA8 := Lib.hid (HNA7.out.mono hB8)
      have HLA8 := Lib.hid (HLA7.out.mono hB8)
      have HQ8 := Lib.hid (hq)
      have HRL8 := Lib.hid ((show Upto w7 wr from hb))
      have T8 := Lib.hid (T7.out.mono hB8)
      have X8 := Lib.hid (X7.out.mono hB8)
      clear hb hB8
      obtain ⟨T_0, T_1, T_2, T_3, T_4, T_5, T_6, T_7, T_8, T_l⟩ := T8.out.c9
      obtain ⟨X_0, X_1, X_2, X_l⟩ := X8.out.c3
      have O8 := HOX
      clear HOX
      obtain ⟨O_0, O_1, O_2, O_3, O_4, O_5, O_6, O_7, O_8, O_l⟩ := O8.out.c9
      by_cases hlt : k < 0
      case pos =>
        exact absurd hlt (Nat.not_lt_zero _)
      obtain rfl : k = 0 := by omega
      go_wp2_with fail
      have HOL := Lib.hid (show t.toldAll (j : Int) L = o by have h := HOA.out; rw [List.take_of_length_le (Nat.le_of_eq HNL.out)] at h; exact h)
      refine ((by have := check9_any Bw Bf Bo Bp Bs dw df do_ dp ds o wr HSO.out HQ8.out; exact this : Calls Tryz.prog 22 #[.agg #[.int .i64 o.q.wells, .slice Bw o.q.nw dw, .slice Bf o.q.nf df, .slice Bo o.no do_, .slice Bp o.np dp, .slice Bs o.ns ds, .int .i64 o.far, .int .i64 o.harm, .int .i64 o.many]] wr fun e w' => e = .returned (.int .i64 o.err) ∧ Below wr.heap.size wr w')).mono ?_
      rintro e w9 ⟨rfl, hb⟩
      have hB9 : Below wr.heap.size wr w9 := bTrans (Below.refl _ _) hb
      have HD9 := Lib.hid (bTrans HD8.out hB9)
      have HT9 := Lib.hid (HT8.out.mono hB9)
      have HTB9 := Lib.hid (HTB8.out.mono hB9)
      have HNA9 := Lib.hid (HNA8.out.mono hB9)
      have HLA9 := Lib.hid (HLA8.out.mono hB9)
      have HQ9 := Lib.hid (HQ8.out.mono hB9)
      have HRL9 := Lib.hid (HRL8.out.mono hB9)
      have T9 := Lib.hid (T8.out.mono hB9)
      have X9 := Lib.hid (X8.out.mono hB9)
      have O9 := Lib.hid (O8.out.mono hB9)
      clear hb hB9 HD8 HT8 HTB8 HNA8 HLA8 HQ8 HRL8 T8 T_0 T_1 T_2 T_3 T_4 T_5 T_6 T_7 T_8 T_l X8 X_0 X_1 X_2 X_l O8 O_0 O_1 O_2 O_3 O_4 O_5 O_6 O_7 O_8 O_l
      obtain ⟨T_0, T_1, T_2, T_3, T_4, T_5, T_6, T_7, T_8, T_l⟩ := T9.out.c9
      obtain ⟨X_0, X_1, X_2, X_l⟩ := X9.out.c3
      obtain ⟨O_0, O_1, O_2, O_3, O_4, O_5, O_6, O_7, O_8, O_l⟩ := O9.out.c9
      by_cases hok : o.Ok
      case neg =>
        rw [Pt.err_bad hok]
        clear hok
        go_wp2_with fail
        refine (works9_any _ HTB9.out HNA9.out).mono ?_
        rintro e w10 ⟨rfl, hb⟩
        have hB10 : Below w9.heap.size w9 w10 := bTrans (Below.refl _ _) hb
        have HD10 := Lib.hid (bTrans HD9.out hB10)
        have HT10 := Lib.hid (HT9.out.mono hB10)
        have HTB10 := Lib.hid (HTB9.out.mono hB10)
        have HNA10 := Lib.hid (HNA9.out.mono hB10)
        have HLA10 := Lib.hid (HLA9.out.mono hB10)
        have HQ10 := Lib.hid (HQ9.out.mono hB10)
        have HRL10 := Lib.hid (HRL9.out.mono hB10)
        have T10 := Lib.hid (T9.out.mono hB10)
        have X10 := Lib.hid (X9.out.mono hB10)
        have O10 := Lib.hid (O9.out.mono hB10)
        clear hb hB10 HD9 HT9 HTB9 HNA9 HLA9 HQ9 HRL9 T9 T_0 T_1 T_2 T_3 T_4 T_5 T_6 T_7 T_8 T_l X9 X_0 X_1 X_2 X_l O9 O_0 O_1 O_2 O_3 O_4 O_5 O_6 O_7 O_8 O_l
        obtain ⟨T_0, T_1, T_2, T_3, T_4, T_5, T_6, T_7, T_8, T_l⟩ := T10.out.c9
        obtain ⟨X_0, X_1, X_2, X_l⟩ := X10.out.c3
        obtain ⟨O_0, O_1, O_2, O_3, O_4, O_5, O_6, O_7, O_8, O_l⟩ := O10.out.c9
        go_wp2_with fail
        go_ret
        exact ⟨rfl, HD10.out⟩
      rw [Pt.err_ok hok]
      have HOK2 := Lib.hid hok
      clear hok
      have HNE2 := Lib.hid (show o.q.leftL ≠ [] by rw [← HOL.out]; exact List.ne_nil_of_mem (toldAll_self HWJ.out))
      have HSU := Lib.hid (show o.doubt i = false by rw [← HOL.out]; exact toldAll_sure HDE.out)
      have HI2 := Lib.hid (show i < o.ns by rw [← HOL.out]; exact HI.out)
      go_wp2_with fail
      refine ((by have := perhaps9_any Bw Bf Bo Bp Bs dw df do_ dp ds o i w9 HSO.out HQ9.out HTB9.out HNA9.out HOK2.out HNE2.out HI2.out; rw [HSU.out] at this; exact this : Calls Tryz.prog 62 #[.agg #[.int .i64 o.q.wells, .slice Bw o.q.nw dw, .slice Bf o.q.nf df, .slice Bo o.no do_, .slice Bp o.np dp, .slice Bs o.ns ds, .int .i64 o.far, .int .i64 o.harm, .int .i64 o.many], .int .i64 (i : Int)] w9 fun e w' => e = .returned (.tuple #[.bool false, .bool true]) ∧ Below w9.heap.size w9 w')).mono ?_
      rintro e w10 ⟨rfl, hb⟩
      have hB10 : Below w9.heap.size w9 w10 := bTrans (Below.refl _ _) hb
      have HD10 := Lib.hid (bTrans HD9.out hB10)
      have HT10 := Lib.hid (HT9.out.mono hB10)
      have HTB10 := Lib.hid (HTB9.out.mono hB10)
      have HNA10 := Lib.hid (HNA9.out.mono hB10)
      have HLA10 := Lib.hid (HLA9.out.mono hB10)
      have HQ10 := Lib.hid (HQ9.out.mono hB10)
      have HRL10 := Lib.hid (HRL9.out.mono hB10)
      have T10 := Lib.hid (T9.out.mono hB10)
      have X10 := Lib.hid (X9.out.mono hB10)
      have O10 := Lib.hid (O9.out.mono hB10)
      clear hb hB10 HD9 HT9 HTB9 HNA9 HLA9 HQ9 HRL9 T9 T_0 T_1 T_2 T_3 T_4 T_5 T_6 T_7 T_8 T_l X9 X_0 X_1 X_2 X_l O9 O_0 O_1 O_2 O_3 O_4 O_5 O_6 O_7 O_8 O_l
      obtain ⟨T_0, T_1, T_2, T_3, T_4, T_5, T_6, T_7, T_8, T_l⟩ := T10.out.c9
      obtain ⟨X_0, X_1, X_2, X_l⟩ := X10.out.c3
      obtain ⟨O_0, O_1, O_2, O_3, O_4, O_5, O_6, O_7, O_8, O_l⟩ := O10.out.c9
      go_wp2_with fail
      refine (works9_any _ HTB10.out HNA10.out).mono ?_
      rintro e w11 ⟨rfl, hb⟩
      have hB11 : Below w10.heap.size w10 w11 := bTrans (Below.refl _ _) hb
      have HD11 := Lib.hid (bTrans HD10.out hB11)
      have HT11 := Lib.hid (HT10.out.mono hB11)
      have HTB11 := Lib.hid (HTB10.out.mono hB11)
      have HNA11 := Lib.hid (HNA10.out.mono hB11)
      have HLA11 := Lib.hid (HLA10.out.mono hB11)
      have HQ11 := Lib.hid (HQ10.out.mono hB11)
      have HRL11 := Lib.hid (HRL10.out.mono hB11)
      have T11 := Lib.hid (T10.out.mono hB11)
      have X11 := Lib.hid (X10.out.mono hB11)
      have O11 := Lib.hid (O10.out.mono hB11)
      clear hb hB11 HD10 HT10 HTB10 HNA10 HLA10 HQ10 HRL10 T10 T_0 T_1 T_2 T_3 T_4 T_5 T_6 T_7 T_8 T_l X10 X_0 X_1 X_2 X_l O10 O_0 O_1 O_2 O_3 O_4 O_5 O_6 O_7 O_8 O_l
      obtain ⟨T_0, T_1, T_2, T_3, T_4, T_5, T_6, T_7, T_8, T_l⟩ := T11.out.c9
      obtain ⟨X_0, X_1, X_2, X_l⟩ := X11.out.c3
      obtain ⟨O_0, O_1, O_2, O_3, O_4, O_5, O_6, O_7, O_8, O_l⟩ := O11.out.c9
      go_wp2_with fail
      go_ret
      exact ⟨rfl, HD11.out⟩
  · skip
    subst h0 h1
    have g0 : (nl == 0) = false := by simp; omega
    have g1 : ((nl : Int) == 0) = false := by simp; omega
    have g2 : ¬ nl = 0 := by omega
    have g3 : ¬ (nl : Int) = 0 := by omega
    have HDE := Lib.hid (show t.decB i L = true by have := (HJD.out.2.2 (by first | rfl | trivial)).1; rw [HLD.out (by first | rfl | trivial)] at this; exact this)
    refine (isKnown9_any 0 _).mono ?_
    rintro e w6 ⟨rfl, hb⟩
    have hB6 : Below w5.heap.size w5 w6 := bTrans (Below.refl _ _) hb
    have HD6 := Lib.hid (bTrans HD5.out hB6)
    have HT6 := Lib.hid (HT5.out.mono hB6)
    have HTB6 := Lib.hid (HTB5.out.mono hB6)
    have HNA6 := Lib.hid (HNA5.out.mono hB6)
    have HLA6 := Lib.hid (HLA5.out.mono hB6)
    have T6 := Lib.hid (T5.out.mono hB6)
    have X6 := Lib.hid (X5.out.mono hB6)
    clear hb hB6 HD5 HT5 HTB5 HNA5 HLA5 T5 T_0 T_1 T_2 T_3 T_4 T_5 T_6 T_7 T_8 T_l X5 X_0 X_1 X_2 X_l
    obtain ⟨T_0, T_1, T_2, T_3, T_4, T_5, T_6, T_7, T_8, T_l⟩ := T6.out.c9
    obtain ⟨X_0, X_1, X_2, X_l⟩ := X6.out.c3
    go_wp2_with fail
    refine ((by have := perhaps9_any Aw Af Ao Ap As cw cf co cp cs t i w6 HSM.out HT6.out HTB6.out HNA6.out HOK.out HNE.out HI.out; rw [HDB.out] at this; exact this : Calls Tryz.prog 62 #[.agg #[.int .i64 t.q.wells, .slice Aw t.q.nw cw, .slice Af t.q.nf cf, .slice Ao t.no co, .slice Ap t.np cp, .slice As t.ns cs, .int .i64 t.far, .int .i64 t.harm, .int .i64 t.many], .int .i64 (i : Int)] w6 fun e w' => e = .returned (.tuple #[.bool true, .bool true]) ∧ Below w6.heap.size w6 w')).mono ?_
    rintro e w7 ⟨rfl, hb⟩
    have hB7 : Below w6.heap.size w6 w7 := bTrans (Below.refl _ _) hb
    have HD7 := Lib.hid (bTrans HD6.out hB7)
    have HT7 := Lib.hid (HT6.out.mono hB7)
    have HTB7 := Lib.hid (HTB6.out.mono hB7)
    have HNA7 := Lib.hid (HNA6.out.mono hB7)
    have HLA7 := Lib.hid (HLA6.out.mono hB7)
    have T7 := Lib.hid (T6.out.mono hB7)
    have X7 := Lib.hid (X6.out.mono hB7)
    clear hb hB7 HD6 HT6 HTB6 HNA6 HLA6 T6 T_0 T_1 T_2 T_3 T_4 T_5 T_6 T_7 T_8 T_l X6 X_0 X_1 X_2 X_l
    obtain ⟨T_0, T_1, T_2, T_3, T_4, T_5, T_6, T_7, T_8, T_l⟩ := T7.out.c9
    obtain ⟨X_0, X_1, X_2, X_l⟩ := X7.out.c3
    go_wp2_with fail
    clear hw3 hw4 hww
    go_loopw [12] (fun s wr => ∃ (k : Nat) (o : Pt) (Bw Bf Bo Bp Bs : Option Addr) (dw df do_ dp ds : Nat), k ≤ nl ∧ s = .int .i64 (k : Int) ∧ t.toldAll (j : Int) (L.take k) = o ∧ PAt wr Bw Bf Bo Bp Bs o ∧ TBox wr w7.heap.size 29 #[.int .i64 o.q.wells, .slice Bw o.q.nw dw, .slice Bf o.q.nf df, .slice Bo o.no do_, .slice Bp o.np dp, .slice Bs o.ns ds, .int .i64 o.far, .int .i64 o.harm, .int .i64 o.many] ∧ Below w7.heap.size w7 wr) (fun s _ => nl - (intOf s).toNat)
    case atStart => exact ⟨0, t, Aw, Af, Ao, Ap, As, cw, cf, co, cp, cs, Nat.zero_le _, rfl, rfl, HT7.out.mono (bAlloc (Below.refl _ _) _), TBox.new _ _ _, bAlloc (Below.refl _ _) _⟩
    case round =>
      obtain ⟨k, o, Bw, Bf, Bo, Bp, Bs, dw, df, do_, dp, ds, hk, rfl, ho, hq, hbx, hb⟩ := hrel
      have HOA := Lib.hid ho
      have HOX := Lib.hid hbx
      have HOF := Lib.hid (show o.Fits by rw [← ho]; exact toldAll_fits HFI.out H2.out (by rw [List.length_take, HNL.out]; have := HN16.out; omega))
      have HSO := Lib.hid HOF.out.small
      clear ho hbx
      clear T_0 T_1 T_2 T_3 T_4 T_5 T_6 T_7 T_8 T_l X_0 X_1 X_2 X_l
      have hB8 : Below w7.heap.size w7 wr := bTrans (Below.refl _ _) hb
      have HD8 := Lib.hid (bTrans HD7.out hB8)
      have HT8 := Lib.hid (HT7.out.mono hB8)
      have HTB8 := Lib.hid (HTB7.out.mono hB8)
      have HNA8 := Lib.hid (HNA7.out.mono hB8)
      have HLA8 := Lib.hid (HLA7.out.mono hB8)
      have HQ8 := Lib.hid (hq)
      have HRL8 := Lib.hid ((show Upto w7 wr from hb))
      have T8 := Lib.hid (T7.out.mono hB8)
      have X8 := Lib.hid (X7.out.mono hB8)
      clear hb hB8
      obtain ⟨T_0, T_1, T_2, T_3, T_4, T_5, T_6, T_7, T_8, T_l⟩ := T8.out.c9
      obtain ⟨X_0, X_1, X_2, X_l⟩ := X8.out.c3
      have O8 := HOX
      clear HOX
      obtain ⟨O_0, O_1, O_2, O_3, O_4, O_5, O_6, O_7, O_8, O_l⟩ := O8.out.c9
      by_cases hlt : k < nl
      case pos =>
        obtain ⟨x, hx⟩ : ∃ x, L[k]? = some x := ⟨_, List.getElem?_eq_getElem (by rw [HNL.out]; exact hlt)⟩
        obtain ⟨bb, oo, rfl, hbb, cq1, cq2⟩ := SliceE.tst HLA8.out hx
        have hxo := HLO.out x (List.mem_of_getElem? hx)
        obtain ⟨a, b⟩ := x
        have HA1 := Lib.hid (show (a : Int) < t.q.wells from hxo.1)
        have HB1 := Lib.hid (show (b : Int) < t.q.wells from hxo.2)
        have HTB9 := Lib.hid (show t.q.testB (a : Int) (b : Int) = true from test_in HOK.out.q hxo.1 hxo.2)
        have has := toldAll_succ (t := t) (a := (j : Int)) hx
        obtain ⟨v, hv⟩ : ∃ v, t.q.F (j : Int) (a, b) = v := ⟨_, rfl⟩
        rw [hv, HOA.out] at has
        obtain ⟨o2, ho2⟩ : ∃ o2, o.told (shownF (a, b) v) = o2 := ⟨_, rfl⟩
        rw [ho2] at has
        have HAS := Lib.hid has
        have HV := Lib.hid hv
        have HO2 := Lib.hid ho2
        have k1 : (k : Int) < (nl : Int) := by omega
        have k0 : (0 : Int) ≤ (k : Int) := by omega
        have k100 : k < 100 := by have := HN16.out; omega
        have cq1 : wr.cell? ⟨bb, oo + k * 2, none⟩ = some (.int .i64 (a : Int)) := cq1
        have cq2 : wr.cell? ⟨bb, oo + k * 2 + 1, none⟩ = some (.int .i64 (b : Int)) := cq2
        have HX := Lib.hid hx
        clear hx hxo has hv ho2
        have HCT := Lib.hid (fun (w' : World) (hb : Below wr.heap.size wr w') => (HTB9.out ▸ isTest5_any Aw Af cw cf t.q (a : Int) (b : Int) w' : Calls Tryz.prog 63 #[.agg #[.int .i64 t.q.wells, .slice Aw t.q.nw cw, .slice Af t.q.nf cf], .agg #[.int .i64 (a : Int), .int .i64 (b : Int)]] w' fun e w'' => e = .returned (.bool true) ∧ Below w'.heap.size w' w''))
        go_wp2_with fail
        refine wp_region_quiet_below (by kernel_rfl) (by kernel_rfl) ?_
        repeat (go_big_quiet_step (((go_at_call 63; with_reducible exact Calls.regrown_of (HCT.out _ (below_regrown _ _ _))))))
        refine wpQuiet_nil ?_
        intro w9 hw9
        have hb := below_of_regrown hw9
        clear hw9
        clear cq1 cq2 HCT
        have hB9 : Below wr.heap.size wr w9 := bTrans (Below.refl _ _) hb
        have HD9 := Lib.hid (bTrans HD8.out hB9)
        have HT9 := Lib.hid (HT8.out.mono hB9)
        have HTB9 := Lib.hid (HTB8.out.mono hB9)
        have HNA9 := Lib.hid (HNA8.out.mono hB9)
        have HLA9 := Lib.hid (HLA8.out.mono hB9)
        have HQ9 := Lib.hid (HQ8.out.mono hB9)
        have HRL9 := Lib.hid (HRL8.out.mono hB9)
        have T9 := Lib.hid (T8.out.mono hB9)
        have X9 := Lib.hid (X8.out.mono hB9)
        have O9 := Lib.hid (O8.out.mono hB9)
        clear hb hB9 HD8 HT8 HTB8 HNA8 HLA8 HQ8 HRL8 T8 T_0 T_1 T_2 T_3 T_4 T_5 T_6 T_7 T_8 T_l X8 X_0 X_1 X_2 X_l O8 O_0 O_1 O_2 O_3 O_4 O_5 O_6 O_7 O_8 O_l
        obtain ⟨T_0, T_1, T_2, T_3, T_4, T_5, T_6, T_7, T_8, T_l⟩ := T9.out.c9
        obtain ⟨X_0, X_1, X_2, X_l⟩ := X9.out.c3
        obtain ⟨O_0, O_1, O_2, O_3, O_4, O_5, O_6, O_7, O_8, O_l⟩ := O9.out.c9
        go_wp2_with fail
        obtain ⟨_, _, e5, _, cq1, cq2⟩ := SliceE.tst HLA9.out (HX.out)
        simp only [Option.some.injEq, Addr.mk.injEq, and_true] at e5
        obtain ⟨rfl, rfl⟩ := e5
        refine wp_region_stir 21 [.const (.agg #[.int .i64 o.q.wells, .slice Bw o.q.nw dw, .slice Bf o.q.nf df, .slice Bo o.no do_, .slice Bp o.np dp, .slice Bs o.ns ds, .int .i64 o.far, .int .i64 o.harm, .int .i64 o.many]), .const (.slice (some ⟨bb, oo, none⟩) nl c5), .const (.int .i64 (k : Int)), .const (.pointer (some ⟨bb, oo + k * 2, none⟩)), .const (.agg #[.int .i64 (a : Int), .int .i64 (b : Int)]), .const (.pointer (some ⟨w.heap.size, 0, none⟩)), .const (.agg #[.int .i64 t.q.wells, .slice Aw t.q.nw cw, .slice Af t.q.nf cf]), .const (.int .i64 (j : Int)), .const (.slice (some ⟨bb, oo, none⟩) nl c5), .const (.int .i64 (k : Int)), .const (.pointer (some ⟨bb, oo + k * 2, none⟩)), .const (.pointer (some ⟨bb, oo + k * 2, none⟩)), .const (.int .i64 (a : Int)), .const (.slice (some ⟨bb, oo, none⟩) nl c5), .const (.int .i64 (k : Int)), .const (.pointer (some ⟨bb, oo + k * 2, none⟩)), .const (.pointer (some ⟨bb, oo + k * 2 + 1, none⟩)), .const (.int .i64 (b : Int)), .const (.int .i64 v), .const (.agg #[.int .i64 (a : Int), .int .i64 1, .int .i64 (b : Int), .int .i64 v, .int .i64 v]), .held (pcS o2) (pcR w9.heap.size o2)]
          (by kernel_rfl) (by kernel_rfl) rfl ⟨trivial, trivial, trivial, trivial, trivial, trivial, trivial, trivial, trivial, trivial, trivial, trivial, trivial, trivial, trivial, trivial, trivial, trivial, trivial, trivial, pcG, trivial⟩ (crossAll_no _ _ _ _ trivial) ?_
        iterate 18 refine wpStir_const (by go_simp) ?_
        refine wpStir_call rfl (fun w' hb hd => ?_) ?_
        · clear hd
          have hfc := Lib.hid (fallAt_F t.q j a b ▸ fall5_any Aw Af cw cf t.q j a b w' HOK.out.q HJ.out HA1.out HB1.out (HT9.out.mono hb).q)
          rw [HV.out] at hfc
          go_simp
          refine hfc.out.mono ?_
          rintro e w'' ⟨rfl, hb'⟩
          exact ⟨rfl, hb'⟩
        refine wpStir_call rfl (fun w' hb hd => ?_) ?_
        · clear hd
          go_simp
          refine (shownAs5_any a b v w').mono ?_
          rintro e w'' ⟨rfl, hb'⟩
          exact ⟨rfl, hb'⟩
        simp only [Act.put, List.setIfInBounds_toArray, List.set_cons_succ, List.set_cons_zero]
        refine wpStir_held rfl (fun w' hb hd => ?_) (fun v9 hv9 => ?_)
        · clear hd
          have hto := Lib.hid (told9c_any Bw Bf Bo Bp Bs dw df do_ dp ds o (shownF (a, b) v) w' HOF.out (HQ9.out.mono hb))
          rw [HO2.out] at hto
          have hz := hb.size
          go_simp
          refine hto.out.mono ?_
          rintro e w'' ⟨ho, hb'⟩
          obtain ⟨v8, rfl, h1, h2⟩ := ho.pc hz
          exact ⟨v8, rfl, hb', h1, h2⟩
        obtain ⟨Cw, Cf, Co, Cp, Cs, ew, ef, eo, ep, es, rfl⟩ := hv9
        refine wpStir_end (fun w5 hb5 hd => ?_)
        have hcp := hd.1 _ _ _ _ _ _ _ _ _ _ rfl
        clear hd
        have htb : TBox w5 w7.heap.size 29 #[.int .i64 o.q.wells, .slice Bw o.q.nw dw, .slice Bf o.q.nf df, .slice Bo o.no do_, .slice Bp o.np dp, .slice Bs o.ns ds, .int .i64 o.far, .int .i64 o.harm, .int .i64 o.many] := O9.out.mono hb5
        obtain ⟨hx0, hx1, hx2, hx3, hx4, hx5, hx6, hx7, hx8, hxl⟩ := htb.c9
        have hf0 := htb.frozen 0
        have hf1 := htb.frozen 1
        have hf2 := htb.frozen 2
        have hf3 := htb.frozen 3
        have hf4 := htb.frozen 4
        have hf5 := htb.frozen 5
        have hf6 := htb.frozen 6
        have hf7 := htb.frozen 7
        have hf8 := htb.frozen 8
        simp only [Act.put, List.setIfInBounds_toArray, List.set_cons_succ, List.set_cons_zero, List.drop_succ_cons, List.drop_zero]
        have ty : ∃ cs, TBox w5 w7.heap.size 29 cs := ⟨_, htb⟩
        obtain ⟨w20, hw20⟩ : ∃ w20, (((((((((w5.setCell ⟨w7.heap.size, 0, none⟩ (.int .i64 o2.q.wells)).setCell ⟨w7.heap.size, 1, none⟩ (.slice Cw o2.q.nw ew)).setCell ⟨w7.heap.size, 2, none⟩ (.slice Cf o2.q.nf ef)).setCell ⟨w7.heap.size, 3, none⟩ (.slice Co o2.no eo)).setCell ⟨w7.heap.size, 4, none⟩ (.slice Cp o2.np ep)).setCell ⟨w7.heap.size, 5, none⟩ (.slice Cs o2.ns es)).setCell ⟨w7.heap.size, 6, none⟩ (.int .i64 o2.far)).setCell ⟨w7.heap.size, 7, none⟩ (.int .i64 o2.harm)).setCell ⟨w7.heap.size, 8, none⟩ (.int .i64 o2.many)) = w20 := ⟨_, rfl⟩
        have hc9 : CopyAt9 w20 w9.heap.size (.slice Cw o2.q.nw ew) (.slice Cf o2.q.nf ef) (.slice Co o2.no eo) (.slice Cp o2.np ep) (.slice Cs o2.ns es) o2 := by
          rw [← hw20]
          repeat with_reducible refine CopyAt9.setTy ?_ ?_ _ _
          · exact hcp
          all_goals repeat (first | with_reducible refine TyB.set ?_ _ _ _ | with_reducible exact ty)
        have hbb3 : Below w7.heap.size w7 w20 := by
          rw [← hw20]
          have k9 : Below w7.heap.size w7 w5 := (bTrans (show Below w7.heap.size w7 w9 from HRL9.out) hb5)
          repeat (with_reducible refine Below.setCell ?_ ?_ _)
          · exact k9
          all_goals exact Nat.le_refl _
        have htb3 : TBox w20 w7.heap.size 29 #[.int .i64 o2.q.wells, .slice Cw o2.q.nw ew, .slice Cf o2.q.nf ef, .slice Co o2.no eo, .slice Cp o2.np ep, .slice Cs o2.ns es, .int .i64 o2.far, .int .i64 o2.harm, .int .i64 o2.many] := by
          rw [← hw20]
          have := ((((((((htb.set 0 (.int .i64 o2.q.wells)).set 1 (.slice Cw o2.q.nw ew)).set 2 (.slice Cf o2.q.nf ef)).set 3 (.slice Co o2.no eo)).set 4 (.slice Cp o2.np ep)).set 5 (.slice Cs o2.ns es)).set 6 (.int .i64 o2.far)).set 7 (.int .i64 o2.harm)).set 8 (.int .i64 o2.many)
          exact this
        have HW20 := Lib.hid hw20
        have HQ2 := Lib.hid (told_chain hc9)
        have HT3 := Lib.hid htb3
        have HB3 := Lib.hid hbb3
        clear hc9 hbb3 htb3 hw20 hcp htb hb5 ty
        unfold pcV
        refine wpList_skip rfl rfl (w'' := w20) (by rw [← HW20.out]; go_simp) ?_
        go_wp2_with fail
        go_roundw
        case rel =>
          first
          | exact ⟨k + 1, o2, Cw, Cf, Co, Cp, Cs, ew, ef, eo, ep, es, by omega, by go_num, HAS.out, HQ2.out, HT3.out, HB3.out⟩
          | ((repeat apply Exists.intro)
             refine ⟨⟨k + 1, o2, Cw, Cf, Co, Cp, Cs, ew, ef, eo, ep, es, by omega, ?_, HAS.out, HQ2.out, HT3.out, HB3.out⟩, rfl⟩
             go_num)
        case measure => simp [intOf]; omega
      obtain rfl : k = nl := by omega
      have k1 : ¬ (k : Int) < (k : Int) := by omega
      go_wp2_with fail
      have HOL := Lib.hid (show t.toldAll (j : Int) L = o by have h := HOA.out; rw [List.take_of_length_le (Nat.le_of_eq HNL.out)] at h; exact h)
      refine ((by have := check9_any Bw Bf Bo Bp Bs dw df do_ dp ds o wr HSO.out HQ8.out; exact this : Calls Tryz.prog 22 #[.agg #[.int .i64 o.q.wells, .slice Bw o.q.nw dw, .slice Bf o.q.nf df, .slice Bo o.no do_, .slice Bp o.np dp, .slice Bs o.ns ds, .int .i64 o.far, .int .i64 o.harm, .int .i64 o.many]] wr fun e w' => e = .returned (.int .i64 o.err) ∧ Below wr.heap.size wr w')).mono ?_
      rintro e w9 ⟨rfl, hb⟩
      have hB9 : Below wr.heap.size wr w9 := bTrans (Below.refl _ _) hb
      have HD9 := Lib.hid (bTrans HD8.out hB9)
      have HT9 := Lib.hid (HT8.out.mono hB9)
      have HTB9 := Lib.hid (HTB8.out.mono hB9)
      have HNA9 := Lib.hid (HNA8.out.mono hB9)
      have HLA9 := Lib.hid (HLA8.out.mono hB9)
      have HQ9 := Lib.hid (HQ8.out.mono hB9)
      have HRL9 := Lib.hid (HRL8.out.mono hB9)
      have T9 := Lib.hid (T8.out.mono hB9)
      have X9 := Lib.hid (X8.out.mono hB9)
      have O9 := Lib.hid (O8.out.mono hB9)
      clear hb hB9 HD8 HT8 HTB8 HNA8 HLA8 HQ8 HRL8 T8 T_0 T_1 T_2 T_3 T_4 T_5 T_6 T_7 T_8 T_l X8 X_0 X_1 X_2 X_l O8 O_0 O_1 O_2 O_3 O_4 O_5 O_6 O_7 O_8 O_l
      obtain ⟨T_0, T_1, T_2, T_3, T_4, T_5, T_6, T_7, T_8, T_l⟩ := T9.out.c9
      obtain ⟨X_0, X_1, X_2, X_l⟩ := X9.out.c3
      obtain ⟨O_0, O_1, O_2, O_3, O_4, O_5, O_6, O_7, O_8, O_l⟩ := O9.out.c9
      by_cases hok : o.Ok
      case neg =>
        rw [Pt.err_bad hok]
        clear hok
        go_wp2_with fail
        refine (works9_any _ HTB9.out HNA9.out).mono ?_
        rintro e w10 ⟨rfl, hb⟩
        have hB10 : Below w9.heap.size w9 w10 := bTrans (Below.refl _ _) hb
        have HD10 := Lib.hid (bTrans HD9.out hB10)
        have HT10 := Lib.hid (HT9.out.mono hB10)
        have HTB10 := Lib.hid (HTB9.out.mono hB10)
        have HNA10 := Lib.hid (HNA9.out.mono hB10)
        have HLA10 := Lib.hid (HLA9.out.mono hB10)
        have HQ10 := Lib.hid (HQ9.out.mono hB10)
        have HRL10 := Lib.hid (HRL9.out.mono hB10)
        have T10 := Lib.hid (T9.out.mono hB10)
        have X10 := Lib.hid (X9.out.mono hB10)
        have O10 := Lib.hid (O9.out.mono hB10)
        clear hb hB10 HD9 HT9 HTB9 HNA9 HLA9 HQ9 HRL9 T9 T_0 T_1 T_2 T_3 T_4 T_5 T_6 T_7 T_8 T_l X9 X_0 X_1 X_2 X_l O9 O_0 O_1 O_2 O_3 O_4 O_5 O_6 O_7 O_8 O_l
        obtain ⟨T_0, T_1, T_2, T_3, T_4, T_5, T_6, T_7, T_8, T_l⟩ := T10.out.c9
        obtain ⟨X_0, X_1, X_2, X_l⟩ := X10.out.c3
        obtain ⟨O_0, O_1, O_2, O_3, O_4, O_5, O_6, O_7, O_8, O_l⟩ := O10.out.c9
        go_wp2_with fail
        go_ret
        exact ⟨rfl, HD10.out⟩
      rw [Pt.err_ok hok]
      have HOK2 := Lib.hid hok
      clear hok
      have HNE2 := Lib.hid (show o.q.leftL ≠ [] by rw [← HOL.out]; exact List.ne_nil_of_mem (toldAll_self HWJ.out))
      have HSU := Lib.hid (show o.doubt i = false by rw [← HOL.out]; exact toldAll_sure HDE.out)
      have HI2 := Lib.hid (show i < o.ns by rw [← HOL.out]; exact HI.out)
      go_wp2_with fail
      refine ((by have := perhaps9_any Bw Bf Bo Bp Bs dw df do_ dp ds o i w9 HSO.out HQ9.out HTB9.out HNA9.out HOK2.out HNE2.out HI2.out; rw [HSU.out] at this; exact this : Calls Tryz.prog 62 #[.agg #[.int .i64 o.q.wells, .slice Bw o.q.nw dw, .slice Bf o.q.nf df, .slice Bo o.no do_, .slice Bp o.np dp, .slice Bs o.ns ds, .int .i64 o.far, .int .i64 o.harm, .int .i64 o.many], .int .i64 (i : Int)] w9 fun e w' => e = .returned (.tuple #[.bool false, .bool true]) ∧ Below w9.heap.size w9 w')).mono ?_
      rintro e w10 ⟨rfl, hb⟩
      have hB10 : Below w9.heap.size w9 w10 := bTrans (Below.refl _ _) hb
      have HD10 := Lib.hid (bTrans HD9.out hB10)
      have HT10 := Lib.hid (HT9.out.mono hB10)
      have HTB10 := Lib.hid (HTB9.out.mono hB10)
      have HNA10 := Lib.hid (HNA9.out.mono hB10)
      have HLA10 := Lib.hid (HLA9.out.mono hB10)
      have HQ10 := Lib.hid (HQ9.out.mono hB10)
      have HRL10 := Lib.hid (HRL9.out.mono hB10)
      have T10 := Lib.hid (T9.out.mono hB10)
      have X10 := Lib.hid (X9.out.mono hB10)
      have O10 := Lib.hid (O9.out.mono hB10)
      clear hb hB10 HD9 HT9 HTB9 HNA9 HLA9 HQ9 HRL9 T9 T_0 T_1 T_2 T_3 T_4 T_5 T_6 T_7 T_8 T_l X9 X_0 X_1 X_2 X_l O9 O_0 O_1 O_2 O_3 O_4 O_5 O_6 O_7 O_8 O_l
      obtain ⟨T_0, T_1, T_2, T_3, T_4, T_5, T_6, T_7, T_8, T_l⟩ := T10.out.c9
      obtain ⟨X_0, X_1, X_2, X_l⟩ := X10.out.c3
      obtain ⟨O_0, O_1, O_2, O_3, O_4, O_5, O_6, O_7, O_8, O_l⟩ := O10.out.c9
      go_wp2_with fail
      refine (works9_any _ HTB10.out HNA10.out).mono ?_
      rintro e w11 ⟨rfl, hb⟩
      have hB11 : Below w10.heap.size w10 w11 := bTrans (Below.refl _ _) hb
      have HD11 := Lib.hid (bTrans HD10.out hB11)
      have HT11 := Lib.hid (HT10.out.mono hB11)
      have HTB11 := Lib.hid (HTB10.out.mono hB11)
      have HNA11 := Lib.hid (HNA10.out.mono hB11)
      have HLA11 := Lib.hid (HLA10.out.mono hB11)
      have HQ11 := Lib.hid (HQ10.out.mono hB11)
      have HRL11 := Lib.hid (HRL10.out.mono hB11)
      have T11 := Lib.hid (T10.out.mono hB11)
      have X11 := Lib.hid (X10.out.mono hB11)
      have O11 := Lib.hid (O10.out.mono hB11)
      clear hb hB11 HD10 HT10 HTB10 HNA10 HLA10 HQ10 HRL10 T10 T_0 T_1 T_2 T_3 T_4 T_5 T_6 T_7 T_8 T_l X10 X_0 X_1 X_2 X_l O10 O_0 O_1 O_2 O_3 O_4 O_5 O_6 O_7 O_8 O_l
      obtain ⟨T_0, T_1, T_2, T_3, T_4, T_5, T_6, T_7, T_8, T_l⟩ := T11.out.c9
      obtain ⟨X_0, X_1, X_2, X_l⟩ := X11.out.c3
      obtain ⟨O_0, O_1, O_2, O_3, O_4, O_5, O_6, O_7, O_8, O_l⟩ := O11.out.c9
      go_wp2_with fail
      go_ret
      exact ⟨rfl, HD11.out⟩
end Go.Proofs.YtjpfdhhiofjpbaaGreatDoor

