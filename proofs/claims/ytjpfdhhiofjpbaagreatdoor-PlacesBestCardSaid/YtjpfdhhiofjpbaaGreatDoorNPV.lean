/- Parts joined. -/
import Derived.Test.YtjpfdhhiofjpbaaGreatDoorNPU
set_option linter.unusedSimpArgs false
set_option linter.unusedVariables false
/- The statement PlacesEach: the walk. Conditions: lengths are Go's; the listed tables hold what they hold. -/
namespace Go.Proofs.YtjpfdhhiofjpbaaGreatDoor
open Go.RowKit Go.Sort
theorem mem_anyB (L : List Int) (x : Int) : anyB (fun i => intL0 L i == x) L.length = decide (x ∈ L) := by
  refine Bool.eq_iff_iff.2 ?_
  rw [anyB_true, decide_eq_true_eq]
  constructor
  · rintro ⟨i, hi, h⟩
    rw [← eq_of_beq h]
    exact intL0_mem hi
  · intro h
    obtain ⟨k, hk, e⟩ := mem_intL0 h
    exact ⟨k, hk, by rw [e]; exact beq_self_eq_true _⟩
theorem mem_who {t : Pt} {s k : Nat} (hk : k < t.m) : ((k : Int) ∈ t.who s) ↔ t.whoB s k = true := by
  constructor
  · intro h
    obtain ⟨i, _, h2, h3⟩ := selTo_mem.1 (show (k : Int) ∈ selTo (t.whoB s) t.m from h)
    obtain rfl : k = i := by omega
    exact h2
  · intro h
    exact selTo_mem.2 ⟨k, hk, h, rfl⟩
theorem mem_frees {t : Pt} {s : Nat} (hs : s < t.ns) : ((s : Int) ∈ t.frees) ↔ t.freeB s = true := by
  constructor
  · intro h
    obtain ⟨i, _, h2, h3⟩ := selTo_mem.1 (show (s : Int) ∈ selTo t.freeB t.ns from h)
    obtain rfl : s = i := by omega
    exact h2
  · intro h
    exact selTo_mem.2 ⟨s, hs, h, rfl⟩
theorem free_iff {t : Pt} {s : Nat} : t.freeB s = (t.canB s && decide ((t.who s).length = 0)) := by
  unfold Pt.freeB
  congr 1
  cases h : t.whoAny s
  · rw [whoAny_iff.1 h]; rfl
  · rw [decide_eq_false (fun e => by rw [whoAny_iff.2 (List.eq_nil_of_length_eq_zero e)] at h; cases h)]; rfl
/-- what Forbids says is borne out by each world that is left -/
theorem each_law {t : Pt} {s k : Nat} {a : Int} (ha : a ∈ t.q.leftL) (hk : k < t.m) : (knownK (t.inN s k) t.q.leftL.length = 1 ∧ t.forb s k a = true ∧ (k : Int) ∈ t.who s) ∨ (knownK (t.inN s k) t.q.leftL.length = 2 ∧ t.forb s k a = false ∧ ¬ (k : Int) ∈ t.who s) ∨ (knownK (t.inN s k) t.q.leftL.length = 3 ∧ (k : Int) ∈ t.who s) := by
  have hw := mem_who (t := t) (s := s) hk
  rw [hw]
  have h1 := knownK_in (t.inN s k) t.q.leftL.length
  rcases (by omega : knownK (t.inN s k) t.q.leftL.length = 1 ∨ knownK (t.inN s k) t.q.leftL.length = 2 ∨ knownK (t.inN s k) t.q.leftL.length = 3) with h | h | h
  · obtain ⟨h2, h3⟩ := knownK_one.1 h
    exact .inl ⟨h, inN_all.1 h3 a ha, by unfold Pt.whoB; simp; omega⟩
  · have h2 := knownK_two.1 h
    exact .inr (.inl ⟨h, inN_zero.1 h2 a ha, by unfold Pt.whoB; simp; omega⟩)
  · obtain ⟨h2, h3⟩ := knownK_three.1 h
    exact .inr (.inr ⟨h, by unfold Pt.whoB; simp; omega⟩)
set_option maxHeartbeats 16000000 in
set_option maxRecDepth 100000 in
theorem placesEach_any (Aw Af Ao Ap As : Option Addr) (cw cf co cp cs : Nat) (t : Pt) (wd sp by_ wh : Int) (w : World) (hs : t.Small) (hT : PAt w Aw Af Ao Ap As t) (hB : TabAt w) (hN : NoneAt w) :
    Calls Tryz.prog 6 #[.agg #[.int .i64 t.q.wells, .slice Aw t.q.nw cw, .slice Af t.q.nf cf, .slice Ao t.no co, .slice Ap t.np cp, .slice As t.ns cs, .int .i64 t.far, .int .i64 t.harm, .int .i64 t.many], .int .i64 wd, .agg #[.int .i64 sp, .int .i64 by_, .int .i64 wh]] w fun e w' => e = .returned (.bool true) ∧ Below w.heap.size w w' := by
  have HD0 := Lib.hid (Below.refl w.heap.size w)
  have HSM := Lib.hid hs
  have HT0 := Lib.hid hT
  have HTB0 := Lib.hid hB
  have HNA0 := Lib.hid hN
  clear hs hT hB hN
  go_enter Tryz.func6, Tryz.ntmps6
  go_wp2_with fail
  refine (ready9_any Aw Af Ao Ap As cw cf co cp cs t _ HSM.out (HT0.out.mono (bAlloc (bAlloc (Below.refl _ _) (.cells #[.int .i64 t.q.wells, .slice Aw t.q.nw cw, .slice Af t.q.nf cf, .slice Ao t.no co, .slice Ap t.np cp, .slice As t.ns cs, .int .i64 t.far, .int .i64 t.harm, .int .i64 t.many] 29)) (.cells #[.int .i64 sp, .int .i64 by_, .int .i64 wh] 47)))).mono ?_
  rintro e w1 ⟨⟨bf, rfl, hok⟩, hb⟩
  have hB1 : Below w.heap.size w w1 := bTrans (bAlloc (bAlloc (Below.refl _ _) (.cells #[.int .i64 t.q.wells, .slice Aw t.q.nw cw, .slice Af t.q.nf cf, .slice Ao t.no co, .slice Ap t.np cp, .slice As t.ns cs, .int .i64 t.far, .int .i64 t.harm, .int .i64 t.many] 29)) (.cells #[.int .i64 sp, .int .i64 by_, .int .i64 wh] 47)) hb
  have HD1 := Lib.hid (bTrans HD0.out hB1)
  have HT1 := Lib.hid (HT0.out.mono hB1)
  have HTB1 := Lib.hid (HTB0.out.mono hB1)
  have HNA1 := Lib.hid (HNA0.out.mono hB1)
  have T1 := Lib.hid (show TBox w1 w.heap.size 29 #[.int .i64 t.q.wells, .slice Aw t.q.nw cw, .slice Af t.q.nf cf, .slice Ao t.no co, .slice Ap t.np cp, .slice As t.ns cs, .int .i64 t.far, .int .i64 t.harm, .int .i64 t.many] from by have := ((TBox.new w #[.int .i64 t.q.wells, .slice Aw t.q.nw cw, .slice Af t.q.nf cf, .slice Ao t.no co, .slice Ap t.np cp, .slice As t.ns cs, .int .i64 t.far, .int .i64 t.harm, .int .i64 t.many] 29).mono (bAlloc (Below.refl _ _) (.cells #[.int .i64 sp, .int .i64 by_, .int .i64 wh] 47))).mono hb; simpa using this)
  have X1 := Lib.hid (show TBox w1 (w.heap.size + 1) 47 #[.int .i64 sp, .int .i64 by_, .int .i64 wh] from by have := ((TBox.new (w.alloc (.cells #[.int .i64 t.q.wells, .slice Aw t.q.nw cw, .slice Af t.q.nf cf, .slice Ao t.no co, .slice Ap t.np cp, .slice As t.ns cs, .int .i64 t.far, .int .i64 t.harm, .int .i64 t.many] 29)) #[.int .i64 sp, .int .i64 by_, .int .i64 wh] 47).mono (Below.refl _ _)).mono hb; simpa using this)
  clear hb hB1 HD0 HT0 HTB0 HNA0
  obtain ⟨T_0, T_1, T_2, T_3, T_4, T_5, T_6, T_7, T_8, T_l⟩ := T1.out.c9
  obtain ⟨X_0, X_1, X_2, X_l⟩ := X1.out.c3
  cases bf
  case false =>
    go_wp2_with fail
    refine (works9_any _ HTB1.out HNA1.out).mono ?_
    rintro e w2 ⟨rfl, hb⟩
    have hB2 : Below w1.heap.size w1 w2 := bTrans (Below.refl _ _) hb
    have HD2 := Lib.hid (bTrans HD1.out hB2)
    have HT2 := Lib.hid (HT1.out.mono hB2)
    have HTB2 := Lib.hid (HTB1.out.mono hB2)
    have HNA2 := Lib.hid (HNA1.out.mono hB2)
    have T2 := Lib.hid (T1.out.mono hB2)
    have X2 := Lib.hid (X1.out.mono hB2)
    clear hb hB2 HD1 HT1 HTB1 HNA1 T1 T_0 T_1 T_2 T_3 T_4 T_5 T_6 T_7 T_8 T_l X1 X_0 X_1 X_2 X_l
    obtain ⟨T_0, T_1, T_2, T_3, T_4, T_5, T_6, T_7, T_8, T_l⟩ := T2.out.c9
    obtain ⟨X_0, X_1, X_2, X_l⟩ := X2.out.c3
    go_wp2_with fail
    go_ret
    exact ⟨rfl, HD2.out⟩
  have HOK := Lib.hid (hok rfl)
  clear hok
  go_wp2_with fail
  obtain ⟨bb, hbb⟩ : ∃ b, t.hasB sp = b := ⟨_, rfl⟩
  refine (hbb ▸ isSpotN9_any Aw Af Ao Ap As cw cf co cp cs t sp _ HSM.out.ns).mono ?_
  rintro e w2 ⟨rfl, hb⟩
  have hB2 : Below w1.heap.size w1 w2 := bTrans (Below.refl _ _) hb
  have HD2 := Lib.hid (bTrans HD1.out hB2)
  have HT2 := Lib.hid (HT1.out.mono hB2)
  have HTB2 := Lib.hid (HTB1.out.mono hB2)
  have HNA2 := Lib.hid (HNA1.out.mono hB2)
  have T2 := Lib.hid (T1.out.mono hB2)
  have X2 := Lib.hid (X1.out.mono hB2)
  clear hb hB2 HD1 HT1 HTB1 HNA1 T1 T_0 T_1 T_2 T_3 T_4 T_5 T_6 T_7 T_8 T_l X1 X_0 X_1 X_2 X_l
  obtain ⟨T_0, T_1, T_2, T_3, T_4, T_5, T_6, T_7, T_8, T_l⟩ := T2.out.c9
  obtain ⟨X_0, X_1, X_2, X_l⟩ := X2.out.c3
  cases bb
  case false =>
    clear hbb
    go_wp2_with fail
    refine (works9_any _ HTB2.out HNA2.out).mono ?_
    rintro e w3 ⟨rfl, hb⟩
    have hB3 : Below w2.heap.size w2 w3 := bTrans (Below.refl _ _) hb
    have HD3 := Lib.hid (bTrans HD2.out hB3)
    have HT3 := Lib.hid (HT2.out.mono hB3)
    have HTB3 := Lib.hid (HTB2.out.mono hB3)
    have HNA3 := Lib.hid (HNA2.out.mono hB3)
    have T3 := Lib.hid (T2.out.mono hB3)
    have X3 := Lib.hid (X2.out.mono hB3)
    clear hb hB3 HD2 HT2 HTB2 HNA2 T2 T_0 T_1 T_2 T_3 T_4 T_5 T_6 T_7 T_8 T_l X2 X_0 X_1 X_2 X_l
    obtain ⟨T_0, T_1, T_2, T_3, T_4, T_5, T_6, T_7, T_8, T_l⟩ := T3.out.c9
    obtain ⟨X_0, X_1, X_2, X_l⟩ := X3.out.c3
    go_wp2_with fail
    go_ret
    exact ⟨rfl, HD3.out⟩
  have hn := hasB_iff.1 hbb
  obtain ⟨i, rfl⟩ : ∃ i : Nat, sp = (i : Int) := ⟨sp.toNat, by omega⟩
  have HI := Lib.hid (show i < t.ns by omega)
  clear hn hbb
  go_wp2_with fail
  refine (leftOf9_any Aw Af Ao Ap As cw cf co cp cs t _ HOK.out HT2.out).mono ?_
  rintro e w3 ⟨⟨A4, c4, rfl, hi4⟩, hb⟩
  have hB3 : Below w2.heap.size w2 w3 := bTrans (Below.refl _ _) hb
  have HD3 := Lib.hid (bTrans HD2.out hB3)
  have HT3 := Lib.hid (HT2.out.mono hB3)
  have HTB3 := Lib.hid (HTB2.out.mono hB3)
  have HNA3 := Lib.hid (HNA2.out.mono hB3)
  have HI43 := Lib.hid (hi4)
  have T3 := Lib.hid (T2.out.mono hB3)
  have X3 := Lib.hid (X2.out.mono hB3)
  clear hb hB3 HD2 HT2 HTB2 HNA2 T2 T_0 T_1 T_2 T_3 T_4 T_5 T_6 T_7 T_8 T_l X2 X_0 X_1 X_2 X_l
  obtain ⟨T_0, T_1, T_2, T_3, T_4, T_5, T_6, T_7, T_8, T_l⟩ := T3.out.c9
  obtain ⟨X_0, X_1, X_2, X_l⟩ := X3.out.c3
  clear hi4
  go_wp2_with fail
  obtain ⟨bb, hbb⟩ : ∃ b, decide (wd ∈ t.q.leftL) = b := ⟨_, rfl⟩
  have hl6 := left_len HOK.out.q
  refine ((mem_anyB t.q.leftL wd).trans hbb ▸ in1_any A4 t.q.leftL.length c4 (intL0 t.q.leftL) wd _ (by omega) HI43.out).mono ?_
  rintro e w4 ⟨rfl, hb⟩
  have hB4 : Below w3.heap.size w3 w4 := bTrans (Below.refl _ _) hb
  have HD4 := Lib.hid (bTrans HD3.out hB4)
  have HT4 := Lib.hid (HT3.out.mono hB4)
  have HTB4 := Lib.hid (HTB3.out.mono hB4)
  have HNA4 := Lib.hid (HNA3.out.mono hB4)
  have T4 := Lib.hid (T3.out.mono hB4)
  have X4 := Lib.hid (X3.out.mono hB4)
  clear hb hB4 HD3 HT3 HTB3 HNA3 HI43 T3 T_0 T_1 T_2 T_3 T_4 T_5 T_6 T_7 T_8 T_l X3 X_0 X_1 X_2 X_l
  obtain ⟨T_0, T_1, T_2, T_3, T_4, T_5, T_6, T_7, T_8, T_l⟩ := T4.out.c9
  obtain ⟨X_0, X_1, X_2, X_l⟩ := X4.out.c3
  cases bb
  case false =>
    clear hbb hl6
    go_wp2_with fail
    refine (works9_any _ HTB4.out HNA4.out).mono ?_
    rintro e w5 ⟨rfl, hb⟩
    have hB5 : Below w4.heap.size w4 w5 := bTrans (Below.refl _ _) hb
    have HD5 := Lib.hid (bTrans HD4.out hB5)
    have HT5 := Lib.hid (HT4.out.mono hB5)
    have HTB5 := Lib.hid (HTB4.out.mono hB5)
    have HNA5 := Lib.hid (HNA4.out.mono hB5)
    have T5 := Lib.hid (T4.out.mono hB5)
    have X5 := Lib.hid (X4.out.mono hB5)
    clear hb hB5 HD4 HT4 HTB4 HNA4 T4 T_0 T_1 T_2 T_3 T_4 T_5 T_6 T_7 T_8 T_l X4 X_0 X_1 X_2 X_l
    obtain ⟨T_0, T_1, T_2, T_3, T_4, T_5, T_6, T_7, T_8, T_l⟩ := T5.out.c9
    obtain ⟨X_0, X_1, X_2, X_l⟩ := X5.out.c3
    go_wp2_with fail
    go_ret
    exact ⟨rfl, HD5.out⟩
  have hmem : wd ∈ t.q.leftL := of_decide_eq_true hbb
  obtain ⟨j, hj, _, rfl⟩ := (leftTo_mem t.q t.q.nw).1 hmem
  have HWJ := Lib.hid hmem
  have HNE := Lib.hid (List.ne_nil_of_mem hmem)
  have HJ := Lib.hid hj
  clear hmem hj hbb hl6
  go_wp2_with fail
  have hns5 := HOK.out.ns
  have hno4 : t.no ≤ 4 := by have := HOK.out.no; have := HOK.out.q.w1; omega
  obtain ⟨z, hz⟩ : ∃ z, (t.who i).length = z := ⟨_, rfl⟩
  obtain ⟨zf, hzf⟩ : ∃ z, t.frees.length = z := ⟨_, rfl⟩
  have hz1 : z ≤ t.no := by have := selTo_len (t.whoB i) t.m; have := Pt.m_no HOK.out; unfold Pt.who at hz; omega
  have hz2 : zf ≤ t.ns := by have := selTo_len t.freeB t.ns; unfold Pt.frees at hzf; omega
  have HZ := Lib.hid hz
  have HZF := Lib.hid hzf
  clear hz hzf
  refine ((by have := whoOutP_any Aw Af Ao Ap As cw cf co cp cs t (i : Int) w4 HSM.out HT4.out HTB4.out; rw [hasB_in HI.out, Pt.knowErr_ok HOK.out HNE.out, Int.toNat_natCast] at this; exact this : Calls Tryz.prog 30 #[.agg #[.int .i64 t.q.wells, .slice Aw t.q.nw cw, .slice Af t.q.nf cf, .slice Ao t.no co, .slice Ap t.np cp, .slice As t.ns cs, .int .i64 t.far, .int .i64 t.harm, .int .i64 t.many], .int .i64 (i : Int)] w4 fun e w' => NumsOut w' w4.heap.size 0 (t.who i) e ∧ Below w4.heap.size w4 w')).mono ?_
  rintro e w5 ⟨ho, hb⟩
  obtain ⟨v, rfl, hv⟩ := ho.1 rfl
  obtain ⟨A6, c6, rfl, hi6⟩ := hv.lst
  rw [HZ.out] at hi6 ⊢
  have hB5 : Below w4.heap.size w4 w5 := bTrans (Below.refl _ _) hb
  have HD5 := Lib.hid (bTrans HD4.out hB5)
  have HT5 := Lib.hid (HT4.out.mono hB5)
  have HTB5 := Lib.hid (HTB4.out.mono hB5)
  have HNA5 := Lib.hid (HNA4.out.mono hB5)
  have HW5 := Lib.hid (hi6)
  have T5 := Lib.hid (T4.out.mono hB5)
  have X5 := Lib.hid (X4.out.mono hB5)
  clear hb hB5 HD4 HT4 HTB4 HNA4 T4 T_0 T_1 T_2 T_3 T_4 T_5 T_6 T_7 T_8 T_l X4 X_0 X_1 X_2 X_l
  obtain ⟨T_0, T_1, T_2, T_3, T_4, T_5, T_6, T_7, T_8, T_l⟩ := T5.out.c9
  obtain ⟨X_0, X_1, X_2, X_l⟩ := X5.out.c3
  clear ho hv hi6
  go_wp2_with fail
  refine ((by have := freeP_any Aw Af Ao Ap As cw cf co cp cs t w5 HSM.out HT5.out HTB5.out HNA5.out; rw [Pt.knowErr_ok HOK.out HNE.out] at this; exact this : Calls Tryz.prog 33 #[.agg #[.int .i64 t.q.wells, .slice Aw t.q.nw cw, .slice Af t.q.nf cf, .slice Ao t.no co, .slice Ap t.np cp, .slice As t.ns cs, .int .i64 t.far, .int .i64 t.harm, .int .i64 t.many]] w5 fun e w' => NumsOut w' w5.heap.size 0 t.frees e ∧ Below w5.heap.size w5 w')).mono ?_
  rintro e w6 ⟨ho, hb⟩
  obtain ⟨v, rfl, hv⟩ := ho.1 rfl
  obtain ⟨A7, c7, rfl, hi7⟩ := hv.lst
  rw [HZF.out] at hi7 ⊢
  have hB6 : Below w5.heap.size w5 w6 := bTrans (Below.refl _ _) hb
  have HD6 := Lib.hid (bTrans HD5.out hB6)
  have HT6 := Lib.hid (HT5.out.mono hB6)
  have HTB6 := Lib.hid (HTB5.out.mono hB6)
  have HNA6 := Lib.hid (HNA5.out.mono hB6)
  have HW6 := Lib.hid (HW5.out.mono hB6)
  have HF6 := Lib.hid (hi7)
  have T6 := Lib.hid (T5.out.mono hB6)
  have X6 := Lib.hid (X5.out.mono hB6)
  clear hb hB6 HD5 HT5 HTB5 HNA5 HW5 T5 T_0 T_1 T_2 T_3 T_4 T_5 T_6 T_7 T_8 T_l X5 X_0 X_1 X_2 X_l
  obtain ⟨T_0, T_1, T_2, T_3, T_4, T_5, T_6, T_7, T_8, T_l⟩ := T6.out.c9
  obtain ⟨X_0, X_1, X_2, X_l⟩ := X6.out.c3
  clear ho hv hi7
  go_wp2_with fail
  obtain ⟨y1, hy1⟩ : ∃ y, (t.cheap i).1 = y := ⟨_, rfl⟩
  obtain ⟨y2, hy2⟩ : ∃ y, (t.cheap i).2 = y := ⟨_, rfl⟩
  have HY := Lib.hid (show t.priceOut (i : Int) = (y1, y2) by unfold Pt.priceOut; rw [hasB_in HI.out, Pt.askErr_ok HOK.out, if_pos rfl, Int.toNat_natCast]; exact Prod.ext hy1 hy2)
  have hy3 := cheap_err HOK.out HI.out
  have HCB := Lib.hid (show t.canB i = decide (y2 = 0) by unfold Pt.canB; rw [hy2])
  rw [hy2] at hy3
  have HY3 := Lib.hid hy3
  clear hy1 hy2 hy3
  refine ((by have := pricesP_any Aw Af Ao Ap As cw cf co cp cs t (i : Int) w6 HSM.out HT6.out HTB6.out HNA6.out; rw [HY.out] at this; exact this : Calls Tryz.prog 25 #[.agg #[.int .i64 t.q.wells, .slice Aw t.q.nw cw, .slice Af t.q.nf cf, .slice Ao t.no co, .slice Ap t.np cp, .slice As t.ns cs, .int .i64 t.far, .int .i64 t.harm, .int .i64 t.many], .int .i64 (i : Int)] w6 fun e w' => e = .returned (.tuple #[.int .i64 y1, .int .i64 y2]) ∧ Below w6.heap.size w6 w')).mono ?_
  rintro e w7 ⟨rfl, hb⟩
  have hB7 : Below w6.heap.size w6 w7 := bTrans (Below.refl _ _) hb
  have HD7 := Lib.hid (bTrans HD6.out hB7)
  have HT7 := Lib.hid (HT6.out.mono hB7)
  have HTB7 := Lib.hid (HTB6.out.mono hB7)
  have HNA7 := Lib.hid (HNA6.out.mono hB7)
  have HW7 := Lib.hid (HW6.out.mono hB7)
  have HF7 := Lib.hid (HF6.out.mono hB7)
  have T7 := Lib.hid (T6.out.mono hB7)
  have X7 := Lib.hid (X6.out.mono hB7)
  clear hb hB7 HD6 HT6 HTB6 HNA6 HW6 HF6 T6 T_0 T_1 T_2 T_3 T_4 T_5 T_6 T_7 T_8 T_l X6 X_0 X_1 X_2 X_l
  obtain ⟨T_0, T_1, T_2, T_3, T_4, T_5, T_6, T_7, T_8, T_l⟩ := T7.out.c9
  obtain ⟨X_0, X_1, X_2, X_l⟩ := X7.out.c3
  go_wp2_with fail
  have hz3 : ¬ (z : Int) > (t.no : Int) := by omega
  have hz4 : ¬ (zf : Int) > (t.ns : Int) := by omega
  have hz5 : ¬ t.no < z := by omega
  have hz6 : ¬ t.ns < zf := by omega
  have HFR := Lib.hid (show decide ((i : Int) ∈ t.frees) = (decide (y2 = 0) && decide (z = 0)) by rw [← HCB.out, ← HZ.out, ← free_iff]; exact Bool.eq_iff_iff.2 ((decide_eq_true_iff).trans (mem_frees HI.out)))
  have HIN := Lib.hid (fun (w' : World) (hI : IntsAt w' A7 zf (intL0 t.frees)) => (by have := in1_any A7 zf c7 (intL0 t.frees) (i : Int) w' (by omega) hI; rw [← HZF.out, mem_anyB, HFR.out] at this; rw [← HZF.out]; exact this : Calls Tryz.prog 41 #[.slice A7 zf c7, .int .i64 (i : Int)] w' fun e w'' => e = .returned (.bool (decide (y2 = 0) && decide (z = 0))) ∧ Below w'.heap.size w' w''))
  rcases HY3.out with rfl | rfl
  · skip
    by_cases h0 : z = 0
    case pos =>
      subst h0
      go_wp2_with fail
      refine (isKnown9_any 0 _).mono ?_
      rintro e w8 ⟨rfl, hb⟩
      have hB8 : Below w7.heap.size w7 w8 := bTrans (Below.refl _ _) hb
      have HD8 := Lib.hid (bTrans HD7.out hB8)
      have HT8 := Lib.hid (HT7.out.mono hB8)
      have HTB8 := Lib.hid (HTB7.out.mono hB8)
      have HNA8 := Lib.hid (HNA7.out.mono hB8)
      have HW8 := Lib.hid (HW7.out.mono hB8)
      have HF8 := Lib.hid (HF7.out.mono hB8)
      have T8 := Lib.hid (T7.out.mono hB8)
      have X8 := Lib.hid (X7.out.mono hB8)
      clear hb hB8 HD7 HT7 HTB7 HNA7 HW7 HF7 T7 T_0 T_1 T_2 T_3 T_4 T_5 T_6 T_7 T_8 T_l X7 X_0 X_1 X_2 X_l
      obtain ⟨T_0, T_1, T_2, T_3, T_4, T_5, T_6, T_7, T_8, T_l⟩ := T8.out.c9
      obtain ⟨X_0, X_1, X_2, X_l⟩ := X8.out.c3
      go_wp2_with fail
      refine (HIN.out _ HF8.out).mono ?_
      rintro e w9 ⟨rfl, hb⟩
      have hB9 : Below w8.heap.size w8 w9 := bTrans (Below.refl _ _) hb
      have HD9 := Lib.hid (bTrans HD8.out hB9)
      have HT9 := Lib.hid (HT8.out.mono hB9)
      have HTB9 := Lib.hid (HTB8.out.mono hB9)
      have HNA9 := Lib.hid (HNA8.out.mono hB9)
      have HW9 := Lib.hid (HW8.out.mono hB9)
      have HF9 := Lib.hid (HF8.out.mono hB9)
      have T9 := Lib.hid (T8.out.mono hB9)
      have X9 := Lib.hid (X8.out.mono hB9)
      clear hb hB9 HD8 HT8 HTB8 HNA8 HW8 HF8 T8 T_0 T_1 T_2 T_3 T_4 T_5 T_6 T_7 T_8 T_l X8 X_0 X_1 X_2 X_l
      obtain ⟨T_0, T_1, T_2, T_3, T_4, T_5, T_6, T_7, T_8, T_l⟩ := T9.out.c9
      obtain ⟨X_0, X_1, X_2, X_l⟩ := X9.out.c3
      go_wp2_with fail
      clear T_0 T_1 T_2 T_3 T_4 T_5 T_6 T_7 T_8 T_l X_0 X_1 X_2 X_l
      go_loopw [13] (fun s13 wr => ∃ k : Nat, k ≤ t.no ∧ s13 = .int .i64 (k : Int) ∧ Below w9.heap.size w9 wr) (fun s13 _ => t.no - (intOf s13).toNat)
      case atStart => exact ⟨0, Nat.zero_le _, rfl, Below.refl _ _⟩
      case round =>
        obtain ⟨k, hk_k, rfl, hb⟩ := hrel
        have HBk := Lib.hid hb
        have hB10 : Below w9.heap.size w9 wr := bTrans (Below.refl _ _) hb
        have HD10 := Lib.hid (bTrans HD9.out hB10)
        have HT10 := Lib.hid (HT9.out.mono hB10)
        have HTB10 := Lib.hid (HTB9.out.mono hB10)
        have HNA10 := Lib.hid (HNA9.out.mono hB10)
        have HW10 := Lib.hid (HW9.out.mono hB10)
        have HF10 := Lib.hid (HF9.out.mono hB10)
        have HU_k10 := Lib.hid ((show Upto w9 wr from HBk.out))
        have T10 := Lib.hid (T9.out.mono hB10)
        have X10 := Lib.hid (X9.out.mono hB10)
        clear hb hB10
        obtain ⟨T_0, T_1, T_2, T_3, T_4, T_5, T_6, T_7, T_8, T_l⟩ := T10.out.c9
        obtain ⟨X_0, X_1, X_2, X_l⟩ := X10.out.c3
        by_cases hlt_k : k < t.no
        case pos =>
          have h1_k : (k : Int) < (t.no : Int) := by omega
          have h0_k : (0 : Int) ≤ (k : Int) := by omega
          have hb_k : k < 100 := by omega
          have HKM := Lib.hid (show k < t.m by rw [Pt.m_no HOK.out]; exact hlt_k)
          have HKW := Lib.hid (show (k : Int) < t.q.wells by have := HOK.out.no; omega)
          have HV := Lib.hid (show t.oldB (k : Int) = true from by rw [show t.oldB (k : Int) = t.q.wellB (k : Int) from rfl]; exact wellB_in HOK.out.q HKW.out)
          have HFO := Lib.hid (show t.forbidsOut (i : Int) (k : Int) = (knownK (t.inN i k) t.q.leftL.length, 0) by unfold Pt.forbidsOut; rw [hasB_in HI.out, HV.out, show (true && true) = true from rfl, Pt.knowErr_ok HOK.out HNE.out, if_pos rfl, Int.toNat_natCast, Int.toNat_natCast])
          have hlaw := each_law (s := i) HWJ.out HKM.out
          have hkk := knownK_in (t.inN i k) t.q.leftL.length
          obtain ⟨kk, hk⟩ : ∃ y, knownK (t.inN i k : Int) (t.q.leftL.length : Int) = y := ⟨_, rfl⟩
          rw [hk] at hlaw HFO hkk
          have HR := Lib.hid (show inR kk 1 3 = true from inR_t hkk)
          obtain ⟨fb, hfb⟩ : ∃ b, t.forb i k (j : Int) = b := ⟨_, rfl⟩
          rw [hfb] at hlaw
          have HFB := Lib.hid hfb
          have HWI := Lib.hid (fun (w' : World) (hI : IntsAt w' A6 0 (intL0 (t.who i))) => (by have := in1_any A6 0 c6 (intL0 (t.who i)) (k : Int) w' (by omega) hI; rw [← HZ.out, mem_anyB] at this; rw [← HZ.out]; exact this : Calls Tryz.prog 41 #[.slice A6 0 c6, .int .i64 (k : Int)] w' fun e w'' => e = .returned (.bool (decide ((k : Int) ∈ t.who i))) ∧ Below w'.heap.size w' w''))
          clear hk hfb hkk
          go_wp2_with fail
          refine ((by have := forbidsOutP_any Aw Af Ao Ap As cw cf co cp cs t (i : Int) (k : Int) wr HSM.out HT10.out HTB10.out; rw [HFO.out] at this; exact this : Calls Tryz.prog 28 #[.agg #[.int .i64 t.q.wells, .slice Aw t.q.nw cw, .slice Af t.q.nf cf, .slice Ao t.no co, .slice Ap t.np cp, .slice As t.ns cs, .int .i64 t.far, .int .i64 t.harm, .int .i64 t.many], .int .i64 (i : Int), .int .i64 (k : Int)] wr fun e w' => e = .returned (.tuple #[.int .i64 kk, .int .i64 0]) ∧ Below wr.heap.size wr w')).mono ?_
          rintro e w11 ⟨rfl, hb⟩
          have hB11 : Below wr.heap.size wr w11 := bTrans (Below.refl _ _) hb
          have HD11 := Lib.hid (bTrans HD10.out hB11)
          have HT11 := Lib.hid (HT10.out.mono hB11)
          have HTB11 := Lib.hid (HTB10.out.mono hB11)
          have HNA11 := Lib.hid (HNA10.out.mono hB11)
          have HW11 := Lib.hid (HW10.out.mono hB11)
          have HF11 := Lib.hid (HF10.out.mono hB11)
          have HU_k11 := Lib.hid (HU_k10.out.mono hB11)
          have T11 := Lib.hid (T10.out.mono hB11)
          have X11 := Lib.hid (X10.out.mono hB11)
          clear hb hB11 HD10 HT10 HTB10 HNA10 HW10 HF10 HU_k10 T10 T_0 T_1 T_2 T_3 T_4 T_5 T_6 T_7 T_8 T_l X10 X_0 X_1 X_2 X_l
          obtain ⟨T_0, T_1, T_2, T_3, T_4, T_5, T_6, T_7, T_8, T_l⟩ := T11.out.c9
          obtain ⟨X_0, X_1, X_2, X_l⟩ := X11.out.c3
          go_wp2_with fail
          refine (HFB.out ▸ isForb9_any Aw Af Ao Ap As cw cf co cp cs t j i k _ HOK.out HT11.out HI.out HKW.out HJ.out).mono ?_
          rintro e w12 ⟨rfl, hb⟩
          have hB12 : Below w11.heap.size w11 w12 := bTrans (Below.refl _ _) hb
          have HD12 := Lib.hid (bTrans HD11.out hB12)
          have HT12 := Lib.hid (HT11.out.mono hB12)
          have HTB12 := Lib.hid (HTB11.out.mono hB12)
          have HNA12 := Lib.hid (HNA11.out.mono hB12)
          have HW12 := Lib.hid (HW11.out.mono hB12)
          have HF12 := Lib.hid (HF11.out.mono hB12)
          have HU_k12 := Lib.hid (HU_k11.out.mono hB12)
          have T12 := Lib.hid (T11.out.mono hB12)
          have X12 := Lib.hid (X11.out.mono hB12)
          clear hb hB12 HD11 HT11 HTB11 HNA11 HW11 HF11 HU_k11 T11 T_0 T_1 T_2 T_3 T_4 T_5 T_6 T_7 T_8 T_l X11 X_0 X_1 X_2 X_l
          obtain ⟨T_0, T_1, T_2, T_3, T_4, T_5, T_6, T_7, T_8, T_l⟩ := T12.out.c9
          obtain ⟨X_0, X_1, X_2, X_l⟩ := X12.out.c3
          rcases hlaw with ⟨rfl, rfl, hm⟩ | ⟨rfl, rfl, hm⟩ | ⟨rfl, hm⟩
          · skip
            go_wp2_with fail
            refine (within_b _ 1 3 true _ HR.out).mono ?_
            rintro e w0 ⟨rfl, rfl⟩
            go_wp2_with fail
            refine ((by have := HWI.out _ HW12.out; rw [decide_eq_true hm] at this; exact this : Calls Tryz.prog 41 #[.slice A6 0 c6, .int .i64 (k : Int)] w12 fun e w' => e = .returned (.bool true) ∧ Below w12.heap.size w12 w')).mono ?_
            rintro e w13 ⟨rfl, hb⟩
            have hB13 : Below w12.heap.size w12 w13 := bTrans (Below.refl _ _) hb
            have HD13 := Lib.hid (bTrans HD12.out hB13)
            have HT13 := Lib.hid (HT12.out.mono hB13)
            have HTB13 := Lib.hid (HTB12.out.mono hB13)
            have HNA13 := Lib.hid (HNA12.out.mono hB13)
            have HW13 := Lib.hid (HW12.out.mono hB13)
            have HF13 := Lib.hid (HF12.out.mono hB13)
            have HU_k13 := Lib.hid (HU_k12.out.mono hB13)
            have T13 := Lib.hid (T12.out.mono hB13)
            have X13 := Lib.hid (X12.out.mono hB13)
            clear hb hB13 HD12 HT12 HTB12 HNA12 HW12 HF12 HU_k12 T12 T_0 T_1 T_2 T_3 T_4 T_5 T_6 T_7 T_8 T_l X12 X_0 X_1 X_2 X_l
            obtain ⟨T_0, T_1, T_2, T_3, T_4, T_5, T_6, T_7, T_8, T_l⟩ := T13.out.c9
            obtain ⟨X_0, X_1, X_2, X_l⟩ := X13.out.c3
            go_wp2_with fail
            go_roundw
            case rel =>
              first
              | exact ⟨k + 1, by omega, by go_num, HU_k13.out⟩
              | ((repeat apply Exists.intro)
                 refine ⟨⟨k + 1, by omega, ?_, HU_k13.out⟩, rfl⟩
                 go_num)
            case measure => simp [intOf]; omega
          · skip
            go_wp2_with fail
            refine (within_b _ 1 3 true _ HR.out).mono ?_
            rintro e w0 ⟨rfl, rfl⟩
            go_wp2_with fail
            refine ((by have := HWI.out _ HW12.out; rw [decide_eq_false hm] at this; exact this : Calls Tryz.prog 41 #[.slice A6 0 c6, .int .i64 (k : Int)] w12 fun e w' => e = .returned (.bool false) ∧ Below w12.heap.size w12 w')).mono ?_
            rintro e w13 ⟨rfl, hb⟩
            have hB13 : Below w12.heap.size w12 w13 := bTrans (Below.refl _ _) hb
            have HD13 := Lib.hid (bTrans HD12.out hB13)
            have HT13 := Lib.hid (HT12.out.mono hB13)
            have HTB13 := Lib.hid (HTB12.out.mono hB13)
            have HNA13 := Lib.hid (HNA12.out.mono hB13)
            have HW13 := Lib.hid (HW12.out.mono hB13)
            have HF13 := Lib.hid (HF12.out.mono hB13)
            have HU_k13 := Lib.hid (HU_k12.out.mono hB13)
            have T13 := Lib.hid (T12.out.mono hB13)
            have X13 := Lib.hid (X12.out.mono hB13)
            clear hb hB13 HD12 HT12 HTB12 HNA12 HW12 HF12 HU_k12 T12 T_0 T_1 T_2 T_3 T_4 T_5 T_6 T_7 T_8 T_l X12 X_0 X_1 X_2 X_l
            obtain ⟨T_0, T_1, T_2, T_3, T_4, T_5, T_6, T_7, T_8, T_l⟩ := T13.out.c9
            obtain ⟨X_0, X_1, X_2, X_l⟩ := X13.out.c3
            go_wp2_with fail
            go_roundw
            case rel =>
              first
              | exact ⟨k + 1, by omega, by go_num, HU_k13.out⟩
              | ((repeat apply Exists.intro)
                 refine ⟨⟨k + 1, by omega, ?_, HU_k13.out⟩, rfl⟩
                 go_num)
            case measure => simp [intOf]; omega
          · skip
            cases fb
            · skip
              go_wp2_with fail
              refine (within_b _ 1 3 true _ HR.out).mono ?_
              rintro e w0 ⟨rfl, rfl⟩
              go_wp2_with fail
              refine ((by have := HWI.out _ HW12.out; rw [decide_eq_true hm] at this; exact this : Calls Tryz.prog 41 #[.slice A6 0 c6, .int .i64 (k : Int)] w12 fun e w' => e = .returned (.bool true) ∧ Below w12.heap.size w12 w')).mono ?_
              rintro e w13 ⟨rfl, hb⟩
              have hB13 : Below w12.heap.size w12 w13 := bTrans (Below.refl _ _) hb
              have HD13 := Lib.hid (bTrans HD12.out hB13)
              have HT13 := Lib.hid (HT12.out.mono hB13)
              have HTB13 := Lib.hid (HTB12.out.mono hB13)
              have HNA13 := Lib.hid (HNA12.out.mono hB13)
              have HW13 := Lib.hid (HW12.out.mono hB13)
              have HF13 := Lib.hid (HF12.out.mono hB13)
              have HU_k13 := Lib.hid (HU_k12.out.mono hB13)
              have T13 := Lib.hid (T12.out.mono hB13)
              have X13 := Lib.hid (X12.out.mono hB13)
              clear hb hB13 HD12 HT12 HTB12 HNA12 HW12 HF12 HU_k12 T12 T_0 T_1 T_2 T_3 T_4 T_5 T_6 T_7 T_8 T_l X12 X_0 X_1 X_2 X_l
              obtain ⟨T_0, T_1, T_2, T_3, T_4, T_5, T_6, T_7, T_8, T_l⟩ := T13.out.c9
              obtain ⟨X_0, X_1, X_2, X_l⟩ := X13.out.c3
              go_wp2_with fail
              go_roundw
              case rel =>
                first
                | exact ⟨k + 1, by omega, by go_num, HU_k13.out⟩
                | ((repeat apply Exists.intro)
                   refine ⟨⟨k + 1, by omega, ?_, HU_k13.out⟩, rfl⟩
                   go_num)
              case measure => simp [intOf]; omega
            · skip
              go_wp2_with fail
              refine (within_b _ 1 3 true _ HR.out).mono ?_
              rintro e w0 ⟨rfl, rfl⟩
              go_wp2_with fail
              refine ((by have := HWI.out _ HW12.out; rw [decide_eq_true hm] at this; exact this : Calls Tryz.prog 41 #[.slice A6 0 c6, .int .i64 (k : Int)] w12 fun e w' => e = .returned (.bool true) ∧ Below w12.heap.size w12 w')).mono ?_
              rintro e w13 ⟨rfl, hb⟩
              have hB13 : Below w12.heap.size w12 w13 := bTrans (Below.refl _ _) hb
              have HD13 := Lib.hid (bTrans HD12.out hB13)
              have HT13 := Lib.hid (HT12.out.mono hB13)
              have HTB13 := Lib.hid (HTB12.out.mono hB13)
              have HNA13 := Lib.hid (HNA12.out.mono hB13)
              have HW13 := Lib.hid (HW12.out.mono hB13)
              have HF13 := Lib.hid (HF12.out.mono hB13)
              have HU_k13 := Lib.hid (HU_k12.out.mono hB13)
              have T13 := Lib.hid (T12.out.mono hB13)
              have X13 := Lib.hid (X12.out.mono hB13)
              clear hb hB13 HD12 HT12 HTB12 HNA12 HW12 HF12 HU_k12 T12 T_0 T_1 T_2 T_3 T_4 T_5 T_6 T_7 T_8 T_l X12 X_0 X_1 X_2 X_l
              obtain ⟨T_0, T_1, T_2, T_3, T_4, T_5, T_6, T_7, T_8, T_l⟩ := T13.out.c9
              obtain ⟨X_0, X_1, X_2, X_l⟩ := X13.out.c3
              go_wp2_with fail
              go_roundw
              case rel =>
                first
                | exact ⟨k + 1, by omega, by go_num, HU_k13.out⟩
                | ((repeat apply Exists.intro)
                   refine ⟨⟨k + 1, by omega, ?_, HU_k13.out⟩, rfl⟩
                   go_num)
              case measure => simp [intOf]; omega
        have he_k : k = t.no := by omega
        have hk9 : ¬ (k : Int) < (t.no : Int) := by omega
        have hk8 : ¬ k < t.no := by omega
        clear he_k
        go_wp2_with fail
        refine (works9_any _ HTB10.out HNA10.out).mono ?_
        rintro e w11 ⟨rfl, hb⟩
        have hB11 : Below wr.heap.size wr w11 := bTrans (Below.refl _ _) hb
        have HD11 := Lib.hid (bTrans HD10.out hB11)
        have HT11 := Lib.hid (HT10.out.mono hB11)
        have HTB11 := Lib.hid (HTB10.out.mono hB11)
        have HNA11 := Lib.hid (HNA10.out.mono hB11)
        have HW11 := Lib.hid (HW10.out.mono hB11)
        have HF11 := Lib.hid (HF10.out.mono hB11)
        have HU_k11 := Lib.hid (HU_k10.out.mono hB11)
        have T11 := Lib.hid (T10.out.mono hB11)
        have X11 := Lib.hid (X10.out.mono hB11)
        clear hb hB11 HD10 HT10 HTB10 HNA10 HW10 HF10 HU_k10 T10 T_0 T_1 T_2 T_3 T_4 T_5 T_6 T_7 T_8 T_l X10 X_0 X_1 X_2 X_l
        obtain ⟨T_0, T_1, T_2, T_3, T_4, T_5, T_6, T_7, T_8, T_l⟩ := T11.out.c9
        obtain ⟨X_0, X_1, X_2, X_l⟩ := X11.out.c3
        go_wp2_with fail
        go_ret
        exact ⟨rfl, HD11.out⟩
    have e1 : ((z : Int) == 0) = false := by simp; exact h0
    have e2 : (z == 0) = false := by simp; exact h0
    rw [decide_eq_false h0] at HIN
    go_wp2_with fail
    refine (isKnown9_any 0 _).mono ?_
    rintro e w8 ⟨rfl, hb⟩
    have hB8 : Below w7.heap.size w7 w8 := bTrans (Below.refl _ _) hb
    have HD8 := Lib.hid (bTrans HD7.out hB8)
    have HT8 := Lib.hid (HT7.out.mono hB8)
    have HTB8 := Lib.hid (HTB7.out.mono hB8)
    have HNA8 := Lib.hid (HNA7.out.mono hB8)
    have HW8 := Lib.hid (HW7.out.mono hB8)
    have HF8 := Lib.hid (HF7.out.mono hB8)
    have T8 := Lib.hid (T7.out.mono hB8)
    have X8 := Lib.hid (X7.out.mono hB8)
    clear hb hB8 HD7 HT7 HTB7 HNA7 HW7 HF7 T7 T_0 T_1 T_2 T_3 T_4 T_5 T_6 T_7 T_8 T_l X7 X_0 X_1 X_2 X_l
    obtain ⟨T_0, T_1, T_2, T_3, T_4, T_5, T_6, T_7, T_8, T_l⟩ := T8.out.c9
    obtain ⟨X_0, X_1, X_2, X_l⟩ := X8.out.c3
    go_wp2_with fail
    refine (HIN.out _ HF8.out).mono ?_
    rintro e w9 ⟨rfl, hb⟩
    have hB9 : Below w8.heap.size w8 w9 := bTrans (Below.refl _ _) hb
    have HD9 := Lib.hid (bTrans HD8.out hB9)
    have HT9 := Lib.hid (HT8.out.mono hB9)
    have HTB9 := Lib.hid (HTB8.out.mono hB9)
    have HNA9 := Lib.hid (HNA8.out.mono hB9)
    have HW9 := Lib.hid (HW8.out.mono hB9)
    have HF9 := Lib.hid (HF8.out.mono hB9)
    have T9 := Lib.hid (T8.out.mono hB9)
    have X9 := Lib.hid (X8.out.mono hB9)
    clear hb hB9 HD8 HT8 HTB8 HNA8 HW8 HF8 T8 T_0 T_1 T_2 T_3 T_4 T_5 T_6 T_7 T_8 T_l X8 X_0 X_1 X_2 X_l
    obtain ⟨T_0, T_1, T_2, T_3, T_4, T_5, T_6, T_7, T_8, T_l⟩ := T9.out.c9
    obtain ⟨X_0, X_1, X_2, X_l⟩ := X9.out.c3
    go_wp2_with fail
    clear T_0 T_1 T_2 T_3 T_4 T_5 T_6 T_7 T_8 T_l X_0 X_1 X_2 X_l
    go_loopw [13] (fun s13 wr => ∃ k : Nat, k ≤ t.no ∧ s13 = .int .i64 (k : Int) ∧ Below w9.heap.size w9 wr) (fun s13 _ => t.no - (intOf s13).toNat)
    case atStart => exact ⟨0, Nat.zero_le _, rfl, Below.refl _ _⟩
    case round =>
      obtain ⟨k, hk_k, rfl, hb⟩ := hrel
      have HBk := Lib.hid hb
      have hB10 : Below w9.heap.size w9 wr := bTrans (Below.refl _ _) hb
      have HD10 := Lib.hid (bTrans HD9.out hB10)
      have HT10 := Lib.hid (HT9.out.mono hB10)
      have HTB10 := Lib.hid (HTB9.out.mono hB10)
      have HNA10 := Lib.hid (HNA9.out.mono hB10)
      have HW10 := Lib.hid (HW9.out.mono hB10)
      have HF10 := Lib.hid (HF9.out.mono hB10)
      have HU_k10 := Lib.hid ((show Upto w9 wr from HBk.out))
      have T10 := Lib.hid (T9.out.mono hB10)
      have X10 := Lib.hid (X9.out.mono hB10)
      clear hb hB10
      obtain ⟨T_0, T_1, T_2, T_3, T_4, T_5, T_6, T_7, T_8, T_l⟩ := T10.out.c9
      obtain ⟨X_0, X_1, X_2, X_l⟩ := X10.out.c3
      by_cases hlt_k : k < t.no
      case pos =>
        have h1_k : (k : Int) < (t.no : Int) := by omega
        have h0_k : (0 : Int) ≤ (k : Int) := by omega
        have hb_k : k < 100 := by omega
        have HKM := Lib.hid (show k < t.m by rw [Pt.m_no HOK.out]; exact hlt_k)
        have HKW := Lib.hid (show (k : Int) < t.q.wells by have := HOK.out.no; omega)
        have HV := Lib.hid (show t.oldB (k : Int) = true from by rw [show t.oldB (k : Int) = t.q.wellB (k : Int) from rfl]; exact wellB_in HOK.out.q HKW.out)
        have HFO := Lib.hid (show t.forbidsOut (i : Int) (k : Int) = (knownK (t.inN i k) t.q.leftL.length, 0) by unfold Pt.forbidsOut; rw [hasB_in HI.out, HV.out, show (true && true) = true from rfl, Pt.knowErr_ok HOK.out HNE.out, if_pos rfl, Int.toNat_natCast, Int.toNat_natCast])
        have hlaw := each_law (s := i) HWJ.out HKM.out
        have hkk := knownK_in (t.inN i k) t.q.leftL.length
        obtain ⟨kk, hk⟩ : ∃ y, knownK (t.inN i k : Int) (t.q.leftL.length : Int) = y := ⟨_, rfl⟩
        rw [hk] at hlaw HFO hkk
        have HR := Lib.hid (show inR kk 1 3 = true from inR_t hkk)
        obtain ⟨fb, hfb⟩ : ∃ b, t.forb i k (j : Int) = b := ⟨_, rfl⟩
        rw [hfb] at hlaw
        have HFB := Lib.hid hfb
        have HWI := Lib.hid (fun (w' : World) (hI : IntsAt w' A6 z (intL0 (t.who i))) => (by have := in1_any A6 z c6 (intL0 (t.who i)) (k : Int) w' (by omega) hI; rw [← HZ.out, mem_anyB] at this; rw [← HZ.out]; exact this : Calls Tryz.prog 41 #[.slice A6 z c6, .int .i64 (k : Int)] w' fun e w'' => e = .returned (.bool (decide ((k : Int) ∈ t.who i))) ∧ Below w'.heap.size w' w''))
        clear hk hfb hkk
        go_wp2_with fail
        refine ((by have := forbidsOutP_any Aw Af Ao Ap As cw cf co cp cs t (i : Int) (k : Int) wr HSM.out HT10.out HTB10.out; rw [HFO.out] at this; exact this : Calls Tryz.prog 28 #[.agg #[.int .i64 t.q.wells, .slice Aw t.q.nw cw, .slice Af t.q.nf cf, .slice Ao t.no co, .slice Ap t.np cp, .slice As t.ns cs, .int .i64 t.far, .int .i64 t.harm, .int .i64 t.many], .int .i64 (i : Int), .int .i64 (k : Int)] wr fun e w' => e = .returned (.tuple #[.int .i64 kk, .int .i64 0]) ∧ Below wr.heap.size wr w')).mono ?_
        rintro e w11 ⟨rfl, hb⟩
        have hB11 : Below wr.heap.size wr w11 := bTrans (Below.refl _ _) hb
        have HD11 := Lib.hid (bTrans HD10.out hB11)
        have HT11 := Lib.hid (HT10.out.mono hB11)
        have HTB11 := Lib.hid (HTB10.out.mono hB11)
        have HNA11 := Lib.hid (HNA10.out.mono hB11)
        have HW11 := Lib.hid (HW10.out.mono hB11)
        have HF11 := Lib.hid (HF10.out.mono hB11)
        have HU_k11 := Lib.hid (HU_k10.out.mono hB11)
        have T11 := Lib.hid (T10.out.mono hB11)
        have X11 := Lib.hid (X10.out.mono hB11)
        clear hb hB11 HD10 HT10 HTB10 HNA10 HW10 HF10 HU_k10 T10 T_0 T_1 T_2 T_3 T_4 T_5 T_6 T_7 T_8 T_l X10 X_0 X_1 X_2 X_l
        obtain ⟨T_0, T_1, T_2, T_3, T_4, T_5, T_6, T_7, T_8, T_l⟩ := T11.out.c9
        obtain ⟨X_0, X_1, X_2, X_l⟩ := X11.out.c3
        go_wp2_with fail
        refine (HFB.out ▸ isForb9_any Aw Af Ao Ap As cw cf co cp cs t j i k _ HOK.out HT11.out HI.out HKW.out HJ.out).mono ?_
        rintro e w12 ⟨rfl, hb⟩
        have hB12 : Below w11.heap.size w11 w12 := bTrans (Below.refl _ _) hb
        have HD12 := Lib.hid (bTrans HD11.out hB12)
        have HT12 := Lib.hid (HT11.out.mono hB12)
        have HTB12 := Lib.hid (HTB11.out.mono hB12)
        have HNA12 := Lib.hid (HNA11.out.mono hB12)
        have HW12 := Lib.hid (HW11.out.mono hB12)
        have HF12 := Lib.hid (HF11.out.mono hB12)
        have HU_k12 := Lib.hid (HU_k11.out.mono hB12)
        have T12 := Lib.hid (T11.out.mono hB12)
        have X12 := Lib.hid (X11.out.mono hB12)
        clear hb hB12 HD11 HT11 HTB11 HNA11 HW11 HF11 HU_k11 T11 T_0 T_1 T_2 T_3 T_4 T_5 T_6 T_7 T_8 T_l X11 X_0 X_1 X_2 X_l
        obtain ⟨T_0, T_1, T_2, T_3, T_4, T_5, T_6, T_7, T_8, T_l⟩ := T12.out.c9
        obtain ⟨X_0, X_1, X_2, X_l⟩ := X12.out.c3
        rcases hlaw with ⟨rfl, rfl, hm⟩ | ⟨rfl, rfl, hm⟩ | ⟨rfl, hm⟩
        · skip
          go_wp2_with fail
          refine (within_b _ 1 3 true _ HR.out).mono ?_
          rintro e w0 ⟨rfl, rfl⟩
          go_wp2_with fail
          refine ((by have := HWI.out _ HW12.out; rw [decide_eq_true hm] at this; exact this : Calls Tryz.prog 41 #[.slice A6 z c6, .int .i64 (k : Int)] w12 fun e w' => e = .returned (.bool true) ∧ Below w12.heap.size w12 w')).mono ?_
          rintro e w13 ⟨rfl, hb⟩
          have hB13 : Below w12.heap.size w12 w13 := bTrans (Below.refl _ _) hb
          have HD13 := Lib.hid (bTrans HD12.out hB13)
          have HT13 := Lib.hid (HT12.out.mono hB13)
          have HTB13 := Lib.hid (HTB12.out.mono hB13)
          have HNA13 := Lib.hid (HNA12.out.mono hB13)
          have HW13 := Lib.hid (HW12.out.mono hB13)
          have HF13 := Lib.hid (HF12.out.mono hB13)
          have HU_k13 := Lib.hid (HU_k12.out.mono hB13)
          have T13 := Lib.hid (T12.out.mono hB13)
          have X13 := Lib.hid (X12.out.mono hB13)
          clear hb hB13 HD12 HT12 HTB12 HNA12 HW12 HF12 HU_k12 T12 T_0 T_1 T_2 T_3 T_4 T_5 T_6 T_7 T_8 T_l X12 X_0 X_1 X_2 X_l
          obtain ⟨T_0, T_1, T_2, T_3, T_4, T_5, T_6, T_7, T_8, T_l⟩ := T13.out.c9
          obtain ⟨X_0, X_1, X_2, X_l⟩ := X13.out.c3
          go_wp2_with fail
          go_roundw
          case rel =>
            first
            | exact ⟨k + 1, by omega, by go_num, HU_k13.out⟩
            | ((repeat apply Exists.intro)
               refine ⟨⟨k + 1, by omega, ?_, HU_k13.out⟩, rfl⟩
               go_num)
          case measure => simp [intOf]; omega
        · skip
          go_wp2_with fail
          refine (within_b _ 1 3 true _ HR.out).mono ?_
          rintro e w0 ⟨rfl, rfl⟩
          go_wp2_with fail
          refine ((by have := HWI.out _ HW12.out; rw [decide_eq_false hm] at this; exact this : Calls Tryz.prog 41 #[.slice A6 z c6, .int .i64 (k : Int)] w12 fun e w' => e = .returned (.bool false) ∧ Below w12.heap.size w12 w')).mono ?_
          rintro e w13 ⟨rfl, hb⟩
          have hB13 : Below w12.heap.size w12 w13 := bTrans (Below.refl _ _) hb
          have HD13 := Lib.hid (bTrans HD12.out hB13)
          have HT13 := Lib.hid (HT12.out.mono hB13)
          have HTB13 := Lib.hid (HTB12.out.mono hB13)
          have HNA13 := Lib.hid (HNA12.out.mono hB13)
          have HW13 := Lib.hid (HW12.out.mono hB13)
          have HF13 := Lib.hid (HF12.out.mono hB13)
          have HU_k13 := Lib.hid (HU_k12.out.mono hB13)
          have T13 := Lib.hid (T12.out.mono hB13)
          have X13 := Lib.hid (X12.out.mono hB13)
          clear hb hB13 HD12 HT12 HTB12 HNA12 HW12 HF12 HU_k12 T12 T_0 T_1 T_2 T_3 T_4 T_5 T_6 T_7 T_8 T_l X12 X_0 X_1 X_2 X_l
          obtain ⟨T_0, T_1, T_2, T_3, T_4, T_5, T_6, T_7, T_8, T_l⟩ := T13.out.c9
          obtain ⟨X_0, X_1, X_2, X_l⟩ := X13.out.c3
          go_wp2_with fail
          go_roundw
          case rel =>
            first
            | exact ⟨k + 1, by omega, by go_num, HU_k13.out⟩
            | ((repeat apply Exists.intro)
               refine ⟨⟨k + 1, by omega, ?_, HU_k13.out⟩, rfl⟩
               go_num)
          case measure => simp [intOf]; omega
        · skip
          cases fb
          · skip
            go_wp2_with fail
            refine (within_b _ 1 3 true _ HR.out).mono ?_
            rintro e w0 ⟨rfl, rfl⟩
            go_wp2_with fail
            refine ((by have := HWI.out _ HW12.out; rw [decide_eq_true hm] at this; exact this : Calls Tryz.prog 41 #[.slice A6 z c6, .int .i64 (k : Int)] w12 fun e w' => e = .returned (.bool true) ∧ Below w12.heap.size w12 w')).mono ?_
            rintro e w13 ⟨rfl, hb⟩
            have hB13 : Below w12.heap.size w12 w13 := bTrans (Below.refl _ _) hb
            have HD13 := Lib.hid (bTrans HD12.out hB13)
            have HT13 := Lib.hid (HT12.out.mono hB13)
            have HTB13 := Lib.hid (HTB12.out.mono hB13)
            have HNA13 := Lib.hid (HNA12.out.mono hB13)
            have HW13 := Lib.hid (HW12.out.mono hB13)
            have HF13 := Lib.hid (HF12.out.mono hB13)
            have HU_k13 := Lib.hid (HU_k12.out.mono hB13)
            have T13 := Lib.hid (T12.out.mono hB13)
            have X13 := Lib.hid (X12.out.mono hB13)
            clear hb hB13 HD12 HT12 HTB12 HNA12 HW12 HF12 HU_k12 T12 T_0 T_1 T_2 T_3 T_4 T_5 T_6 T_7 T_8 T_l X12 X_0 X_1 X_2 X_l
            obtain ⟨T_0, T_1, T_2, T_3, T_4, T_5, T_6, T_7, T_8, T_l⟩ := T13.out.c9
            obtain ⟨X_0, X_1, X_2, X_l⟩ := X13.out.c3
            go_wp2_with fail
            go_roundw
            case rel =>
              first
              | exact ⟨k + 1, by omega, by go_num, HU_k13.out⟩
              | ((repeat apply Exists.intro)
                 refine ⟨⟨k + 1, by omega, ?_, HU_k13.out⟩, rfl⟩
                 go_num)
            case measure => simp [intOf]; omega
          · skip
            go_wp2_with fail
            refine (within_b _ 1 3 true _ HR.out).mono ?_
            rintro e w0 ⟨rfl, rfl⟩
            go_wp2_with fail
            refine ((by have := HWI.out _ HW12.out; rw [decide_eq_true hm] at this; exact this : Calls Tryz.prog 41 #[.slice A6 z c6, .int .i64 (k : Int)] w12 fun e w' => e = .returned (.bool true) ∧ Below w12.heap.size w12 w')).mono ?_
            rintro e w13 ⟨rfl, hb⟩
            have hB13 : Below w12.heap.size w12 w13 := bTrans (Below.refl _ _) hb
            have HD13 := Lib.hid (bTrans HD12.out hB13)
            have HT13 := Lib.hid (HT12.out.mono hB13)
            have HTB13 := Lib.hid (HTB12.out.mono hB13)
            have HNA13 := Lib.hid (HNA12.out.mono hB13)
            have HW13 := Lib.hid (HW12.out.mono hB13)
            have HF13 := Lib.hid (HF12.out.mono hB13)
            have HU_k13 := Lib.hid (HU_k12.out.mono hB13)
            have T13 := Lib.hid (T12.out.mono hB13)
            have X13 := Lib.hid (X12.out.mono hB13)
            clear hb hB13 HD12 HT12 HTB12 HNA12 HW12 HF12 HU_k12 T12 T_0 T_1 T_2 T_3 T_4 T_5 T_6 T_7 T_8 T_l X12 X_0 X_1 X_2 X_l
            obtain ⟨T_0, T_1, T_2, T_3, T_4, T_5, T_6, T_7, T_8, T_l⟩ := T13.out.c9
            obtain ⟨X_0, X_1, X_2, X_l⟩ := X13.out.c3
            go_wp2_with fail
            go_roundw
            case rel =>
              first
              | exact ⟨k + 1, by omega, by go_num, HU_k13.out⟩
              | ((repeat apply Exists.intro)
                 refine ⟨⟨k + 1, by omega, ?_, HU_k13.out⟩, rfl⟩
                 go_num)
            case measure => simp [intOf]; omega
      have he_k : k = t.no := by omega
      have hk9 : ¬ (k : Int) < (t.no : Int) := by omega
      have hk8 : ¬ k < t.no := by omega
      clear he_k
      go_wp2_with fail
      refine (works9_any _ HTB10.out HNA10.out).mono ?_
      rintro e w11 ⟨rfl, hb⟩
      have hB11 : Below wr.heap.size wr w11 := bTrans (Below.refl _ _) hb
      have HD11 := Lib.hid (bTrans HD10.out hB11)
      have HT11 := Lib.hid (HT10.out.mono hB11)
      have HTB11 := Lib.hid (HTB10.out.mono hB11)
      have HNA11 := Lib.hid (HNA10.out.mono hB11)
      have HW11 := Lib.hid (HW10.out.mono hB11)
      have HF11 := Lib.hid (HF10.out.mono hB11)
      have HU_k11 := Lib.hid (HU_k10.out.mono hB11)
      have T11 := Lib.hid (T10.out.mono hB11)
      have X11 := Lib.hid (X10.out.mono hB11)
      clear hb hB11 HD10 HT10 HTB10 HNA10 HW10 HF10 HU_k10 T10 T_0 T_1 T_2 T_3 T_4 T_5 T_6 T_7 T_8 T_l X10 X_0 X_1 X_2 X_l
      obtain ⟨T_0, T_1, T_2, T_3, T_4, T_5, T_6, T_7, T_8, T_l⟩ := T11.out.c9
      obtain ⟨X_0, X_1, X_2, X_l⟩ := X11.out.c3
      go_wp2_with fail
      go_ret
      exact ⟨rfl, HD11.out⟩
  · skip
    go_wp2_with fail
    refine (isKnown9_any 3 _).mono ?_
    rintro e w8 ⟨rfl, hb⟩
    have hB8 : Below w7.heap.size w7 w8 := bTrans (Below.refl _ _) hb
    have HD8 := Lib.hid (bTrans HD7.out hB8)
    have HT8 := Lib.hid (HT7.out.mono hB8)
    have HTB8 := Lib.hid (HTB7.out.mono hB8)
    have HNA8 := Lib.hid (HNA7.out.mono hB8)
    have HW8 := Lib.hid (HW7.out.mono hB8)
    have HF8 := Lib.hid (HF7.out.mono hB8)
    have T8 := Lib.hid (T7.out.mono hB8)
    have X8 := Lib.hid (X7.out.mono hB8)
    clear hb hB8 HD7 HT7 HTB7 HNA7 HW7 HF7 T7 T_0 T_1 T_2 T_3 T_4 T_5 T_6 T_7 T_8 T_l X7 X_0 X_1 X_2 X_l
    obtain ⟨T_0, T_1, T_2, T_3, T_4, T_5, T_6, T_7, T_8, T_l⟩ := T8.out.c9
    obtain ⟨X_0, X_1, X_2, X_l⟩ := X8.out.c3
    go_wp2_with fail
    refine (HIN.out _ HF8.out).mono ?_
    rintro e w9 ⟨rfl, hb⟩
    have hB9 : Below w8.heap.size w8 w9 := bTrans (Below.refl _ _) hb
    have HD9 := Lib.hid (bTrans HD8.out hB9)
    have HT9 := Lib.hid (HT8.out.mono hB9)
    have HTB9 := Lib.hid (HTB8.out.mono hB9)
    have HNA9 := Lib.hid (HNA8.out.mono hB9)
    have HW9 := Lib.hid (HW8.out.mono hB9)
    have HF9 := Lib.hid (HF8.out.mono hB9)
    have T9 := Lib.hid (T8.out.mono hB9)
    have X9 := Lib.hid (X8.out.mono hB9)
    clear hb hB9 HD8 HT8 HTB8 HNA8 HW8 HF8 T8 T_0 T_1 T_2 T_3 T_4 T_5 T_6 T_7 T_8 T_l X8 X_0 X_1 X_2 X_l
    obtain ⟨T_0, T_1, T_2, T_3, T_4, T_5, T_6, T_7, T_8, T_l⟩ := T9.out.c9
    obtain ⟨X_0, X_1, X_2, X_l⟩ := X9.out.c3
    go_wp2_with fail
    clear T_0 T_1 T_2 T_3 T_4 T_5 T_6 T_7 T_8 T_l X_0 X_1 X_2 X_l
    go_loopw [13] (fun s13 wr => ∃ k : Nat, k ≤ t.no ∧ s13 = .int .i64 (k : Int) ∧ Below w9.heap.size w9 wr) (fun s13 _ => t.no - (intOf s13).toNat)
    case atStart => exact ⟨0, Nat.zero_le _, rfl, Below.refl _ _⟩
    case round =>
      obtain ⟨k, hk_k, rfl, hb⟩ := hrel
      have HBk := Lib.hid hb
      have hB10 : Below w9.heap.size w9 wr := bTrans (Below.refl _ _) hb
      have HD10 := Lib.hid (bTrans HD9.out hB10)
      have HT10 := Lib.hid (HT9.out.mono hB10)
      have HTB10 := Lib.hid (HTB9.out.mono hB10)
      have HNA10 := Lib.hid (HNA9.out.mono hB10)
      have HW10 := Lib.hid (HW9.out.mono hB10)
      have HF10 := Lib.hid (HF9.out.mono hB10)
      have HU_k10 := Lib.hid ((show Upto w9 wr from HBk.out))
      have T10 := Lib.hid (T9.out.mono hB10)
      have X10 := Lib.hid (X9.out.mono hB10)
      clear hb hB10
      obtain ⟨T_0, T_1, T_2, T_3, T_4, T_5, T_6, T_7, T_8, T_l⟩ := T10.out.c9
      obtain ⟨X_0, X_1, X_2, X_l⟩ := X10.out.c3
      by_cases hlt_k : k < t.no
      case pos =>
        have h1_k : (k : Int) < (t.no : Int) := by omega
        have h0_k : (0 : Int) ≤ (k : Int) := by omega
        have hb_k : k < 100 := by omega
        have HKM := Lib.hid (show k < t.m by rw [Pt.m_no HOK.out]; exact hlt_k)
        have HKW := Lib.hid (show (k : Int) < t.q.wells by have := HOK.out.no; omega)
        have HV := Lib.hid (show t.oldB (k : Int) = true from by rw [show t.oldB (k : Int) = t.q.wellB (k : Int) from rfl]; exact wellB_in HOK.out.q HKW.out)
        have HFO := Lib.hid (show t.forbidsOut (i : Int) (k : Int) = (knownK (t.inN i k) t.q.leftL.length, 0) by unfold Pt.forbidsOut; rw [hasB_in HI.out, HV.out, show (true && true) = true from rfl, Pt.knowErr_ok HOK.out HNE.out, if_pos rfl, Int.toNat_natCast, Int.toNat_natCast])
        have hlaw := each_law (s := i) HWJ.out HKM.out
        have hkk := knownK_in (t.inN i k) t.q.leftL.length
        obtain ⟨kk, hk⟩ : ∃ y, knownK (t.inN i k : Int) (t.q.leftL.length : Int) = y := ⟨_, rfl⟩
        rw [hk] at hlaw HFO hkk
        have HR := Lib.hid (show inR kk 1 3 = true from inR_t hkk)
        obtain ⟨fb, hfb⟩ : ∃ b, t.forb i k (j : Int) = b := ⟨_, rfl⟩
        rw [hfb] at hlaw
        have HFB := Lib.hid hfb
        have HWI := Lib.hid (fun (w' : World) (hI : IntsAt w' A6 z (intL0 (t.who i))) => (by have := in1_any A6 z c6 (intL0 (t.who i)) (k : Int) w' (by omega) hI; rw [← HZ.out, mem_anyB] at this; rw [← HZ.out]; exact this : Calls Tryz.prog 41 #[.slice A6 z c6, .int .i64 (k : Int)] w' fun e w'' => e = .returned (.bool (decide ((k : Int) ∈ t.who i))) ∧ Below w'.heap.size w' w''))
        clear hk hfb hkk
        go_wp2_with fail
        refine ((by have := forbidsOutP_any Aw Af Ao Ap As cw cf co cp cs t (i : Int) (k : Int) wr HSM.out HT10.out HTB10.out; rw [HFO.out] at this; exact this : Calls Tryz.prog 28 #[.agg #[.int .i64 t.q.wells, .slice Aw t.q.nw cw, .slice Af t.q.nf cf, .slice Ao t.no co, .slice Ap t.np cp, .slice As t.ns cs, .int .i64 t.far, .int .i64 t.harm, .int .i64 t.many], .int .i64 (i : Int), .int .i64 (k : Int)] wr fun e w' => e = .returned (.tuple #[.int .i64 kk, .int .i64 0]) ∧ Below wr.heap.size wr w')).mono ?_
        rintro e w11 ⟨rfl, hb⟩
        have hB11 : Below wr.heap.size wr w11 := bTrans (Below.refl _ _) hb
        have HD11 := Lib.hid (bTrans HD10.out hB11)
        have HT11 := Lib.hid (HT10.out.mono hB11)
        have HTB11 := Lib.hid (HTB10.out.mono hB11)
        have HNA11 := Lib.hid (HNA10.out.mono hB11)
        have HW11 := Lib.hid (HW10.out.mono hB11)
        have HF11 := Lib.hid (HF10.out.mono hB11)
        have HU_k11 := Lib.hid (HU_k10.out.mono hB11)
        have T11 := Lib.hid (T10.out.mono hB11)
        have X11 := Lib.hid (X10.out.mono hB11)
        clear hb hB11 HD10 HT10 HTB10 HNA10 HW10 HF10 HU_k10 T10 T_0 T_1 T_2 T_3 T_4 T_5 T_6 T_7 T_8 T_l X10 X_0 X_1 X_2 X_l
        obtain ⟨T_0, T_1, T_2, T_3, T_4, T_5, T_6, T_7, T_8, T_l⟩ := T11.out.c9
        obtain ⟨X_0, X_1, X_2, X_l⟩ := X11.out.c3
        go_wp2_with fail
        refine (HFB.out ▸ isForb9_any Aw Af Ao Ap As cw cf co cp cs t j i k _ HOK.out HT11.out HI.out HKW.out HJ.out).mono ?_
        rintro e w12 ⟨rfl, hb⟩
        have hB12 : Below w11.heap.size w11 w12 := bTrans (Below.refl _ _) hb
        have HD12 := Lib.hid (bTrans HD11.out hB12)
        have HT12 := Lib.hid (HT11.out.mono hB12)
        have HTB12 := Lib.hid (HTB11.out.mono hB12)
        have HNA12 := Lib.hid (HNA11.out.mono hB12)
        have HW12 := Lib.hid (HW11.out.mono hB12)
        have HF12 := Lib.hid (HF11.out.mono hB12)
        have HU_k12 := Lib.hid (HU_k11.out.mono hB12)
        have T12 := Lib.hid (T11.out.mono hB12)
        have X12 := Lib.hid (X11.out.mono hB12)
        clear hb hB12 HD11 HT11 HTB11 HNA11 HW11 HF11 HU_k11 T11 T_0 T_1 T_2 T_3 T_4 T_5 T_6 T_7 T_8 T_l X11 X_0 X_1 X_2 X_l
        obtain ⟨T_0, T_1, T_2, T_3, T_4, T_5, T_6, T_7, T_8, T_l⟩ := T12.out.c9
        obtain ⟨X_0, X_1, X_2, X_l⟩ := X12.out.c3
        rcases hlaw with ⟨rfl, rfl, hm⟩ | ⟨rfl, rfl, hm⟩ | ⟨rfl, hm⟩
        · skip
          go_wp2_with fail
          refine (within_b _ 1 3 true _ HR.out).mono ?_
          rintro e w0 ⟨rfl, rfl⟩
          go_wp2_with fail
          refine ((by have := HWI.out _ HW12.out; rw [decide_eq_true hm] at this; exact this : Calls Tryz.prog 41 #[.slice A6 z c6, .int .i64 (k : Int)] w12 fun e w' => e = .returned (.bool true) ∧ Below w12.heap.size w12 w')).mono ?_
          rintro e w13 ⟨rfl, hb⟩
          have hB13 : Below w12.heap.size w12 w13 := bTrans (Below.refl _ _) hb
          have HD13 := Lib.hid (bTrans HD12.out hB13)
          have HT13 := Lib.hid (HT12.out.mono hB13)
          have HTB13 := Lib.hid (HTB12.out.mono hB13)
          have HNA13 := Lib.hid (HNA12.out.mono hB13)
          have HW13 := Lib.hid (HW12.out.mono hB13)
          have HF13 := Lib.hid (HF12.out.mono hB13)
          have HU_k13 := Lib.hid (HU_k12.out.mono hB13)
          have T13 := Lib.hid (T12.out.mono hB13)
          have X13 := Lib.hid (X12.out.mono hB13)
          clear hb hB13 HD12 HT12 HTB12 HNA12 HW12 HF12 HU_k12 T12 T_0 T_1 T_2 T_3 T_4 T_5 T_6 T_7 T_8 T_l X12 X_0 X_1 X_2 X_l
          obtain ⟨T_0, T_1, T_2, T_3, T_4, T_5, T_6, T_7, T_8, T_l⟩ := T13.out.c9
          obtain ⟨X_0, X_1, X_2, X_l⟩ := X13.out.c3
          go_wp2_with fail
          go_roundw
          case rel =>
            first
            | exact ⟨k + 1, by omega, by go_num, HU_k13.out⟩
            | ((repeat apply Exists.intro)
               refine ⟨⟨k + 1, by omega, ?_, HU_k13.out⟩, rfl⟩
               go_num)
          case measure => simp [intOf]; omega
        · skip
          go_wp2_with fail
          refine (within_b _ 1 3 true _ HR.out).mono ?_
          rintro e w0 ⟨rfl, rfl⟩
          go_wp2_with fail
          refine ((by have := HWI.out _ HW12.out; rw [decide_eq_false hm] at this; exact this : Calls Tryz.prog 41 #[.slice A6 z c6, .int .i64 (k : Int)] w12 fun e w' => e = .returned (.bool false) ∧ Below w12.heap.size w12 w')).mono ?_
          rintro e w13 ⟨rfl, hb⟩
          have hB13 : Below w12.heap.size w12 w13 := bTrans (Below.refl _ _) hb
          have HD13 := Lib.hid (bTrans HD12.out hB13)
          have HT13 := Lib.hid (HT12.out.mono hB13)
          have HTB13 := Lib.hid (HTB12.out.mono hB13)
          have HNA13 := Lib.hid (HNA12.out.mono hB13)
          have HW13 := Lib.hid (HW12.out.mono hB13)
          have HF13 := Lib.hid (HF12.out.mono hB13)
          have HU_k13 := Lib.hid (HU_k12.out.mono hB13)
          have T13 := Lib.hid (T12.out.mono hB13)
          have X13 := Lib.hid (X12.out.mono hB13)
          clear hb hB13 HD12 HT12 HTB12 HNA12 HW12 HF12 HU_k12 T12 T_0 T_1 T_2 T_3 T_4 T_5 T_6 T_7 T_8 T_l X12 X_0 X_1 X_2 X_l
          obtain ⟨T_0, T_1, T_2, T_3, T_4, T_5, T_6, T_7, T_8, T_l⟩ := T13.out.c9
          obtain ⟨X_0, X_1, X_2, X_l⟩ := X13.out.c3
          go_wp2_with fail
          go_roundw
          case rel =>
            first
            | exact ⟨k + 1, by omega, by go_num, HU_k13.out⟩
            | ((repeat apply Exists.intro)
               refine ⟨⟨k + 1, by omega, ?_, HU_k13.out⟩, rfl⟩
               go_num)
          case measure => simp [intOf]; omega
        · skip
          cases fb
          · skip
            go_wp2_with fail
            refine (within_b _ 1 3 true _ HR.out).mono ?_
            rintro e w0 ⟨rfl, rfl⟩
            go_wp2_with fail
            refine ((by have := HWI.out _ HW12.out; rw [decide_eq_true hm] at this; exact this : Calls Tryz.prog 41 #[.slice A6 z c6, .int .i64 (k : Int)] w12 fun e w' => e = .returned (.bool true) ∧ Below w12.heap.size w12 w')).mono ?_
            rintro e w13 ⟨rfl, hb⟩
            have hB13 : Below w12.heap.size w12 w13 := bTrans (Below.refl _ _) hb
            have HD13 := Lib.hid (bTrans HD12.out hB13)
            have HT13 := Lib.hid (HT12.out.mono hB13)
            have HTB13 := Lib.hid (HTB12.out.mono hB13)
            have HNA13 := Lib.hid (HNA12.out.mono hB13)
            have HW13 := Lib.hid (HW12.out.mono hB13)
            have HF13 := Lib.hid (HF12.out.mono hB13)
            have HU_k13 := Lib.hid (HU_k12.out.mono hB13)
            have T13 := Lib.hid (T12.out.mono hB13)
            have X13 := Lib.hid (X12.out.mono hB13)
            clear hb hB13 HD12 HT12 HTB12 HNA12 HW12 HF12 HU_k12 T12 T_0 T_1 T_2 T_3 T_4 T_5 T_6 T_7 T_8 T_l X12 X_0 X_1 X_2 X_l
            obtain ⟨T_0, T_1, T_2, T_3, T_4, T_5, T_6, T_7, T_8, T_l⟩ := T13.out.c9
            obtain ⟨X_0, X_1, X_2, X_l⟩ := X13.out.c3
            go_wp2_with fail
            go_roundw
            case rel =>
              first
              | exact ⟨k + 1, by omega, by go_num, HU_k13.out⟩
              | ((repeat apply Exists.intro)
                 refine ⟨⟨k + 1, by omega, ?_, HU_k13.out⟩, rfl⟩
                 go_num)
            case measure => simp [intOf]; omega
          · skip
            go_wp2_with fail
            refine (within_b _ 1 3 true _ HR.out).mono ?_
            rintro e w0 ⟨rfl, rfl⟩
            go_wp2_with fail
            refine ((by have := HWI.out _ HW12.out; rw [decide_eq_true hm] at this; exact this : Calls Tryz.prog 41 #[.slice A6 z c6, .int .i64 (k : Int)] w12 fun e w' => e = .returned (.bool true) ∧ Below w12.heap.size w12 w')).mono ?_
            rintro e w13 ⟨rfl, hb⟩
            have hB13 : Below w12.heap.size w12 w13 := bTrans (Below.refl _ _) hb
            have HD13 := Lib.hid (bTrans HD12.out hB13)
            have HT13 := Lib.hid (HT12.out.mono hB13)
            have HTB13 := Lib.hid (HTB12.out.mono hB13)
            have HNA13 := Lib.hid (HNA12.out.mono hB13)
            have HW13 := Lib.hid (HW12.out.mono hB13)
            have HF13 := Lib.hid (HF12.out.mono hB13)
            have HU_k13 := Lib.hid (HU_k12.out.mono hB13)
            have T13 := Lib.hid (T12.out.mono hB13)
            have X13 := Lib.hid (X12.out.mono hB13)
            clear hb hB13 HD12 HT12 HTB12 HNA12 HW12 HF12 HU_k12 T12 T_0 T_1 T_2 T_3 T_4 T_5 T_6 T_7 T_8 T_l X12 X_0 X_1 X_2 X_l
            obtain ⟨T_0, T_1, T_2, T_3, T_4, T_5, T_6, T_7, T_8, T_l⟩ := T13.out.c9
            obtain ⟨X_0, X_1, X_2, X_l⟩ := X13.out.c3
            go_wp2_with fail
            go_roundw
            case rel =>
              first
              | exact ⟨k + 1, by omega, by go_num, HU_k13.out⟩
              | ((repeat apply Exists.intro)
                 refine ⟨⟨k + 1, by omega, ?_, HU_k13.out⟩, rfl⟩
                 go_num)
            case measure => simp [intOf]; omega
      have he_k : k = t.no := by omega
      have hk9 : ¬ (k : Int) < (t.no : Int) := by omega
      have hk8 : ¬ k < t.no := by omega
      clear he_k
      go_wp2_with fail
      refine (works9_any _ HTB10.out HNA10.out).mono ?_
      rintro e w11 ⟨rfl, hb⟩
      have hB11 : Below wr.heap.size wr w11 := bTrans (Below.refl _ _) hb
      have HD11 := Lib.hid (bTrans HD10.out hB11)
      have HT11 := Lib.hid (HT10.out.mono hB11)
      have HTB11 := Lib.hid (HTB10.out.mono hB11)
      have HNA11 := Lib.hid (HNA10.out.mono hB11)
      have HW11 := Lib.hid (HW10.out.mono hB11)
      have HF11 := Lib.hid (HF10.out.mono hB11)
      have HU_k11 := Lib.hid (HU_k10.out.mono hB11)
      have T11 := Lib.hid (T10.out.mono hB11)
      have X11 := Lib.hid (X10.out.mono hB11)
      clear hb hB11 HD10 HT10 HTB10 HNA10 HW10 HF10 HU_k10 T10 T_0 T_1 T_2 T_3 T_4 T_5 T_6 T_7 T_8 T_l X10 X_0 X_1 X_2 X_l
      obtain ⟨T_0, T_1, T_2, T_3, T_4, T_5, T_6, T_7, T_8, T_l⟩ := T11.out.c9
      obtain ⟨X_0, X_1, X_2, X_l⟩ := X11.out.c3
      go_wp2_with fail
      go_ret
      exact ⟨rfl, HD11.out⟩
end Go.Proofs.YtjpfdhhiofjpbaaGreatDoor
