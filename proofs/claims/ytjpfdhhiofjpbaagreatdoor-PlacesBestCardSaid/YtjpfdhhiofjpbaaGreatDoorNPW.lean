/- Parts joined. -/
import Derived.Test.YtjpfdhhiofjpbaaGreatDoorNPV
set_option linter.unusedSimpArgs false
set_option linter.unusedVariables false
/- The statement PlacesBest: the walk. Conditions: lengths are Go's; the listed tables hold what they hold. -/
namespace Go.Proofs.YtjpfdhhiofjpbaaGreatDoor
open Go.RowKit Go.Sort
theorem whole_free {t : Pt} {s : Nat} (h : t.freeB s = true) : t.whole s = (t.cheap s).1 := by
  unfold Pt.freeB at h
  rw [Bool.and_eq_true, Bool.not_eq_true'] at h
  have hw := whoAny_iff.1 h.2
  unfold Pt.whole
  rw [askedTo_none t.m fun w hw' => by
    cases e : t.whoB s w
    · rfl
    · have := (mem_who (s := s) hw').2 e
      rw [hw] at this
      cases this]
  omega
theorem cheapV_le_bestV {t : Pt} (ok : t.Ok) : t.cheapV ≤ t.bestV :=
  valOf_le (Nat.le_refl t.ns) (fun i hi h => ⟨freeB_can h, by rw [whole_free h]; exact Int.le_refl _⟩) (fun i hi _ => by have := whole_bd ok hi; omega)
theorem bestV_le {t : Pt} {s : Nat} (hs : s < t.ns) (h : t.freeB s = true) : t.bestV ≤ (t.cheap s).1 := by
  unfold Pt.bestV Pt.best
  rcases minBy_spec (fun s => (t.cheap s).1) t.freeB t.ns with ⟨_, hn⟩ | ⟨b, hb, _, _, hm⟩
  · rw [hn s hs] at h; cases h
  · rw [hb]; exact hm s hs h
theorem cheapV_le {t : Pt} {s : Nat} (hs : s < t.ns) (h : t.canB s = true) : t.cheapV ≤ t.whole s := by
  unfold Pt.cheapV Pt.cheapest
  rcases minBy_spec t.whole t.canB t.ns with ⟨_, hn⟩ | ⟨b, hb, _, _, hm⟩
  · rw [hn s hs] at h; cases h
  · rw [hb]; exact hm s hs h
theorem pairV_le {t : Pt} (ok : t.Ok) {a b : Nat} (ha : a < t.ns) (hb : b < t.ns) (hca : t.canB a = true) (hcb : t.canB b = true) (hab : a ≠ b) (hf : t.far ≤ dst (t.spot a).at_ (t.spot b).at_) : t.pairV ≤ t.whole a + t.whole b := by
  rcases pairV_cases ok with ⟨_, _, hn⟩ | ⟨_, _, _, _, _, _, hv, hm⟩
  · rcases Nat.lt_or_gt_of_ne hab with h | h
    · have := hn a b ha hb; rw [mayB_iff.2 ⟨hca, hcb, h, hf⟩] at this; cases this
    · have := hn b a hb ha; rw [mayB_iff.2 ⟨hcb, hca, h, by rw [dst_comm]; exact hf⟩] at this; cases this
  · rw [hv]
    rcases Nat.lt_or_gt_of_ne hab with h | h
    · exact hm a b ha hb (mayB_iff.2 ⟨hca, hcb, h, hf⟩)
    · rw [Int.add_comm (t.whole a)]; exact hm b a hb ha (mayB_iff.2 ⟨hcb, hca, h, by rw [dst_comm]; exact hf⟩)
theorem whole_out {t : Pt} (ok : t.Ok) (hne : t.q.leftL ≠ []) {s : Nat} (hs : s < t.ns) : t.wholeOut (s : Int) = if t.canB s then (t.whole s, 0) else (0, 3) := by
  unfold Pt.wholeOut
  rw [hasB_in hs, Pt.knowErr_ok ok hne, if_pos rfl, Int.toNat_natCast]
theorem cheap_le_whole {t : Pt} (ok : t.Ok) {s : Nat} : (t.cheap s).1 ≤ t.whole s := by
  unfold Pt.whole
  have := askedTo_nonneg (t := t) (s := s) t.m fun w hw => (ok.pence w (by rw [Pt.m_np ok] at hw; exact hw)).1
  omega
set_option maxHeartbeats 40000000 in
set_option maxRecDepth 100000 in
theorem placesBest_any (Aw Af Ao Ap As : Option Addr) (cw cf co cp cs : Nat) (t : Pt) (p1 p2 : Int) (w : World) (hs : t.Small) (hT : PAt w Aw Af Ao Ap As t) (hB : TabAt w) (hN : NoneAt w) :
    Calls Tryz.prog 12 #[.agg #[.int .i64 t.q.wells, .slice Aw t.q.nw cw, .slice Af t.q.nf cf, .slice Ao t.no co, .slice Ap t.np cp, .slice As t.ns cs, .int .i64 t.far, .int .i64 t.harm, .int .i64 t.many], .int .i64 p1, .int .i64 p2] w fun e w' => e = .returned (.bool true) ∧ Below w.heap.size w w' := by
  have HD0 := Lib.hid (Below.refl w.heap.size w)
  have HSM := Lib.hid hs
  have HT0 := Lib.hid hT
  have HTB0 := Lib.hid hB
  have HNA0 := Lib.hid hN
  clear hs hT hB hN
  go_enter Tryz.func12, Tryz.ntmps12
  go_wp2_with fail
  refine (ready9_any Aw Af Ao Ap As cw cf co cp cs t _ HSM.out (HT0.out.mono (bAlloc (Below.refl _ _) (.cells #[.int .i64 t.q.wells, .slice Aw t.q.nw cw, .slice Af t.q.nf cf, .slice Ao t.no co, .slice Ap t.np cp, .slice As t.ns cs, .int .i64 t.far, .int .i64 t.harm, .int .i64 t.many] 29)))).mono ?_
  rintro e w1 ⟨⟨bf, rfl, hok⟩, hb⟩
  have hB1 : Below w.heap.size w w1 := bTrans (bAlloc (Below.refl _ _) (.cells #[.int .i64 t.q.wells, .slice Aw t.q.nw cw, .slice Af t.q.nf cf, .slice Ao t.no co, .slice Ap t.np cp, .slice As t.ns cs, .int .i64 t.far, .int .i64 t.harm, .int .i64 t.many] 29)) hb
  have HD1 := Lib.hid (bTrans HD0.out hB1)
  have HT1 := Lib.hid (HT0.out.mono hB1)
  have HTB1 := Lib.hid (HTB0.out.mono hB1)
  have HNA1 := Lib.hid (HNA0.out.mono hB1)
  have T1 := Lib.hid (show TBox w1 w.heap.size 29 #[.int .i64 t.q.wells, .slice Aw t.q.nw cw, .slice Af t.q.nf cf, .slice Ao t.no co, .slice Ap t.np cp, .slice As t.ns cs, .int .i64 t.far, .int .i64 t.harm, .int .i64 t.many] from by have := ((TBox.new w #[.int .i64 t.q.wells, .slice Aw t.q.nw cw, .slice Af t.q.nf cf, .slice Ao t.no co, .slice Ap t.np cp, .slice As t.ns cs, .int .i64 t.far, .int .i64 t.harm, .int .i64 t.many] 29).mono (Below.refl _ _)).mono hb; simpa using this)
  clear hb hB1 HD0 HT0 HTB0 HNA0
  obtain ⟨T_0, T_1, T_2, T_3, T_4, T_5, T_6, T_7, T_8, T_l⟩ := T1.out.c9
  cases bf
  case false =>
    go_wp2_with fail
    refine (works9_any _ HTB1.out HNA1.out).mono ?_
    rintro e w2 ⟨rfl, hb⟩
    have hB2 : Below w1.heap.size w1 w2 := bTrans (Below.refl _ _) hb
    have HD2 := Lib.hid (bTrans HD1.out hB2)
    have HT2 := Lib.hid (HT1.out.mono hB2)
    have HTB2 := Lib.hid (HTB1.out.mono hB2)
    have HNA2 := Lib.hid (HNA1.out.mono hB2)
    have T2 := Lib.hid (T1.out.mono hB2)
    clear hb hB2 HD1 HT1 HTB1 HNA1 T1 T_0 T_1 T_2 T_3 T_4 T_5 T_6 T_7 T_8 T_l
    obtain ⟨T_0, T_1, T_2, T_3, T_4, T_5, T_6, T_7, T_8, T_l⟩ := T2.out.c9
    go_wp2_with fail
    go_ret
    exact ⟨rfl, HD2.out⟩
  have HOK := Lib.hid (hok rfl)
  clear hok
  go_wp2_with fail
  refine (leftOf9_any Aw Af Ao Ap As cw cf co cp cs t _ HOK.out HT1.out).mono ?_
  rintro e w2 ⟨⟨A4, c4, rfl, hi4⟩, hb⟩
  have hB2 : Below w1.heap.size w1 w2 := bTrans (Below.refl _ _) hb
  have HD2 := Lib.hid (bTrans HD1.out hB2)
  have HT2 := Lib.hid (HT1.out.mono hB2)
  have HTB2 := Lib.hid (HTB1.out.mono hB2)
  have HNA2 := Lib.hid (HNA1.out.mono hB2)
  have T2 := Lib.hid (T1.out.mono hB2)
  clear hb hB2 HD1 HT1 HTB1 HNA1 T1 T_0 T_1 T_2 T_3 T_4 T_5 T_6 T_7 T_8 T_l
  obtain ⟨T_0, T_1, T_2, T_3, T_4, T_5, T_6, T_7, T_8, T_l⟩ := T2.out.c9
  clear hi4
  obtain ⟨nl, hnl⟩ : ∃ n, t.q.leftL.length = n := ⟨_, rfl⟩
  have HNL := Lib.hid hnl
  rw [hnl]
  clear hnl
  by_cases h0 : nl = 0
  case pos =>
    subst h0
    go_wp2_with fail
    refine (works9_any _ HTB2.out HNA2.out).mono ?_
    rintro e w3 ⟨rfl, hb⟩
    have hB3 : Below w2.heap.size w2 w3 := bTrans (Below.refl _ _) hb
    have HD3 := Lib.hid (bTrans HD2.out hB3)
    have HT3 := Lib.hid (HT2.out.mono hB3)
    have HTB3 := Lib.hid (HTB2.out.mono hB3)
    have HNA3 := Lib.hid (HNA2.out.mono hB3)
    have T3 := Lib.hid (T2.out.mono hB3)
    clear hb hB3 HD2 HT2 HTB2 HNA2 T2 T_0 T_1 T_2 T_3 T_4 T_5 T_6 T_7 T_8 T_l
    obtain ⟨T_0, T_1, T_2, T_3, T_4, T_5, T_6, T_7, T_8, T_l⟩ := T3.out.c9
    go_wp2_with fail
    go_ret
    exact ⟨rfl, HD3.out⟩
  have HNE := Lib.hid (show t.q.leftL ≠ [] from fun h => h0 (by rw [← HNL.out, h]; rfl))
  have e1 : ((nl : Int) == 0) = false := by simp; exact h0
  have e2 : (nl == 0) = false := by simp; exact h0
  go_wp2_with fail
  obtain ⟨bb, hbb⟩ : ∃ b, t.hasB p1 = b := ⟨_, rfl⟩
  refine (hbb ▸ isSpotN9_any Aw Af Ao Ap As cw cf co cp cs t p1 _ HSM.out.ns).mono ?_
  rintro e w3 ⟨rfl, hb⟩
  have hB3 : Below w2.heap.size w2 w3 := bTrans (Below.refl _ _) hb
  have HD3 := Lib.hid (bTrans HD2.out hB3)
  have HT3 := Lib.hid (HT2.out.mono hB3)
  have HTB3 := Lib.hid (HTB2.out.mono hB3)
  have HNA3 := Lib.hid (HNA2.out.mono hB3)
  have T3 := Lib.hid (T2.out.mono hB3)
  clear hb hB3 HD2 HT2 HTB2 HNA2 T2 T_0 T_1 T_2 T_3 T_4 T_5 T_6 T_7 T_8 T_l
  obtain ⟨T_0, T_1, T_2, T_3, T_4, T_5, T_6, T_7, T_8, T_l⟩ := T3.out.c9
  cases bb
  case false =>
    clear hbb
    go_wp2_with fail
    refine (works9_any _ HTB3.out HNA3.out).mono ?_
    rintro e w4 ⟨rfl, hb⟩
    have hB4 : Below w3.heap.size w3 w4 := bTrans (Below.refl _ _) hb
    have HD4 := Lib.hid (bTrans HD3.out hB4)
    have HT4 := Lib.hid (HT3.out.mono hB4)
    have HTB4 := Lib.hid (HTB3.out.mono hB4)
    have HNA4 := Lib.hid (HNA3.out.mono hB4)
    have T4 := Lib.hid (T3.out.mono hB4)
    clear hb hB4 HD3 HT3 HTB3 HNA3 T3 T_0 T_1 T_2 T_3 T_4 T_5 T_6 T_7 T_8 T_l
    obtain ⟨T_0, T_1, T_2, T_3, T_4, T_5, T_6, T_7, T_8, T_l⟩ := T4.out.c9
    go_wp2_with fail
    go_ret
    exact ⟨rfl, HD4.out⟩
  have hn := hasB_iff.1 hbb
  obtain ⟨i, rfl⟩ : ∃ i : Nat, p1 = (i : Int) := ⟨p1.toNat, by omega⟩
  have HI := Lib.hid (show i < t.ns by omega)
  clear hn hbb
  go_wp2_with fail
  obtain ⟨bb, hbb⟩ : ∃ b, t.hasB p2 = b := ⟨_, rfl⟩
  refine (hbb ▸ isSpotN9_any Aw Af Ao Ap As cw cf co cp cs t p2 _ HSM.out.ns).mono ?_
  rintro e w4 ⟨rfl, hb⟩
  have hB4 : Below w3.heap.size w3 w4 := bTrans (Below.refl _ _) hb
  have HD4 := Lib.hid (bTrans HD3.out hB4)
  have HT4 := Lib.hid (HT3.out.mono hB4)
  have HTB4 := Lib.hid (HTB3.out.mono hB4)
  have HNA4 := Lib.hid (HNA3.out.mono hB4)
  have T4 := Lib.hid (T3.out.mono hB4)
  clear hb hB4 HD3 HT3 HTB3 HNA3 T3 T_0 T_1 T_2 T_3 T_4 T_5 T_6 T_7 T_8 T_l
  obtain ⟨T_0, T_1, T_2, T_3, T_4, T_5, T_6, T_7, T_8, T_l⟩ := T4.out.c9
  cases bb
  case false =>
    clear hbb
    go_wp2_with fail
    refine (works9_any _ HTB4.out HNA4.out).mono ?_
    rintro e w5 ⟨rfl, hb⟩
    have hB5 : Below w4.heap.size w4 w5 := bTrans (Below.refl _ _) hb
    have HD5 := Lib.hid (bTrans HD4.out hB5)
    have HT5 := Lib.hid (HT4.out.mono hB5)
    have HTB5 := Lib.hid (HTB4.out.mono hB5)
    have HNA5 := Lib.hid (HNA4.out.mono hB5)
    have T5 := Lib.hid (T4.out.mono hB5)
    clear hb hB5 HD4 HT4 HTB4 HNA4 T4 T_0 T_1 T_2 T_3 T_4 T_5 T_6 T_7 T_8 T_l
    obtain ⟨T_0, T_1, T_2, T_3, T_4, T_5, T_6, T_7, T_8, T_l⟩ := T5.out.c9
    go_wp2_with fail
    go_ret
    exact ⟨rfl, HD5.out⟩
  have hn := hasB_iff.1 hbb
  obtain ⟨i2, rfl⟩ : ∃ i2 : Nat, p2 = (i2 : Int) := ⟨p2.toNat, by omega⟩
  have HI2 := Lib.hid (show i2 < t.ns by omega)
  clear hn hbb
  go_wp2_with fail
  clear e1 e2 h0
  have hns5 := HOK.out.ns
  obtain ⟨zf, hzf⟩ : ∃ z, t.frees.length = z := ⟨_, rfl⟩
  have hz2 : zf ≤ t.ns := by have := selTo_len t.freeB t.ns; unfold Pt.frees at hzf; omega
  have HZF := Lib.hid hzf
  clear hzf
  refine ((by have := freeP_any Aw Af Ao Ap As cw cf co cp cs t w4 HSM.out HT4.out HTB4.out HNA4.out; rw [Pt.knowErr_ok HOK.out HNE.out] at this; exact this : Calls Tryz.prog 33 #[.agg #[.int .i64 t.q.wells, .slice Aw t.q.nw cw, .slice Af t.q.nf cf, .slice Ao t.no co, .slice Ap t.np cp, .slice As t.ns cs, .int .i64 t.far, .int .i64 t.harm, .int .i64 t.many]] w4 fun e w' => NumsOut w' w4.heap.size 0 t.frees e ∧ Below w4.heap.size w4 w')).mono ?_
  rintro e w5 ⟨ho, hb⟩
  obtain ⟨v, rfl, hv⟩ := ho.1 rfl
  obtain ⟨A7, c7, rfl, hi7⟩ := hv.lst
  rw [HZF.out] at hi7 ⊢
  have hB5 : Below w4.heap.size w4 w5 := bTrans (Below.refl _ _) hb
  have HD5 := Lib.hid (bTrans HD4.out hB5)
  have HT5 := Lib.hid (HT4.out.mono hB5)
  have HTB5 := Lib.hid (HTB4.out.mono hB5)
  have HNA5 := Lib.hid (HNA4.out.mono hB5)
  have HF5 := Lib.hid (hi7)
  have T5 := Lib.hid (T4.out.mono hB5)
  clear hb hB5 HD4 HT4 HTB4 HNA4 T4 T_0 T_1 T_2 T_3 T_4 T_5 T_6 T_7 T_8 T_l
  obtain ⟨T_0, T_1, T_2, T_3, T_4, T_5, T_6, T_7, T_8, T_l⟩ := T5.out.c9
  clear ho hv hi7
  go_wp2_with fail
  obtain ⟨mo, hmo⟩ : ∃ m, t.best = m := ⟨_, rfl⟩
  have HMO := Lib.hid hmo
  have hbz : mo.isSome = decide (0 < zf) := by rw [← hmo, best_isSome, anyFree_frees, HZF.out]
  clear hmo
  obtain ⟨bV, hbV⟩ : ∃ y, t.bestV = y := ⟨_, rfl⟩
  obtain ⟨cV, hcV⟩ : ∃ y, t.cheapV = y := ⟨_, rfl⟩
  obtain ⟨pV, hpV⟩ : ∃ y, t.pairV = y := ⟨_, rfl⟩
  have hcb := cheapV_le_bestV HOK.out
  obtain ⟨y1, hy1⟩ : ∃ y, (t.cheap i).1 = y := ⟨_, rfl⟩
  obtain ⟨m1, hm1⟩ : ∃ y, t.whole i = y := ⟨_, rfl⟩
  obtain ⟨m2, hm2⟩ : ∃ y, t.whole i2 = y := ⟨_, rfl⟩
  have hA1 := cheap_bd HOK.out HI.out
  have hA2 := cheap_le_whole (s := i) HOK.out
  have hA3 := whole_bd HOK.out HI.out
  have hA4 := whole_bd HOK.out HI2.out
  have hA5 := @cheapV_le t i HI.out
  have hA6 := @bestV_le t i HI.out
  have hA7 := @whole_free t i
  have hA8 := @pairV_le t HOK.out i i2 HI.out HI2.out
  have hW1 := whole_out HOK.out HNE.out HI.out
  have hW2 := whole_out HOK.out HNE.out HI2.out
  rw [hbV, hcV] at hcb
  rw [hy1] at hA1
  rw [hy1, hm1] at hA2
  rw [hm1] at hA3
  rw [hm2] at hA4
  rw [hcV, hm1] at hA5
  rw [hbV, hy1] at hA6
  rw [hm1, hy1] at hA7
  rw [hpV, hm1, hm2] at hA8
  rw [hm1] at hW1
  rw [hm2] at hW2
  have HBV := Lib.hid hbV
  have HCV := Lib.hid hcV
  have HPV := Lib.hid hpV
  have HY1 := Lib.hid hy1
  have HA5 := Lib.hid hA5
  have HA6 := Lib.hid hA6
  have HA7 := Lib.hid hA7
  have HA8 := Lib.hid hA8
  have HW1 := Lib.hid hW1
  have HW2 := Lib.hid hW2
  have HPO := Lib.hid (show t.priceOut (i : Int) = (y1, (t.cheap i).2) by unfold Pt.priceOut; rw [hasB_in HI.out, Pt.askErr_ok HOK.out, if_pos rfl, Int.toNat_natCast]; exact Prod.ext hy1 rfl)
  have HIN := Lib.hid (fun (n : Int) (w' : World) (hI : IntsAt w' A7 zf (intL0 t.frees)) => (by have := in1_any A7 zf c7 (intL0 t.frees) n w' (by omega) hI; rw [← HZF.out, mem_anyB] at this; rw [← HZF.out]; exact this : Calls Tryz.prog 41 #[.slice A7 zf c7, .int .i64 n] w' fun e w'' => e = .returned (.bool (decide (n ∈ t.frees))) ∧ Below w'.heap.size w' w''))
  have HFI := Lib.hid (mem_frees HI.out)
  have k1 : ¬ (zf : Int) > (t.ns : Int) := by omega
  have k2 : ¬ t.ns < zf := by omega
  have k3 : ¬ cV > bV := by omega
  have k4 : ¬ bV < cV := by omega
  have k5 : ¬ y1 < 0 := by omega
  have k6 : ¬ m1 < y1 := by omega
  have k7 : ¬ m1 ≥ 50000 := by omega
  have k7n : ¬ 50000 ≤ m1 := by omega
  have k8 : m2 ≥ 0 := by omega
  have k8n : 0 ≤ m2 := by omega
  have k9 : m2 < 50000 := by omega
  have hwr : IntKind.i64.wrap (m1 + m2) = m1 + m2 := IntWalk.i64_in _ (by omega)
  clear hbV hcV hpV hcb hy1 hm1 hm2 hA1 hA2 hA3 hA4 hA5 hA6 hA7 hA8 hW1 hW2
  cases mo with
  | none =>
    have hz0 : zf = 0 := by have := hbz.symm; simp at this; omega
    clear hbz
    subst hz0
    refine ((by have := bestP_any Aw Af Ao Ap As cw cf co cp cs t w5 HSM.out HT5.out HTB5.out HNA5.out; rw [best_out HOK.out HNE.out, HMO.out, show optOut none = (0, 3) from rfl] at this; exact this : Calls Tryz.prog 35 #[.agg #[.int .i64 t.q.wells, .slice Aw t.q.nw cw, .slice Af t.q.nf cf, .slice Ao t.no co, .slice Ap t.np cp, .slice As t.ns cs, .int .i64 t.far, .int .i64 t.harm, .int .i64 t.many]] w5 fun e w' => e = .returned (.tuple #[.int .i64 0, .int .i64 3]) ∧ Below w5.heap.size w5 w')).mono ?_
    rintro e w6 ⟨rfl, hb⟩
    have hB6 : Below w5.heap.size w5 w6 := bTrans (Below.refl _ _) hb
    have HD6 := Lib.hid (bTrans HD5.out hB6)
    have HT6 := Lib.hid (HT5.out.mono hB6)
    have HTB6 := Lib.hid (HTB5.out.mono hB6)
    have HNA6 := Lib.hid (HNA5.out.mono hB6)
    have HF6 := Lib.hid (HF5.out.mono hB6)
    have T6 := Lib.hid (T5.out.mono hB6)
    clear hb hB6 HD5 HT5 HTB5 HNA5 HF5 T5 T_0 T_1 T_2 T_3 T_4 T_5 T_6 T_7 T_8 T_l
    obtain ⟨T_0, T_1, T_2, T_3, T_4, T_5, T_6, T_7, T_8, T_l⟩ := T6.out.c9
    go_wp2_with fail
    refine ((by have := bestV9_any Aw Af Ao Ap As cw cf co cp cs t w6 HSM.out HT6.out HTB6.out HNA6.out HOK.out HNE.out; rw [HBV.out] at this; exact this : Calls Tryz.prog 55 #[.agg #[.int .i64 t.q.wells, .slice Aw t.q.nw cw, .slice Af t.q.nf cf, .slice Ao t.no co, .slice Ap t.np cp, .slice As t.ns cs, .int .i64 t.far, .int .i64 t.harm, .int .i64 t.many]] w6 fun e w' => e = .returned (.tuple #[.int .i64 bV, .bool true]) ∧ Below w6.heap.size w6 w')).mono ?_
    rintro e w7 ⟨rfl, hb⟩
    have hB7 : Below w6.heap.size w6 w7 := bTrans (Below.refl _ _) hb
    have HD7 := Lib.hid (bTrans HD6.out hB7)
    have HT7 := Lib.hid (HT6.out.mono hB7)
    have HTB7 := Lib.hid (HTB6.out.mono hB7)
    have HNA7 := Lib.hid (HNA6.out.mono hB7)
    have HF7 := Lib.hid (HF6.out.mono hB7)
    have T7 := Lib.hid (T6.out.mono hB7)
    clear hb hB7 HD6 HT6 HTB6 HNA6 HF6 T6 T_0 T_1 T_2 T_3 T_4 T_5 T_6 T_7 T_8 T_l
    obtain ⟨T_0, T_1, T_2, T_3, T_4, T_5, T_6, T_7, T_8, T_l⟩ := T7.out.c9
    go_wp2_with fail
    refine ((by have := cheapV9_any Aw Af Ao Ap As cw cf co cp cs t w7 HSM.out HT7.out HTB7.out HNA7.out HOK.out HNE.out; rw [HCV.out] at this; exact this : Calls Tryz.prog 56 #[.agg #[.int .i64 t.q.wells, .slice Aw t.q.nw cw, .slice Af t.q.nf cf, .slice Ao t.no co, .slice Ap t.np cp, .slice As t.ns cs, .int .i64 t.far, .int .i64 t.harm, .int .i64 t.many]] w7 fun e w' => e = .returned (.tuple #[.int .i64 cV, .bool true]) ∧ Below w7.heap.size w7 w')).mono ?_
    rintro e w8 ⟨rfl, hb⟩
    have hB8 : Below w7.heap.size w7 w8 := bTrans (Below.refl _ _) hb
    have HD8 := Lib.hid (bTrans HD7.out hB8)
    have HT8 := Lib.hid (HT7.out.mono hB8)
    have HTB8 := Lib.hid (HTB7.out.mono hB8)
    have HNA8 := Lib.hid (HNA7.out.mono hB8)
    have HF8 := Lib.hid (HF7.out.mono hB8)
    have T8 := Lib.hid (T7.out.mono hB8)
    clear hb hB8 HD7 HT7 HTB7 HNA7 HF7 T7 T_0 T_1 T_2 T_3 T_4 T_5 T_6 T_7 T_8 T_l
    obtain ⟨T_0, T_1, T_2, T_3, T_4, T_5, T_6, T_7, T_8, T_l⟩ := T8.out.c9
    go_wp2_with fail
    refine ((by have := pairV9_any Aw Af Ao Ap As cw cf co cp cs t w8 HSM.out HT8.out HTB8.out HNA8.out HOK.out HNE.out; rw [HPV.out] at this; exact this : Calls Tryz.prog 57 #[.agg #[.int .i64 t.q.wells, .slice Aw t.q.nw cw, .slice Af t.q.nf cf, .slice Ao t.no co, .slice Ap t.np cp, .slice As t.ns cs, .int .i64 t.far, .int .i64 t.harm, .int .i64 t.many]] w8 fun e w' => e = .returned (.tuple #[.int .i64 pV, .bool true]) ∧ Below w8.heap.size w8 w')).mono ?_
    rintro e w9 ⟨rfl, hb⟩
    have hB9 : Below w8.heap.size w8 w9 := bTrans (Below.refl _ _) hb
    have HD9 := Lib.hid (bTrans HD8.out hB9)
    have HT9 := Lib.hid (HT8.out.mono hB9)
    have HTB9 := Lib.hid (HTB8.out.mono hB9)
    have HNA9 := Lib.hid (HNA8.out.mono hB9)
    have HF9 := Lib.hid (HF8.out.mono hB9)
    have T9 := Lib.hid (T8.out.mono hB9)
    clear hb hB9 HD8 HT8 HTB8 HNA8 HF8 T8 T_0 T_1 T_2 T_3 T_4 T_5 T_6 T_7 T_8 T_l
    obtain ⟨T_0, T_1, T_2, T_3, T_4, T_5, T_6, T_7, T_8, T_l⟩ := T9.out.c9
    go_wp2_with fail
    refine (isKnown9_any 3 _).mono ?_
    rintro e w10 ⟨rfl, hb⟩
    have hB10 : Below w9.heap.size w9 w10 := bTrans (Below.refl _ _) hb
    have HD10 := Lib.hid (bTrans HD9.out hB10)
    have HT10 := Lib.hid (HT9.out.mono hB10)
    have HTB10 := Lib.hid (HTB9.out.mono hB10)
    have HNA10 := Lib.hid (HNA9.out.mono hB10)
    have HF10 := Lib.hid (HF9.out.mono hB10)
    have T10 := Lib.hid (T9.out.mono hB10)
    clear hb hB10 HD9 HT9 HTB9 HNA9 HF9 T9 T_0 T_1 T_2 T_3 T_4 T_5 T_6 T_7 T_8 T_l
    obtain ⟨T_0, T_1, T_2, T_3, T_4, T_5, T_6, T_7, T_8, T_l⟩ := T10.out.c9
    go_wp2_with fail
    cases hci : t.canB i
    case false =>
      have HY2 := Lib.hid (show (t.cheap i).2 = 3 from (cheap_err HOK.out HI.out).resolve_left fun h => by unfold Pt.canB at hci; rw [h] at hci; cases hci)
      have hnf : ¬ (i : Int) ∈ t.frees := fun h => by have := freeB_can (HFI.out.1 h); rw [hci] at this; cases this
      have HNF := Lib.hid hnf
      have HCI := Lib.hid hci
      clear hci hnf
      refine ((by have := pricesP_any Aw Af Ao Ap As cw cf co cp cs t (i : Int) w10 HSM.out HT10.out HTB10.out HNA10.out; rw [HPO.out, HY2.out] at this; exact this : Calls Tryz.prog 25 #[.agg #[.int .i64 t.q.wells, .slice Aw t.q.nw cw, .slice Af t.q.nf cf, .slice Ao t.no co, .slice Ap t.np cp, .slice As t.ns cs, .int .i64 t.far, .int .i64 t.harm, .int .i64 t.many], .int .i64 (i : Int)] w10 fun e w' => e = .returned (.tuple #[.int .i64 y1, .int .i64 3]) ∧ Below w10.heap.size w10 w')).mono ?_
      rintro e w11 ⟨rfl, hb⟩
      have hB11 : Below w10.heap.size w10 w11 := bTrans (Below.refl _ _) hb
      have HD11 := Lib.hid (bTrans HD10.out hB11)
      have HT11 := Lib.hid (HT10.out.mono hB11)
      have HTB11 := Lib.hid (HTB10.out.mono hB11)
      have HNA11 := Lib.hid (HNA10.out.mono hB11)
      have HF11 := Lib.hid (HF10.out.mono hB11)
      have T11 := Lib.hid (T10.out.mono hB11)
      clear hb hB11 HD10 HT10 HTB10 HNA10 HF10 T10 T_0 T_1 T_2 T_3 T_4 T_5 T_6 T_7 T_8 T_l
      obtain ⟨T_0, T_1, T_2, T_3, T_4, T_5, T_6, T_7, T_8, T_l⟩ := T11.out.c9
      go_wp2_with fail
      refine ((by have := wholeP_any Aw Af Ao Ap As cw cf co cp cs t (i : Int) w11 HSM.out HT11.out HTB11.out HNA11.out; rw [HW1.out, HCI.out, if_neg Bool.false_ne_true] at this; exact this : Calls Tryz.prog 49 #[.agg #[.int .i64 t.q.wells, .slice Aw t.q.nw cw, .slice Af t.q.nf cf, .slice Ao t.no co, .slice Ap t.np cp, .slice As t.ns cs, .int .i64 t.far, .int .i64 t.harm, .int .i64 t.many], .int .i64 (i : Int)] w11 fun e w' => e = .returned (.tuple #[.int .i64 0, .int .i64 3]) ∧ Below w11.heap.size w11 w')).mono ?_
      rintro e w12 ⟨rfl, hb⟩
      have hB12 : Below w11.heap.size w11 w12 := bTrans (Below.refl _ _) hb
      have HD12 := Lib.hid (bTrans HD11.out hB12)
      have HT12 := Lib.hid (HT11.out.mono hB12)
      have HTB12 := Lib.hid (HTB11.out.mono hB12)
      have HNA12 := Lib.hid (HNA11.out.mono hB12)
      have HF12 := Lib.hid (HF11.out.mono hB12)
      have T12 := Lib.hid (T11.out.mono hB12)
      clear hb hB12 HD11 HT11 HTB11 HNA11 HF11 T11 T_0 T_1 T_2 T_3 T_4 T_5 T_6 T_7 T_8 T_l
      obtain ⟨T_0, T_1, T_2, T_3, T_4, T_5, T_6, T_7, T_8, T_l⟩ := T12.out.c9
      go_wp2_with fail
      refine (isKnown9_any 3 _).mono ?_
      rintro e w13 ⟨rfl, hb⟩
      have hB13 : Below w12.heap.size w12 w13 := bTrans (Below.refl _ _) hb
      have HD13 := Lib.hid (bTrans HD12.out hB13)
      have HT13 := Lib.hid (HT12.out.mono hB13)
      have HTB13 := Lib.hid (HTB12.out.mono hB13)
      have HNA13 := Lib.hid (HNA12.out.mono hB13)
      have HF13 := Lib.hid (HF12.out.mono hB13)
      have T13 := Lib.hid (T12.out.mono hB13)
      clear hb hB13 HD12 HT12 HTB12 HNA12 HF12 T12 T_0 T_1 T_2 T_3 T_4 T_5 T_6 T_7 T_8 T_l
      obtain ⟨T_0, T_1, T_2, T_3, T_4, T_5, T_6, T_7, T_8, T_l⟩ := T13.out.c9
      go_wp2_with fail
      refine ((by have := HIN.out (i : Int) _ HF13.out; rw [decide_eq_false HNF.out] at this; exact this : Calls Tryz.prog 41 #[.slice A7 0 c7, .int .i64 (i : Int)] w13 fun e w' => e = .returned (.bool false) ∧ Below w13.heap.size w13 w')).mono ?_
      rintro e w14 ⟨rfl, hb⟩
      have hB14 : Below w13.heap.size w13 w14 := bTrans (Below.refl _ _) hb
      have HD14 := Lib.hid (bTrans HD13.out hB14)
      have HT14 := Lib.hid (HT13.out.mono hB14)
      have HTB14 := Lib.hid (HTB13.out.mono hB14)
      have HNA14 := Lib.hid (HNA13.out.mono hB14)
      have HF14 := Lib.hid (HF13.out.mono hB14)
      have T14 := Lib.hid (T13.out.mono hB14)
      clear hb hB14 HD13 HT13 HTB13 HNA13 HF13 T13 T_0 T_1 T_2 T_3 T_4 T_5 T_6 T_7 T_8 T_l
      obtain ⟨T_0, T_1, T_2, T_3, T_4, T_5, T_6, T_7, T_8, T_l⟩ := T14.out.c9
      go_wp2_with fail
      refine (works9_any _ HTB14.out HNA14.out).mono ?_
      rintro e w15 ⟨rfl, hb⟩
      have hB15 : Below w14.heap.size w14 w15 := bTrans (Below.refl _ _) hb
      have HD15 := Lib.hid (bTrans HD14.out hB15)
      have HT15 := Lib.hid (HT14.out.mono hB15)
      have HTB15 := Lib.hid (HTB14.out.mono hB15)
      have HNA15 := Lib.hid (HNA14.out.mono hB15)
      have HF15 := Lib.hid (HF14.out.mono hB15)
      have T15 := Lib.hid (T14.out.mono hB15)
      clear hb hB15 HD14 HT14 HTB14 HNA14 HF14 T14 T_0 T_1 T_2 T_3 T_4 T_5 T_6 T_7 T_8 T_l
      obtain ⟨T_0, T_1, T_2, T_3, T_4, T_5, T_6, T_7, T_8, T_l⟩ := T15.out.c9
      go_wp2_with fail
      go_ret
      exact ⟨rfl, HD15.out⟩
    have HY2 := Lib.hid (show (t.cheap i).2 = 0 by unfold Pt.canB at hci; simpa using hci)
    have HCI := Lib.hid hci
    have hcm := HA5.out hci
    have k10 : ¬ m1 < cV := by omega
    clear hci hcm
    refine ((by have := pricesP_any Aw Af Ao Ap As cw cf co cp cs t (i : Int) w10 HSM.out HT10.out HTB10.out HNA10.out; rw [HPO.out, HY2.out] at this; exact this : Calls Tryz.prog 25 #[.agg #[.int .i64 t.q.wells, .slice Aw t.q.nw cw, .slice Af t.q.nf cf, .slice Ao t.no co, .slice Ap t.np cp, .slice As t.ns cs, .int .i64 t.far, .int .i64 t.harm, .int .i64 t.many], .int .i64 (i : Int)] w10 fun e w' => e = .returned (.tuple #[.int .i64 y1, .int .i64 0]) ∧ Below w10.heap.size w10 w')).mono ?_
    rintro e w11 ⟨rfl, hb⟩
    have hB11 : Below w10.heap.size w10 w11 := bTrans (Below.refl _ _) hb
    have HD11 := Lib.hid (bTrans HD10.out hB11)
    have HT11 := Lib.hid (HT10.out.mono hB11)
    have HTB11 := Lib.hid (HTB10.out.mono hB11)
    have HNA11 := Lib.hid (HNA10.out.mono hB11)
    have HF11 := Lib.hid (HF10.out.mono hB11)
    have T11 := Lib.hid (T10.out.mono hB11)
    clear hb hB11 HD10 HT10 HTB10 HNA10 HF10 T10 T_0 T_1 T_2 T_3 T_4 T_5 T_6 T_7 T_8 T_l
    obtain ⟨T_0, T_1, T_2, T_3, T_4, T_5, T_6, T_7, T_8, T_l⟩ := T11.out.c9
    go_wp2_with fail
    refine ((by have := wholeP_any Aw Af Ao Ap As cw cf co cp cs t (i : Int) w11 HSM.out HT11.out HTB11.out HNA11.out; rw [HW1.out, HCI.out, if_pos rfl] at this; exact this : Calls Tryz.prog 49 #[.agg #[.int .i64 t.q.wells, .slice Aw t.q.nw cw, .slice Af t.q.nf cf, .slice Ao t.no co, .slice Ap t.np cp, .slice As t.ns cs, .int .i64 t.far, .int .i64 t.harm, .int .i64 t.many], .int .i64 (i : Int)] w11 fun e w' => e = .returned (.tuple #[.int .i64 m1, .int .i64 0]) ∧ Below w11.heap.size w11 w')).mono ?_
    rintro e w12 ⟨rfl, hb⟩
    have hB12 : Below w11.heap.size w11 w12 := bTrans (Below.refl _ _) hb
    have HD12 := Lib.hid (bTrans HD11.out hB12)
    have HT12 := Lib.hid (HT11.out.mono hB12)
    have HTB12 := Lib.hid (HTB11.out.mono hB12)
    have HNA12 := Lib.hid (HNA11.out.mono hB12)
    have HF12 := Lib.hid (HF11.out.mono hB12)
    have T12 := Lib.hid (T11.out.mono hB12)
    clear hb hB12 HD11 HT11 HTB11 HNA11 HF11 T11 T_0 T_1 T_2 T_3 T_4 T_5 T_6 T_7 T_8 T_l
    obtain ⟨T_0, T_1, T_2, T_3, T_4, T_5, T_6, T_7, T_8, T_l⟩ := T12.out.c9
    go_wp2_with fail
    refine (isKnown9_any 0 _).mono ?_
    rintro e w13 ⟨rfl, hb⟩
    have hB13 : Below w12.heap.size w12 w13 := bTrans (Below.refl _ _) hb
    have HD13 := Lib.hid (bTrans HD12.out hB13)
    have HT13 := Lib.hid (HT12.out.mono hB13)
    have HTB13 := Lib.hid (HTB12.out.mono hB13)
    have HNA13 := Lib.hid (HNA12.out.mono hB13)
    have HF13 := Lib.hid (HF12.out.mono hB13)
    have T13 := Lib.hid (T12.out.mono hB13)
    clear hb hB13 HD12 HT12 HTB12 HNA12 HF12 T12 T_0 T_1 T_2 T_3 T_4 T_5 T_6 T_7 T_8 T_l
    obtain ⟨T_0, T_1, T_2, T_3, T_4, T_5, T_6, T_7, T_8, T_l⟩ := T13.out.c9
    go_wp2_with fail
    have HIF := Lib.hid (show ¬ (i : Int) ∈ t.frees by rw [List.eq_nil_of_length_eq_zero HZF.out]; exact List.not_mem_nil)
    refine ((by have := HIN.out (i : Int) _ HF13.out; rw [decide_eq_false HIF.out] at this; exact this : Calls Tryz.prog 41 #[.slice A7 0 c7, .int .i64 (i : Int)] w13 fun e w' => e = .returned (.bool false) ∧ Below w13.heap.size w13 w')).mono ?_
    rintro e w14 ⟨rfl, hb⟩
    have hB14 : Below w13.heap.size w13 w14 := bTrans (Below.refl _ _) hb
    have HD14 := Lib.hid (bTrans HD13.out hB14)
    have HT14 := Lib.hid (HT13.out.mono hB14)
    have HTB14 := Lib.hid (HTB13.out.mono hB14)
    have HNA14 := Lib.hid (HNA13.out.mono hB14)
    have HF14 := Lib.hid (HF13.out.mono hB14)
    have T14 := Lib.hid (T13.out.mono hB14)
    clear hb hB14 HD13 HT13 HTB13 HNA13 HF13 T13 T_0 T_1 T_2 T_3 T_4 T_5 T_6 T_7 T_8 T_l
    obtain ⟨T_0, T_1, T_2, T_3, T_4, T_5, T_6, T_7, T_8, T_l⟩ := T14.out.c9
    go_wp2_with fail
    by_cases hii : i = i2
    case pos =>
      subst hii
      have hb1 : ((i : Int) == (i : Int)) = true := beq_self_eq_true _
      refine ((by have := wholeP_any Aw Af Ao Ap As cw cf co cp cs t (i : Int) w14 HSM.out HT14.out HTB14.out HNA14.out; rw [HW1.out, HCI.out, if_pos rfl] at this; exact this : Calls Tryz.prog 49 #[.agg #[.int .i64 t.q.wells, .slice Aw t.q.nw cw, .slice Af t.q.nf cf, .slice Ao t.no co, .slice Ap t.np cp, .slice As t.ns cs, .int .i64 t.far, .int .i64 t.harm, .int .i64 t.many], .int .i64 (i : Int)] w14 fun e w' => e = .returned (.tuple #[.int .i64 m1, .int .i64 0]) ∧ Below w14.heap.size w14 w')).mono ?_
      rintro e w15 ⟨rfl, hb⟩
      have hB15 : Below w14.heap.size w14 w15 := bTrans (Below.refl _ _) hb
      have HD15 := Lib.hid (bTrans HD14.out hB15)
      have HT15 := Lib.hid (HT14.out.mono hB15)
      have HTB15 := Lib.hid (HTB14.out.mono hB15)
      have HNA15 := Lib.hid (HNA14.out.mono hB15)
      have HF15 := Lib.hid (HF14.out.mono hB15)
      have T15 := Lib.hid (T14.out.mono hB15)
      clear hb hB15 HD14 HT14 HTB14 HNA14 HF14 T14 T_0 T_1 T_2 T_3 T_4 T_5 T_6 T_7 T_8 T_l
      obtain ⟨T_0, T_1, T_2, T_3, T_4, T_5, T_6, T_7, T_8, T_l⟩ := T15.out.c9
      go_wp2_with fail
      refine wp_region_quiet_below (by kernel_rfl) (by kernel_rfl) ?_
      repeat (go_big_quiet_step ((fail)))
      refine wpQuiet_nil ?_
      intro w16 hw9
      have hb := below_of_regrown hw9
      clear hw9
      have hB16 : Below w15.heap.size w15 w16 := bTrans (Below.refl _ _) hb
      have HD16 := Lib.hid (bTrans HD15.out hB16)
      have HT16 := Lib.hid (HT15.out.mono hB16)
      have HTB16 := Lib.hid (HTB15.out.mono hB16)
      have HNA16 := Lib.hid (HNA15.out.mono hB16)
      have HF16 := Lib.hid (HF15.out.mono hB16)
      have T16 := Lib.hid (T15.out.mono hB16)
      clear hb hB16 HD15 HT15 HTB15 HNA15 HF15 T15 T_0 T_1 T_2 T_3 T_4 T_5 T_6 T_7 T_8 T_l
      obtain ⟨T_0, T_1, T_2, T_3, T_4, T_5, T_6, T_7, T_8, T_l⟩ := T16.out.c9
      go_wp2_with fail
      refine (works9_any _ HTB16.out HNA16.out).mono ?_
      rintro e w17 ⟨rfl, hb⟩
      have hB17 : Below w16.heap.size w16 w17 := bTrans (Below.refl _ _) hb
      have HD17 := Lib.hid (bTrans HD16.out hB17)
      have HT17 := Lib.hid (HT16.out.mono hB17)
      have HTB17 := Lib.hid (HTB16.out.mono hB17)
      have HNA17 := Lib.hid (HNA16.out.mono hB17)
      have HF17 := Lib.hid (HF16.out.mono hB17)
      have T17 := Lib.hid (T16.out.mono hB17)
      clear hb hB17 HD16 HT16 HTB16 HNA16 HF16 T16 T_0 T_1 T_2 T_3 T_4 T_5 T_6 T_7 T_8 T_l
      obtain ⟨T_0, T_1, T_2, T_3, T_4, T_5, T_6, T_7, T_8, T_l⟩ := T17.out.c9
      go_wp2_with fail
      go_ret
      exact ⟨rfl, HD17.out⟩
    have hb1 : ((i : Int) == (i2 : Int)) = false := beq_false_of_ne fun h => hii (by omega)
    have hb2 : (i == i2) = false := beq_false_of_ne hii
    cases hc2 : t.canB i2
    case false =>
      refine ((by have := wholeP_any Aw Af Ao Ap As cw cf co cp cs t (i2 : Int) w14 HSM.out HT14.out HTB14.out HNA14.out; rw [HW2.out, hc2, if_neg Bool.false_ne_true] at this; exact this : Calls Tryz.prog 49 #[.agg #[.int .i64 t.q.wells, .slice Aw t.q.nw cw, .slice Af t.q.nf cf, .slice Ao t.no co, .slice Ap t.np cp, .slice As t.ns cs, .int .i64 t.far, .int .i64 t.harm, .int .i64 t.many], .int .i64 (i2 : Int)] w14 fun e w' => e = .returned (.tuple #[.int .i64 0, .int .i64 3]) ∧ Below w14.heap.size w14 w')).mono ?_
      rintro e w15 ⟨rfl, hb⟩
      have hB15 : Below w14.heap.size w14 w15 := bTrans (Below.refl _ _) hb
      have HD15 := Lib.hid (bTrans HD14.out hB15)
      have HT15 := Lib.hid (HT14.out.mono hB15)
      have HTB15 := Lib.hid (HTB14.out.mono hB15)
      have HNA15 := Lib.hid (HNA14.out.mono hB15)
      have HF15 := Lib.hid (HF14.out.mono hB15)
      have T15 := Lib.hid (T14.out.mono hB15)
      clear hb hB15 HD14 HT14 HTB14 HNA14 HF14 T14 T_0 T_1 T_2 T_3 T_4 T_5 T_6 T_7 T_8 T_l
      obtain ⟨T_0, T_1, T_2, T_3, T_4, T_5, T_6, T_7, T_8, T_l⟩ := T15.out.c9
      go_wp2_with fail
      refine wp_region_quiet_below (by kernel_rfl) (by kernel_rfl) ?_
      repeat (go_big_quiet_step ((fail)))
      refine wpQuiet_nil ?_
      intro w16 hw9
      have hb := below_of_regrown hw9
      clear hw9
      have hB16 : Below w15.heap.size w15 w16 := bTrans (Below.refl _ _) hb
      have HD16 := Lib.hid (bTrans HD15.out hB16)
      have HT16 := Lib.hid (HT15.out.mono hB16)
      have HTB16 := Lib.hid (HTB15.out.mono hB16)
      have HNA16 := Lib.hid (HNA15.out.mono hB16)
      have HF16 := Lib.hid (HF15.out.mono hB16)
      have T16 := Lib.hid (T15.out.mono hB16)
      clear hb hB16 HD15 HT15 HTB15 HNA15 HF15 T15 T_0 T_1 T_2 T_3 T_4 T_5 T_6 T_7 T_8 T_l
      obtain ⟨T_0, T_1, T_2, T_3, T_4, T_5, T_6, T_7, T_8, T_l⟩ := T16.out.c9
      go_wp2_with fail
      refine (works9_any _ HTB16.out HNA16.out).mono ?_
      rintro e w17 ⟨rfl, hb⟩
      have hB17 : Below w16.heap.size w16 w17 := bTrans (Below.refl _ _) hb
      have HD17 := Lib.hid (bTrans HD16.out hB17)
      have HT17 := Lib.hid (HT16.out.mono hB17)
      have HTB17 := Lib.hid (HTB16.out.mono hB17)
      have HNA17 := Lib.hid (HNA16.out.mono hB17)
      have HF17 := Lib.hid (HF16.out.mono hB17)
      have T17 := Lib.hid (T16.out.mono hB17)
      clear hb hB17 HD16 HT16 HTB16 HNA16 HF16 T16 T_0 T_1 T_2 T_3 T_4 T_5 T_6 T_7 T_8 T_l
      obtain ⟨T_0, T_1, T_2, T_3, T_4, T_5, T_6, T_7, T_8, T_l⟩ := T17.out.c9
      go_wp2_with fail
      go_ret
      exact ⟨rfl, HD17.out⟩
    refine ((by have := wholeP_any Aw Af Ao Ap As cw cf co cp cs t (i2 : Int) w14 HSM.out HT14.out HTB14.out HNA14.out; rw [HW2.out, hc2, if_pos rfl] at this; exact this : Calls Tryz.prog 49 #[.agg #[.int .i64 t.q.wells, .slice Aw t.q.nw cw, .slice Af t.q.nf cf, .slice Ao t.no co, .slice Ap t.np cp, .slice As t.ns cs, .int .i64 t.far, .int .i64 t.harm, .int .i64 t.many], .int .i64 (i2 : Int)] w14 fun e w' => e = .returned (.tuple #[.int .i64 m2, .int .i64 0]) ∧ Below w14.heap.size w14 w')).mono ?_
    rintro e w15 ⟨rfl, hb⟩
    have hB15 : Below w14.heap.size w14 w15 := bTrans (Below.refl _ _) hb
    have HD15 := Lib.hid (bTrans HD14.out hB15)
    have HT15 := Lib.hid (HT14.out.mono hB15)
    have HTB15 := Lib.hid (HTB14.out.mono hB15)
    have HNA15 := Lib.hid (HNA14.out.mono hB15)
    have HF15 := Lib.hid (HF14.out.mono hB15)
    have T15 := Lib.hid (T14.out.mono hB15)
    clear hb hB15 HD14 HT14 HTB14 HNA14 HF14 T14 T_0 T_1 T_2 T_3 T_4 T_5 T_6 T_7 T_8 T_l
    obtain ⟨T_0, T_1, T_2, T_3, T_4, T_5, T_6, T_7, T_8, T_l⟩ := T15.out.c9
    go_wp2_with fail
    have HC2 := Lib.hid hc2
    have HII := Lib.hid hii
    clear hc2 hii
    obtain ⟨bs, os_, Ar, Af2, Ax, cr, cf2, cx, hA, hbs, _, _, p0, _⟩ := HT15.out.spots.get HI.out
    obtain ⟨bs', os', Ar', Af2', Ax', cr', cf2', cx', hA', _, _, _, q0, _⟩ := HT15.out.spots.get HI2.out
    obtain ⟨rfl, rfl⟩ : bs = bs' ∧ os_ = os' := by rw [hA] at hA'; injection hA' with hA'; injection hA' with h1 h2; exact ⟨h1, h2⟩
    obtain ⟨u, hu⟩ : ∃ u, (t.spot i).at_ = u := ⟨_, rfl⟩
    obtain ⟨v, hv⟩ : ∃ v, (t.spot i2).at_ = v := ⟨_, rfl⟩
    have hua := And.intro (HOK.out.spot i HI.out).a0 (HOK.out.spot i HI.out).a1
    have hvb := And.intro (HOK.out.spot i2 HI2.out).a0 (HOK.out.spot i2 HI2.out).a1
    rw [hu] at hua p0
    rw [hv] at hvb q0
    obtain ⟨d, hd⟩ : ∃ d, dst u v = d := ⟨_, rfl⟩
    have HDI := Lib.hid (fun w' => hd ▸ dist9_any u v w' hua hvb : ∀ w' : World, Calls Tryz.prog 58 #[.int .i64 u, .int .i64 v] w' fun e w'' => e = .returned (.int .i64 d) ∧ Below w'.heap.size w' w'')
    have HD := Lib.hid (show dst (t.spot i).at_ (t.spot i2).at_ = d by rw [hu, hv]; exact hd)
    have h1_i : (i : Int) < (t.ns : Int) := by have := HI.out; omega
    have h1_j : (i2 : Int) < (t.ns : Int) := by have := HI2.out; omega
    have hlt_i := HI.out
    have hlt_j := HI2.out
    have h0_i : (0 : Int) ≤ (i : Int) := by omega
    have h0_j : (0 : Int) ≤ (i2 : Int) := by omega
    subst hA
    clear hA' hu hv hd hua hvb
    by_cases hfar : d < t.far
    case pos =>
      have hd1 : decide (d < t.far) = true := by simpa using hfar
      clear hfar
      refine wp_region_quiet_below (by kernel_rfl) (by kernel_rfl) ?_
      repeat (go_big_quiet_step ((go_at_call 58; exact Calls.regrown_of (HDI.out _))))
      refine wpQuiet_nil ?_
      intro w16 hw9
      have hb := below_of_regrown hw9
      clear hw9
      clear p0 q0 hbs HDI
      have hB16 : Below w15.heap.size w15 w16 := bTrans (Below.refl _ _) hb
      have HD16 := Lib.hid (bTrans HD15.out hB16)
      have HT16 := Lib.hid (HT15.out.mono hB16)
      have HTB16 := Lib.hid (HTB15.out.mono hB16)
      have HNA16 := Lib.hid (HNA15.out.mono hB16)
      have HF16 := Lib.hid (HF15.out.mono hB16)
      have T16 := Lib.hid (T15.out.mono hB16)
      clear hb hB16 HD15 HT15 HTB15 HNA15 HF15 T15 T_0 T_1 T_2 T_3 T_4 T_5 T_6 T_7 T_8 T_l
      obtain ⟨T_0, T_1, T_2, T_3, T_4, T_5, T_6, T_7, T_8, T_l⟩ := T16.out.c9
      go_wp2_with fail
      refine (works9_any _ HTB16.out HNA16.out).mono ?_
      rintro e w17 ⟨rfl, hb⟩
      have hB17 : Below w16.heap.size w16 w17 := bTrans (Below.refl _ _) hb
      have HD17 := Lib.hid (bTrans HD16.out hB17)
      have HT17 := Lib.hid (HT16.out.mono hB17)
      have HTB17 := Lib.hid (HTB16.out.mono hB17)
      have HNA17 := Lib.hid (HNA16.out.mono hB17)
      have HF17 := Lib.hid (HF16.out.mono hB17)
      have T17 := Lib.hid (T16.out.mono hB17)
      clear hb hB17 HD16 HT16 HTB16 HNA16 HF16 T16 T_0 T_1 T_2 T_3 T_4 T_5 T_6 T_7 T_8 T_l
      obtain ⟨T_0, T_1, T_2, T_3, T_4, T_5, T_6, T_7, T_8, T_l⟩ := T17.out.c9
      go_wp2_with fail
      go_ret
      exact ⟨rfl, HD17.out⟩
    have hd1 : decide (d < t.far) = false := by simp; omega
    have hpm : pV ≤ m1 + m2 := HA8.out HCI.out HC2.out HII.out (by rw [HD.out]; omega)
    clear hfar
    refine wp_region_quiet_below (by kernel_rfl) (by kernel_rfl) ?_
    repeat (go_big_quiet_step ((go_at_call 58; exact Calls.regrown_of (HDI.out _))))
    refine wpQuiet_nil ?_
    intro w16 hw9
    have hb := below_of_regrown hw9
    clear hw9
    clear p0 q0 hbs HDI
    have hB16 : Below w15.heap.size w15 w16 := bTrans (Below.refl _ _) hb
    have HD16 := Lib.hid (bTrans HD15.out hB16)
    have HT16 := Lib.hid (HT15.out.mono hB16)
    have HTB16 := Lib.hid (HTB15.out.mono hB16)
    have HNA16 := Lib.hid (HNA15.out.mono hB16)
    have HF16 := Lib.hid (HF15.out.mono hB16)
    have T16 := Lib.hid (T15.out.mono hB16)
    clear hb hB16 HD15 HT15 HTB15 HNA15 HF15 T15 T_0 T_1 T_2 T_3 T_4 T_5 T_6 T_7 T_8 T_l
    obtain ⟨T_0, T_1, T_2, T_3, T_4, T_5, T_6, T_7, T_8, T_l⟩ := T16.out.c9
    go_wp2_with fail
    refine (works9_any _ HTB16.out HNA16.out).mono ?_
    rintro e w17 ⟨rfl, hb⟩
    have hB17 : Below w16.heap.size w16 w17 := bTrans (Below.refl _ _) hb
    have HD17 := Lib.hid (bTrans HD16.out hB17)
    have HT17 := Lib.hid (HT16.out.mono hB17)
    have HTB17 := Lib.hid (HTB16.out.mono hB17)
    have HNA17 := Lib.hid (HNA16.out.mono hB17)
    have HF17 := Lib.hid (HF16.out.mono hB17)
    have T17 := Lib.hid (T16.out.mono hB17)
    clear hb hB17 HD16 HT16 HTB16 HNA16 HF16 T16 T_0 T_1 T_2 T_3 T_4 T_5 T_6 T_7 T_8 T_l
    obtain ⟨T_0, T_1, T_2, T_3, T_4, T_5, T_6, T_7, T_8, T_l⟩ := T17.out.c9
    go_wp2_with fail
    go_ret
    exact ⟨rfl, HD17.out⟩
  | some b =>
    have hz0 : 0 < zf := by have := hbz.symm; simpa using this
    clear hbz
    have hb2 := minBy_lt (show minBy (fun s => (t.cheap s).1) t.freeB t.ns = some b from HMO.out)
    have HBF := Lib.hid ((mem_frees hb2.1).2 hb2.2)
    have hz1 : (zf : Int) > 0 := by omega
    have hz1n : (0 : Int) < (zf : Int) := by omega
    clear hb2
    refine ((by have := bestP_any Aw Af Ao Ap As cw cf co cp cs t w5 HSM.out HT5.out HTB5.out HNA5.out; rw [best_out HOK.out HNE.out, HMO.out, show optOut (some b) = ((b : Int), 0) from rfl] at this; exact this : Calls Tryz.prog 35 #[.agg #[.int .i64 t.q.wells, .slice Aw t.q.nw cw, .slice Af t.q.nf cf, .slice Ao t.no co, .slice Ap t.np cp, .slice As t.ns cs, .int .i64 t.far, .int .i64 t.harm, .int .i64 t.many]] w5 fun e w' => e = .returned (.tuple #[.int .i64 (b : Int), .int .i64 0]) ∧ Below w5.heap.size w5 w')).mono ?_
    rintro e w6 ⟨rfl, hb⟩
    have hB6 : Below w5.heap.size w5 w6 := bTrans (Below.refl _ _) hb
    have HD6 := Lib.hid (bTrans HD5.out hB6)
    have HT6 := Lib.hid (HT5.out.mono hB6)
    have HTB6 := Lib.hid (HTB5.out.mono hB6)
    have HNA6 := Lib.hid (HNA5.out.mono hB6)
    have HF6 := Lib.hid (HF5.out.mono hB6)
    have T6 := Lib.hid (T5.out.mono hB6)
    clear hb hB6 HD5 HT5 HTB5 HNA5 HF5 T5 T_0 T_1 T_2 T_3 T_4 T_5 T_6 T_7 T_8 T_l
    obtain ⟨T_0, T_1, T_2, T_3, T_4, T_5, T_6, T_7, T_8, T_l⟩ := T6.out.c9
    go_wp2_with fail
    refine ((by have := bestV9_any Aw Af Ao Ap As cw cf co cp cs t w6 HSM.out HT6.out HTB6.out HNA6.out HOK.out HNE.out; rw [HBV.out] at this; exact this : Calls Tryz.prog 55 #[.agg #[.int .i64 t.q.wells, .slice Aw t.q.nw cw, .slice Af t.q.nf cf, .slice Ao t.no co, .slice Ap t.np cp, .slice As t.ns cs, .int .i64 t.far, .int .i64 t.harm, .int .i64 t.many]] w6 fun e w' => e = .returned (.tuple #[.int .i64 bV, .bool true]) ∧ Below w6.heap.size w6 w')).mono ?_
    rintro e w7 ⟨rfl, hb⟩
    have hB7 : Below w6.heap.size w6 w7 := bTrans (Below.refl _ _) hb
    have HD7 := Lib.hid (bTrans HD6.out hB7)
    have HT7 := Lib.hid (HT6.out.mono hB7)
    have HTB7 := Lib.hid (HTB6.out.mono hB7)
    have HNA7 := Lib.hid (HNA6.out.mono hB7)
    have HF7 := Lib.hid (HF6.out.mono hB7)
    have T7 := Lib.hid (T6.out.mono hB7)
    clear hb hB7 HD6 HT6 HTB6 HNA6 HF6 T6 T_0 T_1 T_2 T_3 T_4 T_5 T_6 T_7 T_8 T_l
    obtain ⟨T_0, T_1, T_2, T_3, T_4, T_5, T_6, T_7, T_8, T_l⟩ := T7.out.c9
    go_wp2_with fail
    refine ((by have := cheapV9_any Aw Af Ao Ap As cw cf co cp cs t w7 HSM.out HT7.out HTB7.out HNA7.out HOK.out HNE.out; rw [HCV.out] at this; exact this : Calls Tryz.prog 56 #[.agg #[.int .i64 t.q.wells, .slice Aw t.q.nw cw, .slice Af t.q.nf cf, .slice Ao t.no co, .slice Ap t.np cp, .slice As t.ns cs, .int .i64 t.far, .int .i64 t.harm, .int .i64 t.many]] w7 fun e w' => e = .returned (.tuple #[.int .i64 cV, .bool true]) ∧ Below w7.heap.size w7 w')).mono ?_
    rintro e w8 ⟨rfl, hb⟩
    have hB8 : Below w7.heap.size w7 w8 := bTrans (Below.refl _ _) hb
    have HD8 := Lib.hid (bTrans HD7.out hB8)
    have HT8 := Lib.hid (HT7.out.mono hB8)
    have HTB8 := Lib.hid (HTB7.out.mono hB8)
    have HNA8 := Lib.hid (HNA7.out.mono hB8)
    have HF8 := Lib.hid (HF7.out.mono hB8)
    have T8 := Lib.hid (T7.out.mono hB8)
    clear hb hB8 HD7 HT7 HTB7 HNA7 HF7 T7 T_0 T_1 T_2 T_3 T_4 T_5 T_6 T_7 T_8 T_l
    obtain ⟨T_0, T_1, T_2, T_3, T_4, T_5, T_6, T_7, T_8, T_l⟩ := T8.out.c9
    go_wp2_with fail
    refine ((by have := pairV9_any Aw Af Ao Ap As cw cf co cp cs t w8 HSM.out HT8.out HTB8.out HNA8.out HOK.out HNE.out; rw [HPV.out] at this; exact this : Calls Tryz.prog 57 #[.agg #[.int .i64 t.q.wells, .slice Aw t.q.nw cw, .slice Af t.q.nf cf, .slice Ao t.no co, .slice Ap t.np cp, .slice As t.ns cs, .int .i64 t.far, .int .i64 t.harm, .int .i64 t.many]] w8 fun e w' => e = .returned (.tuple #[.int .i64 pV, .bool true]) ∧ Below w8.heap.size w8 w')).mono ?_
    rintro e w9 ⟨rfl, hb⟩
    have hB9 : Below w8.heap.size w8 w9 := bTrans (Below.refl _ _) hb
    have HD9 := Lib.hid (bTrans HD8.out hB9)
    have HT9 := Lib.hid (HT8.out.mono hB9)
    have HTB9 := Lib.hid (HTB8.out.mono hB9)
    have HNA9 := Lib.hid (HNA8.out.mono hB9)
    have HF9 := Lib.hid (HF8.out.mono hB9)
    have T9 := Lib.hid (T8.out.mono hB9)
    clear hb hB9 HD8 HT8 HTB8 HNA8 HF8 T8 T_0 T_1 T_2 T_3 T_4 T_5 T_6 T_7 T_8 T_l
    obtain ⟨T_0, T_1, T_2, T_3, T_4, T_5, T_6, T_7, T_8, T_l⟩ := T9.out.c9
    go_wp2_with fail
    refine (isKnown9_any 0 _).mono ?_
    rintro e w10 ⟨rfl, hb⟩
    have hB10 : Below w9.heap.size w9 w10 := bTrans (Below.refl _ _) hb
    have HD10 := Lib.hid (bTrans HD9.out hB10)
    have HT10 := Lib.hid (HT9.out.mono hB10)
    have HTB10 := Lib.hid (HTB9.out.mono hB10)
    have HNA10 := Lib.hid (HNA9.out.mono hB10)
    have HF10 := Lib.hid (HF9.out.mono hB10)
    have T10 := Lib.hid (T9.out.mono hB10)
    clear hb hB10 HD9 HT9 HTB9 HNA9 HF9 T9 T_0 T_1 T_2 T_3 T_4 T_5 T_6 T_7 T_8 T_l
    obtain ⟨T_0, T_1, T_2, T_3, T_4, T_5, T_6, T_7, T_8, T_l⟩ := T10.out.c9
    go_wp2_with fail
    refine ((by have := HIN.out (b : Int) _ HF10.out; rw [decide_eq_true HBF.out] at this; exact this : Calls Tryz.prog 41 #[.slice A7 zf c7, .int .i64 (b : Int)] w10 fun e w' => e = .returned (.bool true) ∧ Below w10.heap.size w10 w')).mono ?_
    rintro e w11 ⟨rfl, hb⟩
    have hB11 : Below w10.heap.size w10 w11 := bTrans (Below.refl _ _) hb
    have HD11 := Lib.hid (bTrans HD10.out hB11)
    have HT11 := Lib.hid (HT10.out.mono hB11)
    have HTB11 := Lib.hid (HTB10.out.mono hB11)
    have HNA11 := Lib.hid (HNA10.out.mono hB11)
    have HF11 := Lib.hid (HF10.out.mono hB11)
    have T11 := Lib.hid (T10.out.mono hB11)
    clear hb hB11 HD10 HT10 HTB10 HNA10 HF10 T10 T_0 T_1 T_2 T_3 T_4 T_5 T_6 T_7 T_8 T_l
    obtain ⟨T_0, T_1, T_2, T_3, T_4, T_5, T_6, T_7, T_8, T_l⟩ := T11.out.c9
    go_wp2_with fail
    cases hci : t.canB i
    case false =>
      have HY2 := Lib.hid (show (t.cheap i).2 = 3 from (cheap_err HOK.out HI.out).resolve_left fun h => by unfold Pt.canB at hci; rw [h] at hci; cases hci)
      have hnf : ¬ (i : Int) ∈ t.frees := fun h => by have := freeB_can (HFI.out.1 h); rw [hci] at this; cases this
      have HNF := Lib.hid hnf
      have HCI := Lib.hid hci
      clear hci hnf
      refine ((by have := pricesP_any Aw Af Ao Ap As cw cf co cp cs t (i : Int) w11 HSM.out HT11.out HTB11.out HNA11.out; rw [HPO.out, HY2.out] at this; exact this : Calls Tryz.prog 25 #[.agg #[.int .i64 t.q.wells, .slice Aw t.q.nw cw, .slice Af t.q.nf cf, .slice Ao t.no co, .slice Ap t.np cp, .slice As t.ns cs, .int .i64 t.far, .int .i64 t.harm, .int .i64 t.many], .int .i64 (i : Int)] w11 fun e w' => e = .returned (.tuple #[.int .i64 y1, .int .i64 3]) ∧ Below w11.heap.size w11 w')).mono ?_
      rintro e w12 ⟨rfl, hb⟩
      have hB12 : Below w11.heap.size w11 w12 := bTrans (Below.refl _ _) hb
      have HD12 := Lib.hid (bTrans HD11.out hB12)
      have HT12 := Lib.hid (HT11.out.mono hB12)
      have HTB12 := Lib.hid (HTB11.out.mono hB12)
      have HNA12 := Lib.hid (HNA11.out.mono hB12)
      have HF12 := Lib.hid (HF11.out.mono hB12)
      have T12 := Lib.hid (T11.out.mono hB12)
      clear hb hB12 HD11 HT11 HTB11 HNA11 HF11 T11 T_0 T_1 T_2 T_3 T_4 T_5 T_6 T_7 T_8 T_l
      obtain ⟨T_0, T_1, T_2, T_3, T_4, T_5, T_6, T_7, T_8, T_l⟩ := T12.out.c9
      go_wp2_with fail
      refine ((by have := wholeP_any Aw Af Ao Ap As cw cf co cp cs t (i : Int) w12 HSM.out HT12.out HTB12.out HNA12.out; rw [HW1.out, HCI.out, if_neg Bool.false_ne_true] at this; exact this : Calls Tryz.prog 49 #[.agg #[.int .i64 t.q.wells, .slice Aw t.q.nw cw, .slice Af t.q.nf cf, .slice Ao t.no co, .slice Ap t.np cp, .slice As t.ns cs, .int .i64 t.far, .int .i64 t.harm, .int .i64 t.many], .int .i64 (i : Int)] w12 fun e w' => e = .returned (.tuple #[.int .i64 0, .int .i64 3]) ∧ Below w12.heap.size w12 w')).mono ?_
      rintro e w13 ⟨rfl, hb⟩
      have hB13 : Below w12.heap.size w12 w13 := bTrans (Below.refl _ _) hb
      have HD13 := Lib.hid (bTrans HD12.out hB13)
      have HT13 := Lib.hid (HT12.out.mono hB13)
      have HTB13 := Lib.hid (HTB12.out.mono hB13)
      have HNA13 := Lib.hid (HNA12.out.mono hB13)
      have HF13 := Lib.hid (HF12.out.mono hB13)
      have T13 := Lib.hid (T12.out.mono hB13)
      clear hb hB13 HD12 HT12 HTB12 HNA12 HF12 T12 T_0 T_1 T_2 T_3 T_4 T_5 T_6 T_7 T_8 T_l
      obtain ⟨T_0, T_1, T_2, T_3, T_4, T_5, T_6, T_7, T_8, T_l⟩ := T13.out.c9
      go_wp2_with fail
      refine (isKnown9_any 3 _).mono ?_
      rintro e w14 ⟨rfl, hb⟩
      have hB14 : Below w13.heap.size w13 w14 := bTrans (Below.refl _ _) hb
      have HD14 := Lib.hid (bTrans HD13.out hB14)
      have HT14 := Lib.hid (HT13.out.mono hB14)
      have HTB14 := Lib.hid (HTB13.out.mono hB14)
      have HNA14 := Lib.hid (HNA13.out.mono hB14)
      have HF14 := Lib.hid (HF13.out.mono hB14)
      have T14 := Lib.hid (T13.out.mono hB14)
      clear hb hB14 HD13 HT13 HTB13 HNA13 HF13 T13 T_0 T_1 T_2 T_3 T_4 T_5 T_6 T_7 T_8 T_l
      obtain ⟨T_0, T_1, T_2, T_3, T_4, T_5, T_6, T_7, T_8, T_l⟩ := T14.out.c9
      go_wp2_with fail
      refine ((by have := HIN.out (i : Int) _ HF14.out; rw [decide_eq_false HNF.out] at this; exact this : Calls Tryz.prog 41 #[.slice A7 zf c7, .int .i64 (i : Int)] w14 fun e w' => e = .returned (.bool false) ∧ Below w14.heap.size w14 w')).mono ?_
      rintro e w15 ⟨rfl, hb⟩
      have hB15 : Below w14.heap.size w14 w15 := bTrans (Below.refl _ _) hb
      have HD15 := Lib.hid (bTrans HD14.out hB15)
      have HT15 := Lib.hid (HT14.out.mono hB15)
      have HTB15 := Lib.hid (HTB14.out.mono hB15)
      have HNA15 := Lib.hid (HNA14.out.mono hB15)
      have HF15 := Lib.hid (HF14.out.mono hB15)
      have T15 := Lib.hid (T14.out.mono hB15)
      clear hb hB15 HD14 HT14 HTB14 HNA14 HF14 T14 T_0 T_1 T_2 T_3 T_4 T_5 T_6 T_7 T_8 T_l
      obtain ⟨T_0, T_1, T_2, T_3, T_4, T_5, T_6, T_7, T_8, T_l⟩ := T15.out.c9
      go_wp2_with fail
      refine (works9_any _ HTB15.out HNA15.out).mono ?_
      rintro e w16 ⟨rfl, hb⟩
      have hB16 : Below w15.heap.size w15 w16 := bTrans (Below.refl _ _) hb
      have HD16 := Lib.hid (bTrans HD15.out hB16)
      have HT16 := Lib.hid (HT15.out.mono hB16)
      have HTB16 := Lib.hid (HTB15.out.mono hB16)
      have HNA16 := Lib.hid (HNA15.out.mono hB16)
      have HF16 := Lib.hid (HF15.out.mono hB16)
      have T16 := Lib.hid (T15.out.mono hB16)
      clear hb hB16 HD15 HT15 HTB15 HNA15 HF15 T15 T_0 T_1 T_2 T_3 T_4 T_5 T_6 T_7 T_8 T_l
      obtain ⟨T_0, T_1, T_2, T_3, T_4, T_5, T_6, T_7, T_8, T_l⟩ := T16.out.c9
      go_wp2_with fail
      go_ret
      exact ⟨rfl, HD16.out⟩
    have HY2 := Lib.hid (show (t.cheap i).2 = 0 by unfold Pt.canB at hci; simpa using hci)
    have HCI := Lib.hid hci
    have hcm := HA5.out hci
    have k10 : ¬ m1 < cV := by omega
    clear hci hcm
    refine ((by have := pricesP_any Aw Af Ao Ap As cw cf co cp cs t (i : Int) w11 HSM.out HT11.out HTB11.out HNA11.out; rw [HPO.out, HY2.out] at this; exact this : Calls Tryz.prog 25 #[.agg #[.int .i64 t.q.wells, .slice Aw t.q.nw cw, .slice Af t.q.nf cf, .slice Ao t.no co, .slice Ap t.np cp, .slice As t.ns cs, .int .i64 t.far, .int .i64 t.harm, .int .i64 t.many], .int .i64 (i : Int)] w11 fun e w' => e = .returned (.tuple #[.int .i64 y1, .int .i64 0]) ∧ Below w11.heap.size w11 w')).mono ?_
    rintro e w12 ⟨rfl, hb⟩
    have hB12 : Below w11.heap.size w11 w12 := bTrans (Below.refl _ _) hb
    have HD12 := Lib.hid (bTrans HD11.out hB12)
    have HT12 := Lib.hid (HT11.out.mono hB12)
    have HTB12 := Lib.hid (HTB11.out.mono hB12)
    have HNA12 := Lib.hid (HNA11.out.mono hB12)
    have HF12 := Lib.hid (HF11.out.mono hB12)
    have T12 := Lib.hid (T11.out.mono hB12)
    clear hb hB12 HD11 HT11 HTB11 HNA11 HF11 T11 T_0 T_1 T_2 T_3 T_4 T_5 T_6 T_7 T_8 T_l
    obtain ⟨T_0, T_1, T_2, T_3, T_4, T_5, T_6, T_7, T_8, T_l⟩ := T12.out.c9
    go_wp2_with fail
    refine ((by have := wholeP_any Aw Af Ao Ap As cw cf co cp cs t (i : Int) w12 HSM.out HT12.out HTB12.out HNA12.out; rw [HW1.out, HCI.out, if_pos rfl] at this; exact this : Calls Tryz.prog 49 #[.agg #[.int .i64 t.q.wells, .slice Aw t.q.nw cw, .slice Af t.q.nf cf, .slice Ao t.no co, .slice Ap t.np cp, .slice As t.ns cs, .int .i64 t.far, .int .i64 t.harm, .int .i64 t.many], .int .i64 (i : Int)] w12 fun e w' => e = .returned (.tuple #[.int .i64 m1, .int .i64 0]) ∧ Below w12.heap.size w12 w')).mono ?_
    rintro e w13 ⟨rfl, hb⟩
    have hB13 : Below w12.heap.size w12 w13 := bTrans (Below.refl _ _) hb
    have HD13 := Lib.hid (bTrans HD12.out hB13)
    have HT13 := Lib.hid (HT12.out.mono hB13)
    have HTB13 := Lib.hid (HTB12.out.mono hB13)
    have HNA13 := Lib.hid (HNA12.out.mono hB13)
    have HF13 := Lib.hid (HF12.out.mono hB13)
    have T13 := Lib.hid (T12.out.mono hB13)
    clear hb hB13 HD12 HT12 HTB12 HNA12 HF12 T12 T_0 T_1 T_2 T_3 T_4 T_5 T_6 T_7 T_8 T_l
    obtain ⟨T_0, T_1, T_2, T_3, T_4, T_5, T_6, T_7, T_8, T_l⟩ := T13.out.c9
    go_wp2_with fail
    refine (isKnown9_any 0 _).mono ?_
    rintro e w14 ⟨rfl, hb⟩
    have hB14 : Below w13.heap.size w13 w14 := bTrans (Below.refl _ _) hb
    have HD14 := Lib.hid (bTrans HD13.out hB14)
    have HT14 := Lib.hid (HT13.out.mono hB14)
    have HTB14 := Lib.hid (HTB13.out.mono hB14)
    have HNA14 := Lib.hid (HNA13.out.mono hB14)
    have HF14 := Lib.hid (HF13.out.mono hB14)
    have T14 := Lib.hid (T13.out.mono hB14)
    clear hb hB14 HD13 HT13 HTB13 HNA13 HF13 T13 T_0 T_1 T_2 T_3 T_4 T_5 T_6 T_7 T_8 T_l
    obtain ⟨T_0, T_1, T_2, T_3, T_4, T_5, T_6, T_7, T_8, T_l⟩ := T14.out.c9
    go_wp2_with fail
    by_cases hif : (i : Int) ∈ t.frees
    case pos =>
      have hq1 := HA6.out (HFI.out.1 hif)
      have hq2 := HA7.out (HFI.out.1 hif)
      have k11 : ¬ y1 < bV := by omega
      have k12 : (m1 == y1) = true := by rw [hq2]; exact beq_self_eq_true _
      have k13 : (m1 != y1) = false := by rw [hq2]; simp
      have HIF := Lib.hid hif
      clear hif hq1 hq2
      refine ((by have := HIN.out (i : Int) _ HF14.out; rw [decide_eq_true HIF.out] at this; exact this : Calls Tryz.prog 41 #[.slice A7 zf c7, .int .i64 (i : Int)] w14 fun e w' => e = .returned (.bool true) ∧ Below w14.heap.size w14 w')).mono ?_
      rintro e w15 ⟨rfl, hb⟩
      have hB15 : Below w14.heap.size w14 w15 := bTrans (Below.refl _ _) hb
      have HD15 := Lib.hid (bTrans HD14.out hB15)
      have HT15 := Lib.hid (HT14.out.mono hB15)
      have HTB15 := Lib.hid (HTB14.out.mono hB15)
      have HNA15 := Lib.hid (HNA14.out.mono hB15)
      have HF15 := Lib.hid (HF14.out.mono hB15)
      have T15 := Lib.hid (T14.out.mono hB15)
      clear hb hB15 HD14 HT14 HTB14 HNA14 HF14 T14 T_0 T_1 T_2 T_3 T_4 T_5 T_6 T_7 T_8 T_l
      obtain ⟨T_0, T_1, T_2, T_3, T_4, T_5, T_6, T_7, T_8, T_l⟩ := T15.out.c9
      go_wp2_with fail
      by_cases hii : i = i2
      case pos =>
        subst hii
        have hb1 : ((i : Int) == (i : Int)) = true := beq_self_eq_true _
        refine ((by have := wholeP_any Aw Af Ao Ap As cw cf co cp cs t (i : Int) w15 HSM.out HT15.out HTB15.out HNA15.out; rw [HW1.out, HCI.out, if_pos rfl] at this; exact this : Calls Tryz.prog 49 #[.agg #[.int .i64 t.q.wells, .slice Aw t.q.nw cw, .slice Af t.q.nf cf, .slice Ao t.no co, .slice Ap t.np cp, .slice As t.ns cs, .int .i64 t.far, .int .i64 t.harm, .int .i64 t.many], .int .i64 (i : Int)] w15 fun e w' => e = .returned (.tuple #[.int .i64 m1, .int .i64 0]) ∧ Below w15.heap.size w15 w')).mono ?_
        rintro e w16 ⟨rfl, hb⟩
        have hB16 : Below w15.heap.size w15 w16 := bTrans (Below.refl _ _) hb
        have HD16 := Lib.hid (bTrans HD15.out hB16)
        have HT16 := Lib.hid (HT15.out.mono hB16)
        have HTB16 := Lib.hid (HTB15.out.mono hB16)
        have HNA16 := Lib.hid (HNA15.out.mono hB16)
        have HF16 := Lib.hid (HF15.out.mono hB16)
        have T16 := Lib.hid (T15.out.mono hB16)
        clear hb hB16 HD15 HT15 HTB15 HNA15 HF15 T15 T_0 T_1 T_2 T_3 T_4 T_5 T_6 T_7 T_8 T_l
        obtain ⟨T_0, T_1, T_2, T_3, T_4, T_5, T_6, T_7, T_8, T_l⟩ := T16.out.c9
        go_wp2_with fail
        refine wp_region_quiet_below (by kernel_rfl) (by kernel_rfl) ?_
        repeat (go_big_quiet_step ((fail)))
        refine wpQuiet_nil ?_
        intro w17 hw9
        have hb := below_of_regrown hw9
        clear hw9
        have hB17 : Below w16.heap.size w16 w17 := bTrans (Below.refl _ _) hb
        have HD17 := Lib.hid (bTrans HD16.out hB17)
        have HT17 := Lib.hid (HT16.out.mono hB17)
        have HTB17 := Lib.hid (HTB16.out.mono hB17)
        have HNA17 := Lib.hid (HNA16.out.mono hB17)
        have HF17 := Lib.hid (HF16.out.mono hB17)
        have T17 := Lib.hid (T16.out.mono hB17)
        clear hb hB17 HD16 HT16 HTB16 HNA16 HF16 T16 T_0 T_1 T_2 T_3 T_4 T_5 T_6 T_7 T_8 T_l
        obtain ⟨T_0, T_1, T_2, T_3, T_4, T_5, T_6, T_7, T_8, T_l⟩ := T17.out.c9
        go_wp2_with fail
        refine (works9_any _ HTB17.out HNA17.out).mono ?_
        rintro e w18 ⟨rfl, hb⟩
        have hB18 : Below w17.heap.size w17 w18 := bTrans (Below.refl _ _) hb
        have HD18 := Lib.hid (bTrans HD17.out hB18)
        have HT18 := Lib.hid (HT17.out.mono hB18)
        have HTB18 := Lib.hid (HTB17.out.mono hB18)
        have HNA18 := Lib.hid (HNA17.out.mono hB18)
        have HF18 := Lib.hid (HF17.out.mono hB18)
        have T18 := Lib.hid (T17.out.mono hB18)
        clear hb hB18 HD17 HT17 HTB17 HNA17 HF17 T17 T_0 T_1 T_2 T_3 T_4 T_5 T_6 T_7 T_8 T_l
        obtain ⟨T_0, T_1, T_2, T_3, T_4, T_5, T_6, T_7, T_8, T_l⟩ := T18.out.c9
        go_wp2_with fail
        go_ret
        exact ⟨rfl, HD18.out⟩
      have hb1 : ((i : Int) == (i2 : Int)) = false := beq_false_of_ne fun h => hii (by omega)
      have hb2 : (i == i2) = false := beq_false_of_ne hii
      cases hc2 : t.canB i2
      case false =>
        refine ((by have := wholeP_any Aw Af Ao Ap As cw cf co cp cs t (i2 : Int) w15 HSM.out HT15.out HTB15.out HNA15.out; rw [HW2.out, hc2, if_neg Bool.false_ne_true] at this; exact this : Calls Tryz.prog 49 #[.agg #[.int .i64 t.q.wells, .slice Aw t.q.nw cw, .slice Af t.q.nf cf, .slice Ao t.no co, .slice Ap t.np cp, .slice As t.ns cs, .int .i64 t.far, .int .i64 t.harm, .int .i64 t.many], .int .i64 (i2 : Int)] w15 fun e w' => e = .returned (.tuple #[.int .i64 0, .int .i64 3]) ∧ Below w15.heap.size w15 w')).mono ?_
        rintro e w16 ⟨rfl, hb⟩
        have hB16 : Below w15.heap.size w15 w16 := bTrans (Below.refl _ _) hb
        have HD16 := Lib.hid (bTrans HD15.out hB16)
        have HT16 := Lib.hid (HT15.out.mono hB16)
        have HTB16 := Lib.hid (HTB15.out.mono hB16)
        have HNA16 := Lib.hid (HNA15.out.mono hB16)
        have HF16 := Lib.hid (HF15.out.mono hB16)
        have T16 := Lib.hid (T15.out.mono hB16)
        clear hb hB16 HD15 HT15 HTB15 HNA15 HF15 T15 T_0 T_1 T_2 T_3 T_4 T_5 T_6 T_7 T_8 T_l
        obtain ⟨T_0, T_1, T_2, T_3, T_4, T_5, T_6, T_7, T_8, T_l⟩ := T16.out.c9
        go_wp2_with fail
        refine wp_region_quiet_below (by kernel_rfl) (by kernel_rfl) ?_
        repeat (go_big_quiet_step ((fail)))
        refine wpQuiet_nil ?_
        intro w17 hw9
        have hb := below_of_regrown hw9
        clear hw9
        have hB17 : Below w16.heap.size w16 w17 := bTrans (Below.refl _ _) hb
        have HD17 := Lib.hid (bTrans HD16.out hB17)
        have HT17 := Lib.hid (HT16.out.mono hB17)
        have HTB17 := Lib.hid (HTB16.out.mono hB17)
        have HNA17 := Lib.hid (HNA16.out.mono hB17)
        have HF17 := Lib.hid (HF16.out.mono hB17)
        have T17 := Lib.hid (T16.out.mono hB17)
        clear hb hB17 HD16 HT16 HTB16 HNA16 HF16 T16 T_0 T_1 T_2 T_3 T_4 T_5 T_6 T_7 T_8 T_l
        obtain ⟨T_0, T_1, T_2, T_3, T_4, T_5, T_6, T_7, T_8, T_l⟩ := T17.out.c9
        go_wp2_with fail
        refine (works9_any _ HTB17.out HNA17.out).mono ?_
        rintro e w18 ⟨rfl, hb⟩
        have hB18 : Below w17.heap.size w17 w18 := bTrans (Below.refl _ _) hb
        have HD18 := Lib.hid (bTrans HD17.out hB18)
        have HT18 := Lib.hid (HT17.out.mono hB18)
        have HTB18 := Lib.hid (HTB17.out.mono hB18)
        have HNA18 := Lib.hid (HNA17.out.mono hB18)
        have HF18 := Lib.hid (HF17.out.mono hB18)
        have T18 := Lib.hid (T17.out.mono hB18)
        clear hb hB18 HD17 HT17 HTB17 HNA17 HF17 T17 T_0 T_1 T_2 T_3 T_4 T_5 T_6 T_7 T_8 T_l
        obtain ⟨T_0, T_1, T_2, T_3, T_4, T_5, T_6, T_7, T_8, T_l⟩ := T18.out.c9
        go_wp2_with fail
        go_ret
        exact ⟨rfl, HD18.out⟩
      refine ((by have := wholeP_any Aw Af Ao Ap As cw cf co cp cs t (i2 : Int) w15 HSM.out HT15.out HTB15.out HNA15.out; rw [HW2.out, hc2, if_pos rfl] at this; exact this : Calls Tryz.prog 49 #[.agg #[.int .i64 t.q.wells, .slice Aw t.q.nw cw, .slice Af t.q.nf cf, .slice Ao t.no co, .slice Ap t.np cp, .slice As t.ns cs, .int .i64 t.far, .int .i64 t.harm, .int .i64 t.many], .int .i64 (i2 : Int)] w15 fun e w' => e = .returned (.tuple #[.int .i64 m2, .int .i64 0]) ∧ Below w15.heap.size w15 w')).mono ?_
      rintro e w16 ⟨rfl, hb⟩
      have hB16 : Below w15.heap.size w15 w16 := bTrans (Below.refl _ _) hb
      have HD16 := Lib.hid (bTrans HD15.out hB16)
      have HT16 := Lib.hid (HT15.out.mono hB16)
      have HTB16 := Lib.hid (HTB15.out.mono hB16)
      have HNA16 := Lib.hid (HNA15.out.mono hB16)
      have HF16 := Lib.hid (HF15.out.mono hB16)
      have T16 := Lib.hid (T15.out.mono hB16)
      clear hb hB16 HD15 HT15 HTB15 HNA15 HF15 T15 T_0 T_1 T_2 T_3 T_4 T_5 T_6 T_7 T_8 T_l
      obtain ⟨T_0, T_1, T_2, T_3, T_4, T_5, T_6, T_7, T_8, T_l⟩ := T16.out.c9
      go_wp2_with fail
      have HC2 := Lib.hid hc2
      have HII := Lib.hid hii
      clear hc2 hii
      obtain ⟨bs, os_, Ar, Af2, Ax, cr, cf2, cx, hA, hbs, _, _, p0, _⟩ := HT16.out.spots.get HI.out
      obtain ⟨bs', os', Ar', Af2', Ax', cr', cf2', cx', hA', _, _, _, q0, _⟩ := HT16.out.spots.get HI2.out
      obtain ⟨rfl, rfl⟩ : bs = bs' ∧ os_ = os' := by rw [hA] at hA'; injection hA' with hA'; injection hA' with h1 h2; exact ⟨h1, h2⟩
      obtain ⟨u, hu⟩ : ∃ u, (t.spot i).at_ = u := ⟨_, rfl⟩
      obtain ⟨v, hv⟩ : ∃ v, (t.spot i2).at_ = v := ⟨_, rfl⟩
      have hua := And.intro (HOK.out.spot i HI.out).a0 (HOK.out.spot i HI.out).a1
      have hvb := And.intro (HOK.out.spot i2 HI2.out).a0 (HOK.out.spot i2 HI2.out).a1
      rw [hu] at hua p0
      rw [hv] at hvb q0
      obtain ⟨d, hd⟩ : ∃ d, dst u v = d := ⟨_, rfl⟩
      have HDI := Lib.hid (fun w' => hd ▸ dist9_any u v w' hua hvb : ∀ w' : World, Calls Tryz.prog 58 #[.int .i64 u, .int .i64 v] w' fun e w'' => e = .returned (.int .i64 d) ∧ Below w'.heap.size w' w'')
      have HD := Lib.hid (show dst (t.spot i).at_ (t.spot i2).at_ = d by rw [hu, hv]; exact hd)
      have h1_i : (i : Int) < (t.ns : Int) := by have := HI.out; omega
      have h1_j : (i2 : Int) < (t.ns : Int) := by have := HI2.out; omega
      have hlt_i := HI.out
      have hlt_j := HI2.out
      have h0_i : (0 : Int) ≤ (i : Int) := by omega
      have h0_j : (0 : Int) ≤ (i2 : Int) := by omega
      subst hA
      clear hA' hu hv hd hua hvb
      by_cases hfar : d < t.far
      case pos =>
        have hd1 : decide (d < t.far) = true := by simpa using hfar
        clear hfar
        refine wp_region_quiet_below (by kernel_rfl) (by kernel_rfl) ?_
        repeat (go_big_quiet_step ((go_at_call 58; exact Calls.regrown_of (HDI.out _))))
        refine wpQuiet_nil ?_
        intro w17 hw9
        have hb := below_of_regrown hw9
        clear hw9
        clear p0 q0 hbs HDI
        have hB17 : Below w16.heap.size w16 w17 := bTrans (Below.refl _ _) hb
        have HD17 := Lib.hid (bTrans HD16.out hB17)
        have HT17 := Lib.hid (HT16.out.mono hB17)
        have HTB17 := Lib.hid (HTB16.out.mono hB17)
        have HNA17 := Lib.hid (HNA16.out.mono hB17)
        have HF17 := Lib.hid (HF16.out.mono hB17)
        have T17 := Lib.hid (T16.out.mono hB17)
        clear hb hB17 HD16 HT16 HTB16 HNA16 HF16 T16 T_0 T_1 T_2 T_3 T_4 T_5 T_6 T_7 T_8 T_l
        obtain ⟨T_0, T_1, T_2, T_3, T_4, T_5, T_6, T_7, T_8, T_l⟩ := T17.out.c9
        go_wp2_with fail
        refine (works9_any _ HTB17.out HNA17.out).mono ?_
        rintro e w18 ⟨rfl, hb⟩
        have hB18 : Below w17.heap.size w17 w18 := bTrans (Below.refl _ _) hb
        have HD18 := Lib.hid (bTrans HD17.out hB18)
        have HT18 := Lib.hid (HT17.out.mono hB18)
        have HTB18 := Lib.hid (HTB17.out.mono hB18)
        have HNA18 := Lib.hid (HNA17.out.mono hB18)
        have HF18 := Lib.hid (HF17.out.mono hB18)
        have T18 := Lib.hid (T17.out.mono hB18)
        clear hb hB18 HD17 HT17 HTB17 HNA17 HF17 T17 T_0 T_1 T_2 T_3 T_4 T_5 T_6 T_7 T_8 T_l
        obtain ⟨T_0, T_1, T_2, T_3, T_4, T_5, T_6, T_7, T_8, T_l⟩ := T18.out.c9
        go_wp2_with fail
        go_ret
        exact ⟨rfl, HD18.out⟩
      have hd1 : decide (d < t.far) = false := by simp; omega
      have hpm : pV ≤ m1 + m2 := HA8.out HCI.out HC2.out HII.out (by rw [HD.out]; omega)
      clear hfar
      refine wp_region_quiet_below (by kernel_rfl) (by kernel_rfl) ?_
      repeat (go_big_quiet_step ((go_at_call 58; exact Calls.regrown_of (HDI.out _))))
      refine wpQuiet_nil ?_
      intro w17 hw9
      have hb := below_of_regrown hw9
      clear hw9
      clear p0 q0 hbs HDI
      have hB17 : Below w16.heap.size w16 w17 := bTrans (Below.refl _ _) hb
      have HD17 := Lib.hid (bTrans HD16.out hB17)
      have HT17 := Lib.hid (HT16.out.mono hB17)
      have HTB17 := Lib.hid (HTB16.out.mono hB17)
      have HNA17 := Lib.hid (HNA16.out.mono hB17)
      have HF17 := Lib.hid (HF16.out.mono hB17)
      have T17 := Lib.hid (T16.out.mono hB17)
      clear hb hB17 HD16 HT16 HTB16 HNA16 HF16 T16 T_0 T_1 T_2 T_3 T_4 T_5 T_6 T_7 T_8 T_l
      obtain ⟨T_0, T_1, T_2, T_3, T_4, T_5, T_6, T_7, T_8, T_l⟩ := T17.out.c9
      go_wp2_with fail
      refine (works9_any _ HTB17.out HNA17.out).mono ?_
      rintro e w18 ⟨rfl, hb⟩
      have hB18 : Below w17.heap.size w17 w18 := bTrans (Below.refl _ _) hb
      have HD18 := Lib.hid (bTrans HD17.out hB18)
      have HT18 := Lib.hid (HT17.out.mono hB18)
      have HTB18 := Lib.hid (HTB17.out.mono hB18)
      have HNA18 := Lib.hid (HNA17.out.mono hB18)
      have HF18 := Lib.hid (HF17.out.mono hB18)
      have T18 := Lib.hid (T17.out.mono hB18)
      clear hb hB18 HD17 HT17 HTB17 HNA17 HF17 T17 T_0 T_1 T_2 T_3 T_4 T_5 T_6 T_7 T_8 T_l
      obtain ⟨T_0, T_1, T_2, T_3, T_4, T_5, T_6, T_7, T_8, T_l⟩ := T18.out.c9
      go_wp2_with fail
      go_ret
      exact ⟨rfl, HD18.out⟩
    have HIF := Lib.hid hif
    clear hif
    refine ((by have := HIN.out (i : Int) _ HF14.out; rw [decide_eq_false HIF.out] at this; exact this : Calls Tryz.prog 41 #[.slice A7 zf c7, .int .i64 (i : Int)] w14 fun e w' => e = .returned (.bool false) ∧ Below w14.heap.size w14 w')).mono ?_
    rintro e w15 ⟨rfl, hb⟩
    have hB15 : Below w14.heap.size w14 w15 := bTrans (Below.refl _ _) hb
    have HD15 := Lib.hid (bTrans HD14.out hB15)
    have HT15 := Lib.hid (HT14.out.mono hB15)
    have HTB15 := Lib.hid (HTB14.out.mono hB15)
    have HNA15 := Lib.hid (HNA14.out.mono hB15)
    have HF15 := Lib.hid (HF14.out.mono hB15)
    have T15 := Lib.hid (T14.out.mono hB15)
    clear hb hB15 HD14 HT14 HTB14 HNA14 HF14 T14 T_0 T_1 T_2 T_3 T_4 T_5 T_6 T_7 T_8 T_l
    obtain ⟨T_0, T_1, T_2, T_3, T_4, T_5, T_6, T_7, T_8, T_l⟩ := T15.out.c9
    go_wp2_with fail
    by_cases hii : i = i2
    case pos =>
      subst hii
      have hb1 : ((i : Int) == (i : Int)) = true := beq_self_eq_true _
      refine ((by have := wholeP_any Aw Af Ao Ap As cw cf co cp cs t (i : Int) w15 HSM.out HT15.out HTB15.out HNA15.out; rw [HW1.out, HCI.out, if_pos rfl] at this; exact this : Calls Tryz.prog 49 #[.agg #[.int .i64 t.q.wells, .slice Aw t.q.nw cw, .slice Af t.q.nf cf, .slice Ao t.no co, .slice Ap t.np cp, .slice As t.ns cs, .int .i64 t.far, .int .i64 t.harm, .int .i64 t.many], .int .i64 (i : Int)] w15 fun e w' => e = .returned (.tuple #[.int .i64 m1, .int .i64 0]) ∧ Below w15.heap.size w15 w')).mono ?_
      rintro e w16 ⟨rfl, hb⟩
      have hB16 : Below w15.heap.size w15 w16 := bTrans (Below.refl _ _) hb
      have HD16 := Lib.hid (bTrans HD15.out hB16)
      have HT16 := Lib.hid (HT15.out.mono hB16)
      have HTB16 := Lib.hid (HTB15.out.mono hB16)
      have HNA16 := Lib.hid (HNA15.out.mono hB16)
      have HF16 := Lib.hid (HF15.out.mono hB16)
      have T16 := Lib.hid (T15.out.mono hB16)
      clear hb hB16 HD15 HT15 HTB15 HNA15 HF15 T15 T_0 T_1 T_2 T_3 T_4 T_5 T_6 T_7 T_8 T_l
      obtain ⟨T_0, T_1, T_2, T_3, T_4, T_5, T_6, T_7, T_8, T_l⟩ := T16.out.c9
      go_wp2_with fail
      refine wp_region_quiet_below (by kernel_rfl) (by kernel_rfl) ?_
      repeat (go_big_quiet_step ((fail)))
      refine wpQuiet_nil ?_
      intro w17 hw9
      have hb := below_of_regrown hw9
      clear hw9
      have hB17 : Below w16.heap.size w16 w17 := bTrans (Below.refl _ _) hb
      have HD17 := Lib.hid (bTrans HD16.out hB17)
      have HT17 := Lib.hid (HT16.out.mono hB17)
      have HTB17 := Lib.hid (HTB16.out.mono hB17)
      have HNA17 := Lib.hid (HNA16.out.mono hB17)
      have HF17 := Lib.hid (HF16.out.mono hB17)
      have T17 := Lib.hid (T16.out.mono hB17)
      clear hb hB17 HD16 HT16 HTB16 HNA16 HF16 T16 T_0 T_1 T_2 T_3 T_4 T_5 T_6 T_7 T_8 T_l
      obtain ⟨T_0, T_1, T_2, T_3, T_4, T_5, T_6, T_7, T_8, T_l⟩ := T17.out.c9
      go_wp2_with fail
      refine (works9_any _ HTB17.out HNA17.out).mono ?_
      rintro e w18 ⟨rfl, hb⟩
      have hB18 : Below w17.heap.size w17 w18 := bTrans (Below.refl _ _) hb
      have HD18 := Lib.hid (bTrans HD17.out hB18)
      have HT18 := Lib.hid (HT17.out.mono hB18)
      have HTB18 := Lib.hid (HTB17.out.mono hB18)
      have HNA18 := Lib.hid (HNA17.out.mono hB18)
      have HF18 := Lib.hid (HF17.out.mono hB18)
      have T18 := Lib.hid (T17.out.mono hB18)
      clear hb hB18 HD17 HT17 HTB17 HNA17 HF17 T17 T_0 T_1 T_2 T_3 T_4 T_5 T_6 T_7 T_8 T_l
      obtain ⟨T_0, T_1, T_2, T_3, T_4, T_5, T_6, T_7, T_8, T_l⟩ := T18.out.c9
      go_wp2_with fail
      go_ret
      exact ⟨rfl, HD18.out⟩
    have hb1 : ((i : Int) == (i2 : Int)) = false := beq_false_of_ne fun h => hii (by omega)
    have hb2 : (i == i2) = false := beq_false_of_ne hii
    cases hc2 : t.canB i2
    case false =>
      refine ((by have := wholeP_any Aw Af Ao Ap As cw cf co cp cs t (i2 : Int) w15 HSM.out HT15.out HTB15.out HNA15.out; rw [HW2.out, hc2, if_neg Bool.false_ne_true] at this; exact this : Calls Tryz.prog 49 #[.agg #[.int .i64 t.q.wells, .slice Aw t.q.nw cw, .slice Af t.q.nf cf, .slice Ao t.no co, .slice Ap t.np cp, .slice As t.ns cs, .int .i64 t.far, .int .i64 t.harm, .int .i64 t.many], .int .i64 (i2 : Int)] w15 fun e w' => e = .returned (.tuple #[.int .i64 0, .int .i64 3]) ∧ Below w15.heap.size w15 w')).mono ?_
      rintro e w16 ⟨rfl, hb⟩
      have hB16 : Below w15.heap.size w15 w16 := bTrans (Below.refl _ _) hb
      have HD16 := Lib.hid (bTrans HD15.out hB16)
      have HT16 := Lib.hid (HT15.out.mono hB16)
      have HTB16 := Lib.hid (HTB15.out.mono hB16)
      have HNA16 := Lib.hid (HNA15.out.mono hB16)
      have HF16 := Lib.hid (HF15.out.mono hB16)
      have T16 := Lib.hid (T15.out.mono hB16)
      clear hb hB16 HD15 HT15 HTB15 HNA15 HF15 T15 T_0 T_1 T_2 T_3 T_4 T_5 T_6 T_7 T_8 T_l
      obtain ⟨T_0, T_1, T_2, T_3, T_4, T_5, T_6, T_7, T_8, T_l⟩ := T16.out.c9
      go_wp2_with fail
      refine wp_region_quiet_below (by kernel_rfl) (by kernel_rfl) ?_
      repeat (go_big_quiet_step ((fail)))
      refine wpQuiet_nil ?_
      intro w17 hw9
      have hb := below_of_regrown hw9
      clear hw9
      have hB17 : Below w16.heap.size w16 w17 := bTrans (Below.refl _ _) hb
      have HD17 := Lib.hid (bTrans HD16.out hB17)
      have HT17 := Lib.hid (HT16.out.mono hB17)
      have HTB17 := Lib.hid (HTB16.out.mono hB17)
      have HNA17 := Lib.hid (HNA16.out.mono hB17)
      have HF17 := Lib.hid (HF16.out.mono hB17)
      have T17 := Lib.hid (T16.out.mono hB17)
      clear hb hB17 HD16 HT16 HTB16 HNA16 HF16 T16 T_0 T_1 T_2 T_3 T_4 T_5 T_6 T_7 T_8 T_l
      obtain ⟨T_0, T_1, T_2, T_3, T_4, T_5, T_6, T_7, T_8, T_l⟩ := T17.out.c9
      go_wp2_with fail
      refine (works9_any _ HTB17.out HNA17.out).mono ?_
      rintro e w18 ⟨rfl, hb⟩
      have hB18 : Below w17.heap.size w17 w18 := bTrans (Below.refl _ _) hb
      have HD18 := Lib.hid (bTrans HD17.out hB18)
      have HT18 := Lib.hid (HT17.out.mono hB18)
      have HTB18 := Lib.hid (HTB17.out.mono hB18)
      have HNA18 := Lib.hid (HNA17.out.mono hB18)
      have HF18 := Lib.hid (HF17.out.mono hB18)
      have T18 := Lib.hid (T17.out.mono hB18)
      clear hb hB18 HD17 HT17 HTB17 HNA17 HF17 T17 T_0 T_1 T_2 T_3 T_4 T_5 T_6 T_7 T_8 T_l
      obtain ⟨T_0, T_1, T_2, T_3, T_4, T_5, T_6, T_7, T_8, T_l⟩ := T18.out.c9
      go_wp2_with fail
      go_ret
      exact ⟨rfl, HD18.out⟩
    refine ((by have := wholeP_any Aw Af Ao Ap As cw cf co cp cs t (i2 : Int) w15 HSM.out HT15.out HTB15.out HNA15.out; rw [HW2.out, hc2, if_pos rfl] at this; exact this : Calls Tryz.prog 49 #[.agg #[.int .i64 t.q.wells, .slice Aw t.q.nw cw, .slice Af t.q.nf cf, .slice Ao t.no co, .slice Ap t.np cp, .slice As t.ns cs, .int .i64 t.far, .int .i64 t.harm, .int .i64 t.many], .int .i64 (i2 : Int)] w15 fun e w' => e = .returned (.tuple #[.int .i64 m2, .int .i64 0]) ∧ Below w15.heap.size w15 w')).mono ?_
    rintro e w16 ⟨rfl, hb⟩
    have hB16 : Below w15.heap.size w15 w16 := bTrans (Below.refl _ _) hb
    have HD16 := Lib.hid (bTrans HD15.out hB16)
    have HT16 := Lib.hid (HT15.out.mono hB16)
    have HTB16 := Lib.hid (HTB15.out.mono hB16)
    have HNA16 := Lib.hid (HNA15.out.mono hB16)
    have HF16 := Lib.hid (HF15.out.mono hB16)
    have T16 := Lib.hid (T15.out.mono hB16)
    clear hb hB16 HD15 HT15 HTB15 HNA15 HF15 T15 T_0 T_1 T_2 T_3 T_4 T_5 T_6 T_7 T_8 T_l
    obtain ⟨T_0, T_1, T_2, T_3, T_4, T_5, T_6, T_7, T_8, T_l⟩ := T16.out.c9
    go_wp2_with fail
    have HC2 := Lib.hid hc2
    have HII := Lib.hid hii
    clear hc2 hii
    obtain ⟨bs, os_, Ar, Af2, Ax, cr, cf2, cx, hA, hbs, _, _, p0, _⟩ := HT16.out.spots.get HI.out
    obtain ⟨bs', os', Ar', Af2', Ax', cr', cf2', cx', hA', _, _, _, q0, _⟩ := HT16.out.spots.get HI2.out
    obtain ⟨rfl, rfl⟩ : bs = bs' ∧ os_ = os' := by rw [hA] at hA'; injection hA' with hA'; injection hA' with h1 h2; exact ⟨h1, h2⟩
    obtain ⟨u, hu⟩ : ∃ u, (t.spot i).at_ = u := ⟨_, rfl⟩
    obtain ⟨v, hv⟩ : ∃ v, (t.spot i2).at_ = v := ⟨_, rfl⟩
    have hua := And.intro (HOK.out.spot i HI.out).a0 (HOK.out.spot i HI.out).a1
    have hvb := And.intro (HOK.out.spot i2 HI2.out).a0 (HOK.out.spot i2 HI2.out).a1
    rw [hu] at hua p0
    rw [hv] at hvb q0
    obtain ⟨d, hd⟩ : ∃ d, dst u v = d := ⟨_, rfl⟩
    have HDI := Lib.hid (fun w' => hd ▸ dist9_any u v w' hua hvb : ∀ w' : World, Calls Tryz.prog 58 #[.int .i64 u, .int .i64 v] w' fun e w'' => e = .returned (.int .i64 d) ∧ Below w'.heap.size w' w'')
    have HD := Lib.hid (show dst (t.spot i).at_ (t.spot i2).at_ = d by rw [hu, hv]; exact hd)
    have h1_i : (i : Int) < (t.ns : Int) := by have := HI.out; omega
    have h1_j : (i2 : Int) < (t.ns : Int) := by have := HI2.out; omega
    have hlt_i := HI.out
    have hlt_j := HI2.out
    have h0_i : (0 : Int) ≤ (i : Int) := by omega
    have h0_j : (0 : Int) ≤ (i2 : Int) := by omega
    subst hA
    clear hA' hu hv hd hua hvb
    by_cases hfar : d < t.far
    case pos =>
      have hd1 : decide (d < t.far) = true := by simpa using hfar
      clear hfar
      refine wp_region_quiet_below (by kernel_rfl) (by kernel_rfl) ?_
      repeat (go_big_quiet_step ((go_at_call 58; exact Calls.regrown_of (HDI.out _))))
      refine wpQuiet_nil ?_
      intro w17 hw9
      have hb := below_of_regrown hw9
      clear hw9
      clear p0 q0 hbs HDI
      have hB17 : Below w16.heap.size w16 w17 := bTrans (Below.refl _ _) hb
      have HD17 := Lib.hid (bTrans HD16.out hB17)
      have HT17 := Lib.hid (HT16.out.mono hB17)
      have HTB17 := Lib.hid (HTB16.out.mono hB17)
      have HNA17 := Lib.hid (HNA16.out.mono hB17)
      have HF17 := Lib.hid (HF16.out.mono hB17)
      have T17 := Lib.hid (T16.out.mono hB17)
      clear hb hB17 HD16 HT16 HTB16 HNA16 HF16 T16 T_0 T_1 T_2 T_3 T_4 T_5 T_6 T_7 T_8 T_l
      obtain ⟨T_0, T_1, T_2, T_3, T_4, T_5, T_6, T_7, T_8, T_l⟩ := T17.out.c9
      go_wp2_with fail
      refine (works9_any _ HTB17.out HNA17.out).mono ?_
      rintro e w18 ⟨rfl, hb⟩
      have hB18 : Below w17.heap.size w17 w18 := bTrans (Below.refl _ _) hb
      have HD18 := Lib.hid (bTrans HD17.out hB18)
      have HT18 := Lib.hid (HT17.out.mono hB18)
      have HTB18 := Lib.hid (HTB17.out.mono hB18)
      have HNA18 := Lib.hid (HNA17.out.mono hB18)
      have HF18 := Lib.hid (HF17.out.mono hB18)
      have T18 := Lib.hid (T17.out.mono hB18)
      clear hb hB18 HD17 HT17 HTB17 HNA17 HF17 T17 T_0 T_1 T_2 T_3 T_4 T_5 T_6 T_7 T_8 T_l
      obtain ⟨T_0, T_1, T_2, T_3, T_4, T_5, T_6, T_7, T_8, T_l⟩ := T18.out.c9
      go_wp2_with fail
      go_ret
      exact ⟨rfl, HD18.out⟩
    have hd1 : decide (d < t.far) = false := by simp; omega
    have hpm : pV ≤ m1 + m2 := HA8.out HCI.out HC2.out HII.out (by rw [HD.out]; omega)
    clear hfar
    refine wp_region_quiet_below (by kernel_rfl) (by kernel_rfl) ?_
    repeat (go_big_quiet_step ((go_at_call 58; exact Calls.regrown_of (HDI.out _))))
    refine wpQuiet_nil ?_
    intro w17 hw9
    have hb := below_of_regrown hw9
    clear hw9
    clear p0 q0 hbs HDI
    have hB17 : Below w16.heap.size w16 w17 := bTrans (Below.refl _ _) hb
    have HD17 := Lib.hid (bTrans HD16.out hB17)
    have HT17 := Lib.hid (HT16.out.mono hB17)
    have HTB17 := Lib.hid (HTB16.out.mono hB17)
    have HNA17 := Lib.hid (HNA16.out.mono hB17)
    have HF17 := Lib.hid (HF16.out.mono hB17)
    have T17 := Lib.hid (T16.out.mono hB17)
    clear hb hB17 HD16 HT16 HTB16 HNA16 HF16 T16 T_0 T_1 T_2 T_3 T_4 T_5 T_6 T_7 T_8 T_l
    obtain ⟨T_0, T_1, T_2, T_3, T_4, T_5, T_6, T_7, T_8, T_l⟩ := T17.out.c9
    go_wp2_with fail
    refine (works9_any _ HTB17.out HNA17.out).mono ?_
    rintro e w18 ⟨rfl, hb⟩
    have hB18 : Below w17.heap.size w17 w18 := bTrans (Below.refl _ _) hb
    have HD18 := Lib.hid (bTrans HD17.out hB18)
    have HT18 := Lib.hid (HT17.out.mono hB18)
    have HTB18 := Lib.hid (HTB17.out.mono hB18)
    have HNA18 := Lib.hid (HNA17.out.mono hB18)
    have HF18 := Lib.hid (HF17.out.mono hB18)
    have T18 := Lib.hid (T17.out.mono hB18)
    clear hb hB18 HD17 HT17 HTB17 HNA17 HF17 T17 T_0 T_1 T_2 T_3 T_4 T_5 T_6 T_7 T_8 T_l
    obtain ⟨T_0, T_1, T_2, T_3, T_4, T_5, T_6, T_7, T_8, T_l⟩ := T18.out.c9
    go_wp2_with fail
    go_ret
    exact ⟨rfl, HD18.out⟩
end Go.Proofs.YtjpfdhhiofjpbaaGreatDoor
