/- Parts joined: what all claims of this seat need. -/
import Derived.Test.YtifkjnmnflhnoaaGreatDoorNBN
import Derived.Test.YtifkjnmnflhnoaaGreatDoorNBQ
import Derived.Test.YtifkjnmnflhnoaaGreatDoorNBC
import Derived.Test.YtifkjnmnflhnoaaGreatDoorNBE
import Derived.Test.YtifkjnmnflhnoaaGreatDoorNBH
import Derived.Test.YtifkjnmnflhnoaaGreatDoorNBI
set_option linter.unusedSimpArgs false
set_option linter.unusedVariables false
namespace Go.Proofs.YtifkjnmnflhnoaaGreatDoor
open Go.RowKit Go.Sort
theorem diffS_self (a b : Int) : diffS a b a b = false := by simp [diffS]
theorem scr_dg2 {m dy : Int} {n : Nat} {A1 : Option Addr} {c1 : Nat} {A2 : Option Addr} {c2 : Nat} {l1 l2 : List Ent} {S U : Nat → Int × Int} (hm : m = (n : Int)) (hn : n ≤ 4) (hd : 0 ≤ dy ∧ dy ≤ 30) (h1 : EntL 0 S n l1) (h2 : EntL dy U n l2)
    (hb : ∀ i, i < n → 0 ≤ (S i).1 ∧ (S i).1 ≤ (U i).1 ∧ (U i).1 ≤ (U i).2 ∧ (U i).2 ≤ (S i).2 ∧ (S i).2 ≤ 9) : Dg (scrB m dy n A1 c1 A2 c2 l1 l2) n dy U := by
  subst hm
  exact scr_dg hn hd h1 h2 hb
theorem scr_bounds {t o : Qt} {y : Fact} (e : t.add y = o) (ok : t.Ok) (ok' : o.Ok) (hne : o.leftL ≠ []) {p q : Nat} (hp : (p : Int) < t.wells) (hq : (q : Int) < t.wells) :
    t.knowErr (t.wellB (p : Int) && t.wellB (q : Int)) = 0 ∧ o.knowErr (o.wellB (p : Int) && o.wellB (q : Int)) = 0 ∧ 0 ≤ (t.betweenV p q).1 ∧ (t.betweenV p q).1 ≤ (o.betweenV p q).1 ∧ (o.betweenV p q).1 ≤ (o.betweenV p q).2 ∧ (o.betweenV p q).2 ≤ (t.betweenV p q).2 ∧ (t.betweenV p q).2 ≤ 9 := by
  have hlen : o.leftO.length ≠ 0 := by
    rw [leftO_ok ok']
    intro h
    exact hne (List.eq_nil_of_length_eq_zero h)
  obtain ⟨k1, k2, _⟩ := more_know e ok ok' hlen
  have h1 : t.knowErr (t.wellB (p : Int) && t.wellB (q : Int)) = 0 := by rw [wellB_in ok hp, wellB_in ok hq]; exact k1
  have h2 : o.knowErr (o.wellB (p : Int) && o.wellB (q : Int)) = 0 := by rw [wellB_in ok' (by rw [add_wells e]; exact hp), wellB_in ok' (by rw [add_wells e]; exact hq)]; exact k2
  refine ⟨h1, h2, ?_⟩
  have hm := (more_between e ok ok' hne h1 h2).1
  unfold inSpan at hm
  simp only [Bool.and_eq_true, decide_eq_true_eq] at hm
  obtain ⟨⟨m1, m2⟩, m3⟩ := hm
  have hneT : t.leftL ≠ [] := by
    obtain ⟨a, ha⟩ := List.exists_mem_of_ne_nil _ hne
    subst e
    exact List.ne_nil_of_mem (add_sub t y a ha)
  have hF : ∀ a, a ∈ t.leftL → 0 ≤ t.F a (p, q) ∧ t.F a (p, q) ≤ 9 := fun a ha => by
    obtain ⟨i, hi, _, rfl⟩ := (leftTo_mem t t.nw).1 ha
    exact F_bd ok hi hp hq
  have hv : t.betweenV p q = spanOf (fun a => t.F a (p, q)) t.leftL := by
    unfold Qt.betweenV
    rw [if_pos h1, Int.toNat_natCast, Int.toNat_natCast, between_of]
  have b1 : 0 ≤ (t.betweenV p q).1 := by rw [hv]; exact (spanOf_ge hneT).2 fun a ha => (hF a ha).1
  have b2 : (t.betweenV p q).2 ≤ 9 := by rw [hv]; exact (spanOf_le hneT).2 fun a ha => (hF a ha).2
  exact ⟨b1, m1, m2, m3, b2⟩
set_option maxHeartbeats 16000000 in
set_option maxRecDepth 100000 in
theorem topTwoBooks_any (Aw Af : Option Addr) (cw cf : Nat) (t : Qt) (y : Fact) (fr dy : Int) (w : World) (hf : t.Fits) (hT : QAt w Aw Af t) (hB : TabAt w) :
    Calls Tryz.prog 3 #[.agg #[.int .i64 t.wells, .slice Aw t.nw cw, .slice Af t.nf cf], .agg #[.int .i64 y.from_, .int .i64 y.many, .int .i64 y.to_, .int .i64 y.low, .int .i64 y.high], .agg #[.int .i64 fr, .int .i64 dy]] w fun e w' => e = .returned (.bool true) ∧ Below w.heap.size w w' := by
  have HTW := Lib.hid hT
  have HTBW := Lib.hid hB
  have HD0 := Lib.hid (Below.refl w.heap.size w)
  have HSM := Lib.hid hf.small
  have HF := Lib.hid hf
  have HT0 := Lib.hid hT
  have HTB0 := Lib.hid hB
  clear hf hT hB
  go_enter Tryz.func3, Tryz.ntmps3
  go_wp2_with fail
  obtain ⟨o, ho⟩ : ∃ o, t.add y = o := ⟨_, rfl⟩
  have HOA := Lib.hid ho
  have HSO := Lib.hid (show o.Small by rw [← ho]; exact add_small HF.out y)
  clear ho
  refine ((by have := told5_any Aw Af cw cf t y _ HF.out (HT0.out.mono (bAlloc (bAlloc (bAlloc (Below.refl _ _) (.cells #[.int .i64 t.wells, .slice Aw t.nw cw, .slice Af t.nf cf] 25)) (.cells #[.int .i64 y.from_, .int .i64 y.many, .int .i64 y.to_, .int .i64 y.low, .int .i64 y.high] 27)) (.cells #[.int .i64 fr, .int .i64 dy] 29))); rw [HOA.out] at this; exact this : Calls Tryz.prog 4 #[.agg #[.int .i64 t.wells, .slice Aw t.nw cw, .slice Af t.nf cf], .agg #[.int .i64 y.from_, .int .i64 y.many, .int .i64 y.to_, .int .i64 y.low, .int .i64 y.high]] (((w.alloc (.cells #[.int .i64 t.wells, .slice Aw t.nw cw, .slice Af t.nf cf] 25)).alloc (.cells #[.int .i64 y.from_, .int .i64 y.many, .int .i64 y.to_, .int .i64 y.low, .int .i64 y.high] 27)).alloc (.cells #[.int .i64 fr, .int .i64 dy] 29)) fun e w' => CopyOut w' (((w.alloc (.cells #[.int .i64 t.wells, .slice Aw t.nw cw, .slice Af t.nf cf] 25)).alloc (.cells #[.int .i64 y.from_, .int .i64 y.many, .int .i64 y.to_, .int .i64 y.low, .int .i64 y.high] 27)).alloc (.cells #[.int .i64 fr, .int .i64 dy] 29)).heap.size o e ∧ Below (((w.alloc (.cells #[.int .i64 t.wells, .slice Aw t.nw cw, .slice Af t.nf cf] 25)).alloc (.cells #[.int .i64 y.from_, .int .i64 y.many, .int .i64 y.to_, .int .i64 y.low, .int .i64 y.high] 27)).alloc (.cells #[.int .i64 fr, .int .i64 dy] 29)).heap.size (((w.alloc (.cells #[.int .i64 t.wells, .slice Aw t.nw cw, .slice Af t.nf cf] 25)).alloc (.cells #[.int .i64 y.from_, .int .i64 y.many, .int .i64 y.to_, .int .i64 y.low, .int .i64 y.high] 27)).alloc (.cells #[.int .i64 fr, .int .i64 dy] 29)) w')).mono ?_
  rintro e w1 ⟨⟨vW, vF, rfl, hc⟩, hb⟩
  obtain ⟨Bw, dw, Bf, df, rfl, rfl, hq⟩ := hc.qat
  have hB1 : Below w.heap.size w w1 := bTrans (bAlloc (bAlloc (bAlloc (Below.refl _ _) (.cells #[.int .i64 t.wells, .slice Aw t.nw cw, .slice Af t.nf cf] 25)) (.cells #[.int .i64 y.from_, .int .i64 y.many, .int .i64 y.to_, .int .i64 y.low, .int .i64 y.high] 27)) (.cells #[.int .i64 fr, .int .i64 dy] 29)) hb
  have HD1 := Lib.hid (bTrans HD0.out hB1)
  have HT1 := Lib.hid (HT0.out.mono hB1)
  have HTB1 := Lib.hid (HTB0.out.mono hB1)
  have HQ1 := Lib.hid (hq)
  have HCP1 := Lib.hid (hc)
  have T1 := Lib.hid (show TBox w1 w.heap.size 25 #[.int .i64 t.wells, .slice Aw t.nw cw, .slice Af t.nf cf] from by have := ((TBox.new w #[.int .i64 t.wells, .slice Aw t.nw cw, .slice Af t.nf cf] 25).mono (bAlloc (bAlloc (Below.refl _ _) (.cells #[.int .i64 y.from_, .int .i64 y.many, .int .i64 y.to_, .int .i64 y.low, .int .i64 y.high] 27)) (.cells #[.int .i64 fr, .int .i64 dy] 29))).mono hb; simpa using this)
  have Y1 := Lib.hid (show TBox w1 (w.heap.size + 1) 27 #[.int .i64 y.from_, .int .i64 y.many, .int .i64 y.to_, .int .i64 y.low, .int .i64 y.high] from by have := ((TBox.new (w.alloc (.cells #[.int .i64 t.wells, .slice Aw t.nw cw, .slice Af t.nf cf] 25)) #[.int .i64 y.from_, .int .i64 y.many, .int .i64 y.to_, .int .i64 y.low, .int .i64 y.high] 27).mono (bAlloc (Below.refl _ _) (.cells #[.int .i64 fr, .int .i64 dy] 29))).mono hb; simpa using this)
  have X1 := Lib.hid (show TBox w1 (w.heap.size + 1 + 1) 29 #[.int .i64 fr, .int .i64 dy] from by have := ((TBox.new ((w.alloc (.cells #[.int .i64 t.wells, .slice Aw t.nw cw, .slice Af t.nf cf] 25)).alloc (.cells #[.int .i64 y.from_, .int .i64 y.many, .int .i64 y.to_, .int .i64 y.low, .int .i64 y.high] 27)) #[.int .i64 fr, .int .i64 dy] 29).mono (Below.refl _ _)).mono hb; simpa using this)
  clear hb hB1 HD0 HT0 HTB0
  obtain ⟨T_0, T_1, T_2, T_l⟩ := T1.out.c3
  obtain ⟨Y_0, Y_1, Y_2, Y_3, Y_4, Y_l⟩ := Y1.out.c5
  obtain ⟨X_0, X_1, X_l⟩ := X1.out.c2
  clear hc hq
  go_wp2_with fail
  refine (huge_any _ _ _ _ t _ HSM.out (HT1.out.mono (bAlloc (Below.refl _ _) (.cells #[.int .i64 o.wells, .slice Bw o.nw dw, .slice Bf o.nf df] 25)))).mono ?_
  rintro e w2 ⟨rfl, hb⟩
  have hB2 : Below w1.heap.size w1 w2 := bTrans (bAlloc (Below.refl _ _) (.cells #[.int .i64 o.wells, .slice Bw o.nw dw, .slice Bf o.nf df] 25)) hb
  have HD2 := Lib.hid (bTrans HD1.out hB2)
  have HT2 := Lib.hid (HT1.out.mono hB2)
  have HTB2 := Lib.hid (HTB1.out.mono hB2)
  have HQ2 := Lib.hid (HQ1.out.mono hB2)
  have HCP2 := Lib.hid (HCP1.out.mono hB2)
  have T2 := Lib.hid (T1.out.mono hB2)
  have Y2 := Lib.hid (Y1.out.mono hB2)
  have X2 := Lib.hid (X1.out.mono hB2)
  have O2 := Lib.hid (show TBox w2 w1.heap.size 25 #[.int .i64 o.wells, .slice Bw o.nw dw, .slice Bf o.nf df] from by have := ((TBox.new w1 #[.int .i64 o.wells, .slice Bw o.nw dw, .slice Bf o.nf df] 25).mono (Below.refl _ _)).mono hb; simpa using this)
  clear hb hB2 HD1 HT1 HTB1 HQ1 HCP1 T1 T_0 T_1 T_2 T_l Y1 Y_0 Y_1 Y_2 Y_3 Y_4 Y_l X1 X_0 X_1 X_l
  obtain ⟨T_0, T_1, T_2, T_l⟩ := T2.out.c3
  obtain ⟨Y_0, Y_1, Y_2, Y_3, Y_4, Y_l⟩ := Y2.out.c5
  obtain ⟨X_0, X_1, X_l⟩ := X2.out.c2
  obtain ⟨O_0, O_1, O_2, O_l⟩ := O2.out.c3
  by_cases hcc : t.huge = false
  case neg =>
    rw [show t.huge = true by simpa using hcc]
    clear hcc
    go_wp2_with fail
    refine (booked_any _ HTB2.out).mono ?_
    rintro e w3 ⟨rfl, hb⟩
    have hB3 : Below w2.heap.size w2 w3 := bTrans (Below.refl _ _) hb
    have HD3 := Lib.hid (bTrans HD2.out hB3)
    have HT3 := Lib.hid (HT2.out.mono hB3)
    have HTB3 := Lib.hid (HTB2.out.mono hB3)
    have HQ3 := Lib.hid (HQ2.out.mono hB3)
    have HCP3 := Lib.hid (HCP2.out.mono hB3)
    have T3 := Lib.hid (T2.out.mono hB3)
    have Y3 := Lib.hid (Y2.out.mono hB3)
    have X3 := Lib.hid (X2.out.mono hB3)
    have O3 := Lib.hid (O2.out.mono hB3)
    clear hb hB3 HD2 HT2 HTB2 HQ2 HCP2 T2 T_0 T_1 T_2 T_l Y2 Y_0 Y_1 Y_2 Y_3 Y_4 Y_l X2 X_0 X_1 X_l O2 O_0 O_1 O_2 O_l
    obtain ⟨T_0, T_1, T_2, T_l⟩ := T3.out.c3
    obtain ⟨Y_0, Y_1, Y_2, Y_3, Y_4, Y_l⟩ := Y3.out.c5
    obtain ⟨X_0, X_1, X_l⟩ := X3.out.c2
    obtain ⟨O_0, O_1, O_2, O_l⟩ := O3.out.c3
    go_wp2_with fail
    go_ret
    exact ⟨rfl, HD3.out⟩
  rw [hcc]
  clear hcc
  go_wp2_with fail
  refine (refCheck5 _ _ _ _ t _ HSM.out.1 HSM.out.2.1 HT2.out).mono ?_
  rintro e w3 ⟨rfl, hb⟩
  have hB3 : Below w2.heap.size w2 w3 := bTrans (Below.refl _ _) hb
  have HD3 := Lib.hid (bTrans HD2.out hB3)
  have HT3 := Lib.hid (HT2.out.mono hB3)
  have HTB3 := Lib.hid (HTB2.out.mono hB3)
  have HQ3 := Lib.hid (HQ2.out.mono hB3)
  have HCP3 := Lib.hid (HCP2.out.mono hB3)
  have T3 := Lib.hid (T2.out.mono hB3)
  have Y3 := Lib.hid (Y2.out.mono hB3)
  have X3 := Lib.hid (X2.out.mono hB3)
  have O3 := Lib.hid (O2.out.mono hB3)
  clear hb hB3 HD2 HT2 HTB2 HQ2 HCP2 T2 T_0 T_1 T_2 T_l Y2 Y_0 Y_1 Y_2 Y_3 Y_4 Y_l X2 X_0 X_1 X_l O2 O_0 O_1 O_2 O_l
  obtain ⟨T_0, T_1, T_2, T_l⟩ := T3.out.c3
  obtain ⟨Y_0, Y_1, Y_2, Y_3, Y_4, Y_l⟩ := Y3.out.c5
  obtain ⟨X_0, X_1, X_l⟩ := X3.out.c2
  obtain ⟨O_0, O_1, O_2, O_l⟩ := O3.out.c3
  by_cases hcc : t.Ok
  case neg =>
    rw [Qt.err_bad hcc]
    clear hcc
    go_wp2_with fail
    refine (booked_any _ HTB3.out).mono ?_
    rintro e w4 ⟨rfl, hb⟩
    have hB4 : Below w3.heap.size w3 w4 := bTrans (Below.refl _ _) hb
    have HD4 := Lib.hid (bTrans HD3.out hB4)
    have HT4 := Lib.hid (HT3.out.mono hB4)
    have HTB4 := Lib.hid (HTB3.out.mono hB4)
    have HQ4 := Lib.hid (HQ3.out.mono hB4)
    have HCP4 := Lib.hid (HCP3.out.mono hB4)
    have T4 := Lib.hid (T3.out.mono hB4)
    have Y4 := Lib.hid (Y3.out.mono hB4)
    have X4 := Lib.hid (X3.out.mono hB4)
    have O4 := Lib.hid (O3.out.mono hB4)
    clear hb hB4 HD3 HT3 HTB3 HQ3 HCP3 T3 T_0 T_1 T_2 T_l Y3 Y_0 Y_1 Y_2 Y_3 Y_4 Y_l X3 X_0 X_1 X_l O3 O_0 O_1 O_2 O_l
    obtain ⟨T_0, T_1, T_2, T_l⟩ := T4.out.c3
    obtain ⟨Y_0, Y_1, Y_2, Y_3, Y_4, Y_l⟩ := Y4.out.c5
    obtain ⟨X_0, X_1, X_l⟩ := X4.out.c2
    obtain ⟨O_0, O_1, O_2, O_l⟩ := O4.out.c3
    go_wp2_with fail
    go_ret
    exact ⟨rfl, HD4.out⟩
  rw [Qt.err_ok hcc]
  have HOK := Lib.hid hcc
  clear hcc
  go_wp2_with fail
  refine (refCheck5 _ _ _ _ o _ HSO.out.1 HSO.out.2.1 HQ3.out).mono ?_
  rintro e w4 ⟨rfl, hb⟩
  have hB4 : Below w3.heap.size w3 w4 := bTrans (Below.refl _ _) hb
  have HD4 := Lib.hid (bTrans HD3.out hB4)
  have HT4 := Lib.hid (HT3.out.mono hB4)
  have HTB4 := Lib.hid (HTB3.out.mono hB4)
  have HQ4 := Lib.hid (HQ3.out.mono hB4)
  have HCP4 := Lib.hid (HCP3.out.mono hB4)
  have T4 := Lib.hid (T3.out.mono hB4)
  have Y4 := Lib.hid (Y3.out.mono hB4)
  have X4 := Lib.hid (X3.out.mono hB4)
  have O4 := Lib.hid (O3.out.mono hB4)
  clear hb hB4 HD3 HT3 HTB3 HQ3 HCP3 T3 T_0 T_1 T_2 T_l Y3 Y_0 Y_1 Y_2 Y_3 Y_4 Y_l X3 X_0 X_1 X_l O3 O_0 O_1 O_2 O_l
  obtain ⟨T_0, T_1, T_2, T_l⟩ := T4.out.c3
  obtain ⟨Y_0, Y_1, Y_2, Y_3, Y_4, Y_l⟩ := Y4.out.c5
  obtain ⟨X_0, X_1, X_l⟩ := X4.out.c2
  obtain ⟨O_0, O_1, O_2, O_l⟩ := O4.out.c3
  by_cases hcc : o.Ok
  case neg =>
    rw [Qt.err_bad hcc]
    clear hcc
    go_wp2_with fail
    refine (booked_any _ HTB4.out).mono ?_
    rintro e w5 ⟨rfl, hb⟩
    have hB5 : Below w4.heap.size w4 w5 := bTrans (Below.refl _ _) hb
    have HD5 := Lib.hid (bTrans HD4.out hB5)
    have HT5 := Lib.hid (HT4.out.mono hB5)
    have HTB5 := Lib.hid (HTB4.out.mono hB5)
    have HQ5 := Lib.hid (HQ4.out.mono hB5)
    have HCP5 := Lib.hid (HCP4.out.mono hB5)
    have T5 := Lib.hid (T4.out.mono hB5)
    have Y5 := Lib.hid (Y4.out.mono hB5)
    have X5 := Lib.hid (X4.out.mono hB5)
    have O5 := Lib.hid (O4.out.mono hB5)
    clear hb hB5 HD4 HT4 HTB4 HQ4 HCP4 T4 T_0 T_1 T_2 T_l Y4 Y_0 Y_1 Y_2 Y_3 Y_4 Y_l X4 X_0 X_1 X_l O4 O_0 O_1 O_2 O_l
    obtain ⟨T_0, T_1, T_2, T_l⟩ := T5.out.c3
    obtain ⟨Y_0, Y_1, Y_2, Y_3, Y_4, Y_l⟩ := Y5.out.c5
    obtain ⟨X_0, X_1, X_l⟩ := X5.out.c2
    obtain ⟨O_0, O_1, O_2, O_l⟩ := O5.out.c3
    go_wp2_with fail
    go_ret
    exact ⟨rfl, HD5.out⟩
  rw [Qt.err_ok hcc]
  have HOK2 := Lib.hid hcc
  clear hcc
  go_wp2_with fail
  refine (refLeftOf _ _ _ _ o _ HOK2.out HQ4.out).mono ?_
  rintro e w5 ⟨⟨v, rfl, hv⟩, hb⟩
  obtain ⟨A9, c9, rfl⟩ := owns_slice hv
  obtain ⟨n9, hn9⟩ : ∃ n, o.leftL.length = n := ⟨_, rfl⟩
  rw [hn9]
  clear hv
  have hB5 : Below w4.heap.size w4 w5 := bTrans (Below.refl _ _) hb
  have HD5 := Lib.hid (bTrans HD4.out hB5)
  have HT5 := Lib.hid (HT4.out.mono hB5)
  have HTB5 := Lib.hid (HTB4.out.mono hB5)
  have HQ5 := Lib.hid (HQ4.out.mono hB5)
  have HCP5 := Lib.hid (HCP4.out.mono hB5)
  have T5 := Lib.hid (T4.out.mono hB5)
  have Y5 := Lib.hid (Y4.out.mono hB5)
  have X5 := Lib.hid (X4.out.mono hB5)
  have O5 := Lib.hid (O4.out.mono hB5)
  clear hb hB5 HD4 HT4 HTB4 HQ4 HCP4 T4 T_0 T_1 T_2 T_l Y4 Y_0 Y_1 Y_2 Y_3 Y_4 Y_l X4 X_0 X_1 X_l O4 O_0 O_1 O_2 O_l
  obtain ⟨T_0, T_1, T_2, T_l⟩ := T5.out.c3
  obtain ⟨Y_0, Y_1, Y_2, Y_3, Y_4, Y_l⟩ := Y5.out.c5
  obtain ⟨X_0, X_1, X_l⟩ := X5.out.c2
  obtain ⟨O_0, O_1, O_2, O_l⟩ := O5.out.c3
  by_cases hcc : ¬ n9 = 0
  case neg =>
    have h0 : n9 = 0 := by omega
    subst h0
    clear hcc
    go_wp2_with fail
    refine (booked_any _ HTB5.out).mono ?_
    rintro e w6 ⟨rfl, hb⟩
    have hB6 : Below w5.heap.size w5 w6 := bTrans (Below.refl _ _) hb
    have HD6 := Lib.hid (bTrans HD5.out hB6)
    have HT6 := Lib.hid (HT5.out.mono hB6)
    have HTB6 := Lib.hid (HTB5.out.mono hB6)
    have HQ6 := Lib.hid (HQ5.out.mono hB6)
    have HCP6 := Lib.hid (HCP5.out.mono hB6)
    have T6 := Lib.hid (T5.out.mono hB6)
    have Y6 := Lib.hid (Y5.out.mono hB6)
    have X6 := Lib.hid (X5.out.mono hB6)
    have O6 := Lib.hid (O5.out.mono hB6)
    clear hb hB6 HD5 HT5 HTB5 HQ5 HCP5 T5 T_0 T_1 T_2 T_l Y5 Y_0 Y_1 Y_2 Y_3 Y_4 Y_l X5 X_0 X_1 X_l O5 O_0 O_1 O_2 O_l
    obtain ⟨T_0, T_1, T_2, T_l⟩ := T6.out.c3
    obtain ⟨Y_0, Y_1, Y_2, Y_3, Y_4, Y_l⟩ := Y6.out.c5
    obtain ⟨X_0, X_1, X_l⟩ := X6.out.c2
    obtain ⟨O_0, O_1, O_2, O_l⟩ := O6.out.c3
    go_wp2_with fail
    go_ret
    exact ⟨rfl, HD6.out⟩
  have HNE := Lib.hid (show o.leftL ≠ [] from fun h => hcc (by rw [← hn9, h]; rfl))
  have n91 : ((n9 : Int) == 0) = false := by simp; omega
  have n92 : ¬ n9 = 0 := hcc
  clear hcc hn9
  go_wp2_with fail
  clear n91 n92
  refine (isWell5_any _ _ _ _ t fr _).mono ?_
  rintro e w6 ⟨rfl, hb⟩
  have hB6 : Below w5.heap.size w5 w6 := bTrans (Below.refl _ _) hb
  have HD6 := Lib.hid (bTrans HD5.out hB6)
  have HT6 := Lib.hid (HT5.out.mono hB6)
  have HTB6 := Lib.hid (HTB5.out.mono hB6)
  have HQ6 := Lib.hid (HQ5.out.mono hB6)
  have HCP6 := Lib.hid (HCP5.out.mono hB6)
  have T6 := Lib.hid (T5.out.mono hB6)
  have Y6 := Lib.hid (Y5.out.mono hB6)
  have X6 := Lib.hid (X5.out.mono hB6)
  have O6 := Lib.hid (O5.out.mono hB6)
  clear hb hB6 HD5 HT5 HTB5 HQ5 HCP5 T5 T_0 T_1 T_2 T_l Y5 Y_0 Y_1 Y_2 Y_3 Y_4 Y_l X5 X_0 X_1 X_l O5 O_0 O_1 O_2 O_l
  obtain ⟨T_0, T_1, T_2, T_l⟩ := T6.out.c3
  obtain ⟨Y_0, Y_1, Y_2, Y_3, Y_4, Y_l⟩ := Y6.out.c5
  obtain ⟨X_0, X_1, X_l⟩ := X6.out.c2
  obtain ⟨O_0, O_1, O_2, O_l⟩ := O6.out.c3
  by_cases hcc : t.wellB fr = true
  case neg =>
    rw [show t.wellB fr = false by simpa using hcc]
    clear hcc
    go_wp2_with fail
    refine (booked_any _ HTB6.out).mono ?_
    rintro e w7 ⟨rfl, hb⟩
    have hB7 : Below w6.heap.size w6 w7 := bTrans (Below.refl _ _) hb
    have HD7 := Lib.hid (bTrans HD6.out hB7)
    have HT7 := Lib.hid (HT6.out.mono hB7)
    have HTB7 := Lib.hid (HTB6.out.mono hB7)
    have HQ7 := Lib.hid (HQ6.out.mono hB7)
    have HCP7 := Lib.hid (HCP6.out.mono hB7)
    have T7 := Lib.hid (T6.out.mono hB7)
    have Y7 := Lib.hid (Y6.out.mono hB7)
    have X7 := Lib.hid (X6.out.mono hB7)
    have O7 := Lib.hid (O6.out.mono hB7)
    clear hb hB7 HD6 HT6 HTB6 HQ6 HCP6 T6 T_0 T_1 T_2 T_l Y6 Y_0 Y_1 Y_2 Y_3 Y_4 Y_l X6 X_0 X_1 X_l O6 O_0 O_1 O_2 O_l
    obtain ⟨T_0, T_1, T_2, T_l⟩ := T7.out.c3
    obtain ⟨Y_0, Y_1, Y_2, Y_3, Y_4, Y_l⟩ := Y7.out.c5
    obtain ⟨X_0, X_1, X_l⟩ := X7.out.c2
    obtain ⟨O_0, O_1, O_2, O_l⟩ := O7.out.c3
    go_wp2_with fail
    go_ret
    exact ⟨rfl, HD7.out⟩
  rw [hcc]
  have HWL := Lib.hid hcc
  clear hcc
  go_wp2_with fail
  obtain ⟨bd, hbd⟩ : ∃ b, inR dy 0 30 = b := ⟨_, rfl⟩
  refine (within_bb dy 0 30 bd _ hbd).mono ?_
  rintro e w7 ⟨rfl, hb⟩
  have hB7 : Below w6.heap.size w6 w7 := bTrans (Below.refl _ _) hb
  have HD7 := Lib.hid (bTrans HD6.out hB7)
  have HT7 := Lib.hid (HT6.out.mono hB7)
  have HTB7 := Lib.hid (HTB6.out.mono hB7)
  have HQ7 := Lib.hid (HQ6.out.mono hB7)
  have HCP7 := Lib.hid (HCP6.out.mono hB7)
  have T7 := Lib.hid (T6.out.mono hB7)
  have Y7 := Lib.hid (Y6.out.mono hB7)
  have X7 := Lib.hid (X6.out.mono hB7)
  have O7 := Lib.hid (O6.out.mono hB7)
  clear hb hB7 HD6 HT6 HTB6 HQ6 HCP6 T6 T_0 T_1 T_2 T_l Y6 Y_0 Y_1 Y_2 Y_3 Y_4 Y_l X6 X_0 X_1 X_l O6 O_0 O_1 O_2 O_l
  obtain ⟨T_0, T_1, T_2, T_l⟩ := T7.out.c3
  obtain ⟨Y_0, Y_1, Y_2, Y_3, Y_4, Y_l⟩ := Y7.out.c5
  obtain ⟨X_0, X_1, X_l⟩ := X7.out.c2
  obtain ⟨O_0, O_1, O_2, O_l⟩ := O7.out.c3
  by_cases hcc : bd = true
  case neg =>
    rw [show bd = false by simpa using hcc]
    clear hcc hbd
    go_wp2_with fail
    refine (booked_any _ HTB7.out).mono ?_
    rintro e w8 ⟨rfl, hb⟩
    have hB8 : Below w7.heap.size w7 w8 := bTrans (Below.refl _ _) hb
    have HD8 := Lib.hid (bTrans HD7.out hB8)
    have HT8 := Lib.hid (HT7.out.mono hB8)
    have HTB8 := Lib.hid (HTB7.out.mono hB8)
    have HQ8 := Lib.hid (HQ7.out.mono hB8)
    have HCP8 := Lib.hid (HCP7.out.mono hB8)
    have T8 := Lib.hid (T7.out.mono hB8)
    have Y8 := Lib.hid (Y7.out.mono hB8)
    have X8 := Lib.hid (X7.out.mono hB8)
    have O8 := Lib.hid (O7.out.mono hB8)
    clear hb hB8 HD7 HT7 HTB7 HQ7 HCP7 T7 T_0 T_1 T_2 T_l Y7 Y_0 Y_1 Y_2 Y_3 Y_4 Y_l X7 X_0 X_1 X_l O7 O_0 O_1 O_2 O_l
    obtain ⟨T_0, T_1, T_2, T_l⟩ := T8.out.c3
    obtain ⟨Y_0, Y_1, Y_2, Y_3, Y_4, Y_l⟩ := Y8.out.c5
    obtain ⟨X_0, X_1, X_l⟩ := X8.out.c2
    obtain ⟨O_0, O_1, O_2, O_l⟩ := O8.out.c3
    go_wp2_with fail
    go_ret
    exact ⟨rfl, HD8.out⟩
  subst hcc
  have HDY := Lib.hid (inR_iff.1 hbd)
  clear hbd
  have hw1 := inR_iff.1 ((wellB_ok HOK.out fr).symm.trans HWL.out)
  obtain ⟨p, rfl⟩ : ∃ p : Nat, fr = (p : Int) := ⟨fr.toNat, by omega⟩
  have HP := Lib.hid (show (p : Int) < t.wells by omega)
  clear hw1
  obtain ⟨n, hn⟩ : ∃ n : Nat, t.wells = (n : Int) := ⟨t.wells.toNat, by have := HOK.out.w0; omega⟩
  have HN := Lib.hid hn
  clear hn
  have HN4 := Lib.hid (show n ≤ 4 by have := HOK.out.w1; have := HN.out; omega)
  obtain ⟨S, hS⟩ : ∃ S : Nat → Int × Int, ∀ i : Nat, t.betweenV (p : Int) (i : Int) = S i := ⟨fun i => t.betweenV (p : Int) (i : Int), fun _ => rfl⟩
  obtain ⟨U, hU⟩ : ∃ U : Nat → Int × Int, ∀ i : Nat, o.betweenV (p : Int) (i : Int) = U i := ⟨fun i => o.betweenV (p : Int) (i : Int), fun _ => rfl⟩
  have HSF := Lib.hid hS
  have HUF := Lib.hid hU
  have HBD := Lib.hid (fun (i : Nat) (hi : i < n) => by
    have h := scr_bounds HOA.out HOK.out HOK2.out HNE.out HP.out (q := i) (by rw [HN.out]; omega)
    rw [hS i, hU i] at h
    exact h)
  clear hS hU
  go_wp2_with fail
  have HLS := Lib.hid (show w.heap.size < w7.heap.size ∧ (w.heap.size + 1 + 1) < w7.heap.size ∧ w1.heap.size < w7.heap.size from ⟨T7.out.lt, X7.out.lt, O7.out.lt⟩)
  obtain ⟨W, hW⟩ : ∃ y, y = w7.alloc (.cells #[.int .i64 10, .int .i64 1, .int .i64 t.wells, .int .i64 dy, .slice none 0 0, .slice none 0 0] 41) := ⟨_, rfl⟩
  have hb : Below w7.heap.size w7 W := by rw [hW]; exact bAlloc (Below.refl _ _) _
  have hFB : TBox W w7.heap.size 41 #[.int .i64 10, .int .i64 1, .int .i64 t.wells, .int .i64 dy, .slice none 0 0, .slice none 0 0] := by rw [hW]; exact TBox.new _ _ _
  have hsz : W.heap.size = w7.heap.size + 1 := by rw [hW]; simp
  rw [← hW]
  clear hW
  have hB8 : Below w7.heap.size w7 W := bTrans (Below.refl _ _) hb
  have HD8 := Lib.hid (bTrans HD7.out hB8)
  have HT8 := Lib.hid (HT7.out.mono hB8)
  have HTB8 := Lib.hid (HTB7.out.mono hB8)
  have HQ8 := Lib.hid (HQ7.out.mono hB8)
  have HCP8 := Lib.hid (HCP7.out.mono hB8)
  have HFB8 := Lib.hid (hFB)
  have T8 := Lib.hid (T7.out.mono hB8)
  have Y8 := Lib.hid (Y7.out.mono hB8)
  have X8 := Lib.hid (X7.out.mono hB8)
  have O8 := Lib.hid (O7.out.mono hB8)
  clear hb hB8 HD7 HT7 HTB7 HQ7 HCP7 T7 T_0 T_1 T_2 T_l Y7 Y_0 Y_1 Y_2 Y_3 Y_4 Y_l X7 X_0 X_1 X_l O7 O_0 O_1 O_2 O_l
  obtain ⟨T_0, T_1, T_2, T_l⟩ := T8.out.c3
  obtain ⟨Y_0, Y_1, Y_2, Y_3, Y_4, Y_l⟩ := Y8.out.c5
  obtain ⟨X_0, X_1, X_l⟩ := X8.out.c2
  obtain ⟨O_0, O_1, O_2, O_l⟩ := O8.out.c3
  clear hFB
  obtain ⟨tb, htb⟩ : ∃ y, y = w7.heap.size := ⟨_, rfl⟩
  rw [← htb] at HFB8 HLS hsz ⊢
  have HNE9 := Lib.hid (show w.heap.size ≤ tb ∧ tb < W.heap.size by have := HLS.out.1; omega)
  clear htb hsz
  have HSC := Lib.hid (show Scr W tb (.int .i64 10) (.int .i64 1) (.int .i64 t.wells) (.int .i64 dy) (.slice none 0 0) (.slice none 0 0) [] [] W from ⟨HFB8.out, OwnE.nil _ _ _, OwnE.nil _ _ _, (fun g h => by cases h), (fun x hx => by cases hx), (fun x hx => by cases hx), World.grownBy.refl _ _, HNE9.out.2⟩)
  have T9 := Lib.hid T8.out
  have X9 := Lib.hid X8.out
  have O9 := Lib.hid O8.out
  have HD9 := Lib.hid HD8.out
  have HCP9 := Lib.hid HCP8.out
  clear T_0 T_1 T_2 T_l Y_0 Y_1 Y_2 Y_3 Y_4 Y_l X_0 X_1 X_l O_0 O_1 O_2 O_l
  go_loopw [9] (fun s9 wr => ∃ j : Nat, j ≤ n ∧ s9 = .int .i64 (j : Int) ∧ (∃ (V1 V2 : Value) (l1 l2 : List Ent), Scr W tb (.int .i64 10) (.int .i64 1) (.int .i64 t.wells) (.int .i64 dy) V1 V2 l1 l2 wr ∧ EntL 0 S j l1 ∧ EntL dy U j l2)) (fun s9 _ => n - (intOf s9).toNat)
  case atStart => exact ⟨0, Nat.zero_le _, rfl, _, _, [], [], HSC.out, EntL.nil _ _, EntL.nil _ _⟩
  case round =>
    obtain ⟨j, hj, rfl, V1, V2, l1, l2, hsc, he1, he2⟩ := hrel
    have hB1 : Below w.heap.size w wr := HD9.out.grown hsc.gr HD9.out.size (fun q hq => by injection hq with hq; have := HNE9.out; omega)
    have HD50 := Lib.hid hB1
    have HT50 := Lib.hid (HTW.out.mono hB1)
    have HTB50 := Lib.hid (HTBW.out.mono hB1)
    have HCP50 := Lib.hid (HCP9.out.kept (l := [3, 34, 63, 27]) (Kept.of_grown hsc.gr (fun q e => by
      injection e with e
      subst e
      exact ⟨_, _, _, HFB8.out, by decide⟩)) (by simp) (by simp) (by simp) (by simp))
    have T50 := Lib.hid (T9.out.grown hsc.gr (by have := HLS.out; simp only [ne_eq, Option.some.injEq]; omega))
    have X50 := Lib.hid (X9.out.grown hsc.gr (by have := HLS.out; simp only [ne_eq, Option.some.injEq]; omega))
    have O50 := Lib.hid (O9.out.grown hsc.gr (by have := HLS.out; simp only [ne_eq, Option.some.injEq]; omega))
    obtain ⟨A1, c1, e1, _⟩ := hsc.r1.read
    obtain ⟨A2, c2, e2, _⟩ := hsc.r2.read
    rw [he1.len] at e1
    rw [he2.len] at e2
    subst e1
    subst e2
    have F50 := Lib.hid hsc.box
    have HSC50 := Lib.hid hsc
    have HE1 := Lib.hid he1
    have HE2 := Lib.hid he2
    have HU50 := Lib.hid (show Upto wr wr from Below.refl _ _)
    clear hB1 hsc he1 he2
    obtain ⟨T_0, T_1, T_2, T_l⟩ := T50.out.c3
    obtain ⟨X_0, X_1, X_l⟩ := X50.out.c2
    obtain ⟨O_0, O_1, O_2, O_l⟩ := O50.out.c3
    obtain ⟨F_0, F_1, F_2, F_3, F_4, F_5, F_l⟩ := F50.out.c6
    by_cases hlt : j < n
    case pos =>
      have h1j : (j : Int) < t.wells := by rw [HN.out]; omega
      have h0j : (0 : Int) ≤ (j : Int) := by omega
      have hb_j : j < 100 := by have := HN4.out; omega
      have HLT := Lib.hid hlt
      have KB := Lib.hid (HBD.out j hlt)
      clear hlt
      go_wp2_with fail
      refine (betweenQ_any Aw Af cw cf t (p : Int) (j : Int) _ HSM.out HT50.out HTB50.out).mono ?_
      rintro e w51 ⟨rfl, hb⟩
      rw [HSF.out j, KB.out.1]
      have hB51 : Below wr.heap.size wr w51 := bTrans (Below.refl _ _) hb
      have HD51 := Lib.hid (bTrans HD50.out hB51)
      have HT51 := Lib.hid (HT50.out.mono hB51)
      have HTB51 := Lib.hid (HTB50.out.mono hB51)
      have HCP51 := Lib.hid (HCP50.out.mono hB51)
      have HSC51 := Lib.hid (HSC50.out.mono hB51)
      have HU51 := Lib.hid (HU50.out.mono hB51)
      have T51 := Lib.hid (T50.out.mono hB51)
      have X51 := Lib.hid (X50.out.mono hB51)
      have O51 := Lib.hid (O50.out.mono hB51)
      have F51 := Lib.hid (F50.out.mono hB51)
      clear hb hB51 HD50 HT50 HTB50 HCP50 HSC50 HU50 T50 T_0 T_1 T_2 T_l X50 X_0 X_1 X_l O50 O_0 O_1 O_2 O_l F50 F_0 F_1 F_2 F_3 F_4 F_5 F_l
      obtain ⟨T_0, T_1, T_2, T_l⟩ := T51.out.c3
      obtain ⟨X_0, X_1, X_l⟩ := X51.out.c2
      obtain ⟨O_0, O_1, O_2, O_l⟩ := O51.out.c3
      obtain ⟨F_0, F_1, F_2, F_3, F_4, F_5, F_l⟩ := F51.out.c6
      go_wp2_with fail
      obtain ⟨_, _, _, _, q1, q2, hq⟩ := (HCP51.out.mono (bAlloc (Below.refl _ _) (.cells #[.int .i64 (S j).1, .int .i64 (S j).2] 43))).qat
      injection q1 with q1 _ q3
      injection q2 with q2 _ q4
      subst q1 q2 q3 q4
      have HQ9 := Lib.hid hq
      clear hq
      refine (betweenQ_any Bw Bf dw df o (p : Int) (j : Int) _ HSO.out HQ9.out (HTB51.out.mono (bAlloc (Below.refl _ _) (.cells #[.int .i64 (S j).1, .int .i64 (S j).2] 43)))).mono ?_
      rintro e w52 ⟨rfl, hb⟩
      rw [HUF.out j, KB.out.2.1]
      clear HQ9
      have hB52 : Below w51.heap.size w51 w52 := bTrans (bAlloc (Below.refl _ _) (.cells #[.int .i64 (S j).1, .int .i64 (S j).2] 43)) hb
      have HD52 := Lib.hid (bTrans HD51.out hB52)
      have HT52 := Lib.hid (HT51.out.mono hB52)
      have HTB52 := Lib.hid (HTB51.out.mono hB52)
      have HCP52 := Lib.hid (HCP51.out.mono hB52)
      have HSC52 := Lib.hid (HSC51.out.mono hB52)
      have HU52 := Lib.hid (HU51.out.mono hB52)
      have T52 := Lib.hid (T51.out.mono hB52)
      have X52 := Lib.hid (X51.out.mono hB52)
      have O52 := Lib.hid (O51.out.mono hB52)
      have F52 := Lib.hid (F51.out.mono hB52)
      have S152 := Lib.hid (show TBox w52 w51.heap.size 43 #[.int .i64 (S j).1, .int .i64 (S j).2] from by have := ((TBox.new w51 #[.int .i64 (S j).1, .int .i64 (S j).2] 43).mono (Below.refl _ _)).mono hb; simpa using this)
      clear hb hB52 HD51 HT51 HTB51 HCP51 HSC51 HU51 T51 T_0 T_1 T_2 T_l X51 X_0 X_1 X_l O51 O_0 O_1 O_2 O_l F51 F_0 F_1 F_2 F_3 F_4 F_5 F_l
      obtain ⟨T_0, T_1, T_2, T_l⟩ := T52.out.c3
      obtain ⟨X_0, X_1, X_l⟩ := X52.out.c2
      obtain ⟨O_0, O_1, O_2, O_l⟩ := O52.out.c3
      obtain ⟨F_0, F_1, F_2, F_3, F_4, F_5, F_l⟩ := F52.out.c6
      obtain ⟨S1_0, S1_1, S1_l⟩ := S152.out.c2
      have HS1 := Lib.hid (HSC52.out.mono (w' := (((w52.alloc (.cells #[.int .i64 (U j).1, .int .i64 (U j).2] 43)).alloc (.cells #[.int .i64 (S j).1, .int .i64 (S j).2] 43)).alloc (.cells #[.int .i64 0, .int .i64 (j : Int), .slice (some ⟨w52.heap.size + 1, 0, none⟩) 1 1] 48))) (bAlloc (bAlloc (bAlloc (Below.refl _ _) _) _) _))
      have hspb : TBox (((w52.alloc (.cells #[.int .i64 (U j).1, .int .i64 (U j).2] 43)).alloc (.cells #[.int .i64 (S j).1, .int .i64 (S j).2] 43)).alloc (.cells #[.int .i64 0, .int .i64 (j : Int), .slice (some ⟨w52.heap.size + 1, 0, none⟩) 1 1] 48)) (w52.heap.size + 1) 43 #[.int .i64 (S j).1, .int .i64 (S j).2] := by
        have h := (TBox.new (w52.alloc (.cells #[.int .i64 (U j).1, .int .i64 (U j).2] 43)) #[.int .i64 (S j).1, .int .i64 (S j).2] 43).mono (w' := (((w52.alloc (.cells #[.int .i64 (U j).1, .int .i64 (U j).2] 43)).alloc (.cells #[.int .i64 (S j).1, .int .i64 (S j).2] 43)).alloc (.cells #[.int .i64 0, .int .i64 (j : Int), .slice (some ⟨w52.heap.size + 1, 0, none⟩) 1 1] 48))) (bAlloc (Below.refl _ _) _)
        simpa using h
      have HSPB := Lib.hid hspb
      clear hspb
      have Tq := Lib.hid (T52.out.mono (w' := (((w52.alloc (.cells #[.int .i64 (U j).1, .int .i64 (U j).2] 43)).alloc (.cells #[.int .i64 (S j).1, .int .i64 (S j).2] 43)).alloc (.cells #[.int .i64 0, .int .i64 (j : Int), .slice (some ⟨w52.heap.size + 1, 0, none⟩) 1 1] 48))) (bAlloc (bAlloc (bAlloc (Below.refl _ _) _) _) _))
      have Xq := Lib.hid (X52.out.mono (w' := (((w52.alloc (.cells #[.int .i64 (U j).1, .int .i64 (U j).2] 43)).alloc (.cells #[.int .i64 (S j).1, .int .i64 (S j).2] 43)).alloc (.cells #[.int .i64 0, .int .i64 (j : Int), .slice (some ⟨w52.heap.size + 1, 0, none⟩) 1 1] 48))) (bAlloc (bAlloc (bAlloc (Below.refl _ _) _) _) _))
      have S2q := Lib.hid ((TBox.new w52 #[.int .i64 (U j).1, .int .i64 (U j).2] 43).mono (w' := (((w52.alloc (.cells #[.int .i64 (U j).1, .int .i64 (U j).2] 43)).alloc (.cells #[.int .i64 (S j).1, .int .i64 (S j).2] 43)).alloc (.cells #[.int .i64 0, .int .i64 (j : Int), .slice (some ⟨w52.heap.size + 1, 0, none⟩) 1 1] 48))) (bAlloc (bAlloc (Below.refl _ _) _) _))
      go_wp2_with (at_builtin; refine wpList_snocE2 entG _ rfl (Operand.tmp 96) (Operand.tmp 101) rfl W.heap.size _ l1 ⟨0, (j : Int), some ⟨w52.heap.size + 1, 0, none⟩, 1, fun _ => S j⟩ rfl ?q1 (w52.heap.size + 1 + 1) rfl ?q2 ?q3 ?q4 ?_)
      case q1 => exact (HS1.out).r1
      case q2 =>
        intro a u hu
        match a, hu with
        | 0, hu =>
          simp [entE] at hu
          subst hu
          simp [go_sem]
        | 1, hu =>
          simp [entE] at hu
          subst hu
          simp [go_sem]
        | 2, hu =>
          simp [entE] at hu
          subst hu
          simp [go_sem]
      case q3 => rw [HE1.out.len]; have := HLT.out; have := HN4.out; omega
      case q4 => exact (HS1.out).gr.size
      intro va wa hown hgr hdj
      obtain ⟨ga, ca, hva⟩ := owns_some hown (by simp)
      replace hva : ∃ m, va = .slice (some ⟨ga, 0, none⟩) m ca := ⟨_, hva⟩
      obtain ⟨na, hva⟩ := hva
      subst hva
      clear T_0 T_1 T_2 T_l X_0 X_1 X_l O_0 O_1 O_2 O_l F_0 F_1 F_2 F_3 F_4 F_5 F_l S1_0 S1_1 S1_l
      have HSa := Lib.hid (HS1.out.app1 (x := ⟨0, (j : Int), some ⟨w52.heap.size + 1, 0, none⟩, 1, fun _ => S j⟩) ⟨_, rfl, HSPB.out⟩ hown hgr (by
        rcases hdj with h | h
        · exact .inl h
        · exact .inr (fun g hg => by have := h g hg; simpa using this)))
      have hbx := HS1.out.box.grown hgr (own_ne HS1.out.r1 HS1.out.lt)
      obtain ⟨F_0, F_1, F_2, F_3, F_4, F_5, F_l⟩ := hbx.c6
      have F_f := hbx.frozen 4
      have F_g := hbx.frozen 5
      obtain ⟨T_0, T_1, T_2, T_l⟩ := (Tq.out.grown hgr (own_ne HS1.out.r1 (by have := HLS.out; have := HNE9.out; omega))).c3
      obtain ⟨X_0, X_1, X_l⟩ := (Xq.out.grown hgr (own_ne HS1.out.r1 (by have := HLS.out; have := HNE9.out; omega))).c2
      obtain ⟨s2_0, s2_1, s2_l⟩ := (S2q.out.kept (Kept.of_own (l := [43]) hgr HS1.out.r1 (by decide)) (by simp)).c2
      clear hown hgr hdj hbx HSPB Tq Xq S2q
      have HS2 := Lib.hid (HSa.out.mono (w' := (((wa.setCell ⟨tb, 4, none⟩ (.slice (some ⟨ga, 0, none⟩) na ca)).alloc (.cells #[.int .i64 (U j).1, .int .i64 (U j).2] 43)).alloc (.cells #[.int .i64 dy, .int .i64 (j : Int), .slice (some ⟨wa.heap.size, 0, none⟩) 1 1] 48))) (bAlloc (bAlloc (Below.refl _ _) _) _))
      have hspb : TBox (((wa.setCell ⟨tb, 4, none⟩ (.slice (some ⟨ga, 0, none⟩) na ca)).alloc (.cells #[.int .i64 (U j).1, .int .i64 (U j).2] 43)).alloc (.cells #[.int .i64 dy, .int .i64 (j : Int), .slice (some ⟨wa.heap.size, 0, none⟩) 1 1] 48)) (wa.heap.size) 43 #[.int .i64 (U j).1, .int .i64 (U j).2] := by
        have h := (TBox.new (wa.setCell ⟨tb, 4, none⟩ (.slice (some ⟨ga, 0, none⟩) na ca)) #[.int .i64 (U j).1, .int .i64 (U j).2] 43).mono (w' := (((wa.setCell ⟨tb, 4, none⟩ (.slice (some ⟨ga, 0, none⟩) na ca)).alloc (.cells #[.int .i64 (U j).1, .int .i64 (U j).2] 43)).alloc (.cells #[.int .i64 dy, .int .i64 (j : Int), .slice (some ⟨wa.heap.size, 0, none⟩) 1 1] 48))) (bAlloc (Below.refl _ _) _)
        simpa using h
      have HSPB := Lib.hid hspb
      clear hspb
      go_wp2_with (at_builtin; refine wpList_snocE2 entG _ rfl (Operand.tmp 105) (Operand.tmp 112) rfl W.heap.size _ l2 ⟨dy, (j : Int), some ⟨wa.heap.size, 0, none⟩, 1, fun _ => U j⟩ rfl ?q1 (wa.heap.size + 1) rfl ?q2 ?q3 ?q4 ?_)
      case q1 => exact (HS2.out).r2
      case q2 =>
        intro a u hu
        match a, hu with
        | 0, hu =>
          simp [entE] at hu
          subst hu
          simp [go_sem]
        | 1, hu =>
          simp [entE] at hu
          subst hu
          simp [go_sem]
        | 2, hu =>
          simp [entE] at hu
          subst hu
          simp [go_sem]
      case q3 => rw [HE2.out.len]; have := HLT.out; have := HN4.out; omega
      case q4 => exact (HS2.out).gr.size
      intro vb wb hown hgr hdj
      obtain ⟨gb, cb, hva⟩ := owns_some hown (by simp)
      replace hva : ∃ m, vb = .slice (some ⟨gb, 0, none⟩) m cb := ⟨_, hva⟩
      obtain ⟨nb, hva⟩ := hva
      subst hva
      have HSb := Lib.hid (HS2.out.app2 (x := ⟨dy, (j : Int), some ⟨wa.heap.size, 0, none⟩, 1, fun _ => U j⟩) ⟨_, rfl, HSPB.out⟩ hown hgr (by
        rcases hdj with h | h
        · exact .inl h
        · exact .inr (fun g hg => by have := h g hg; simpa using this)))
      have hbx := HS2.out.box.grown hgr (own_ne HS2.out.r2 HS2.out.lt)
      clear F_0 F_1 F_2 F_3 F_4 F_5 F_l F_f F_g T_0 T_1 T_2 T_l X_0 X_1 X_l s2_0 s2_1 s2_l
      obtain ⟨F_0, F_1, F_2, F_3, F_4, F_5, F_l⟩ := hbx.c6
      have F_f := hbx.frozen 5
      clear hown hgr hdj hbx HSPB
      have HN1 := Lib.hid (HE1.out.snoc (x := ⟨0, (j : Int), some ⟨w52.heap.size + 1, 0, none⟩, 1, fun _ => S j⟩) rfl rfl rfl)
      have HN2 := Lib.hid (HE2.out.snoc (x := ⟨dy, (j : Int), some ⟨wa.heap.size, 0, none⟩, 1, fun _ => U j⟩) rfl rfl rfl)
      go_wp2_with fail
      go_roundw
      case rel =>
        first
        | exact ⟨j + 1, HLT.out, by go_num, _, _, _, _, HSb.out, HN1.out, HN2.out⟩
        | ((repeat apply Exists.intro)
           refine ⟨⟨j + 1, HLT.out, ?_, _, _, _, _, HSb.out, HN1.out, HN2.out⟩, rfl⟩
           go_num)
      case measure => have := HLT.out; simp [intOf]; omega
    have he : j = n := by omega
    subst he
    have h1j : ¬ (j : Int) < t.wells := by rw [HN.out]; omega
    have HB50 := Lib.hid (show BkAt wr (scrB t.wells dy j A1 c1 A2 c2 l1 l2) from ⟨ents_of HSC50.out.r1 HE1.out.len HSC50.out.sp1, ents_of HSC50.out.r2 HE2.out.len HSC50.out.sp2⟩)
    have HDG := Lib.hid (scr_dg2 (A1 := A1) (c1 := c1) (A2 := A2) (c2 := c2) HN.out HN4.out HDY.out HE1.out HE2.out (fun i hi => (HBD.out i hi).2.2))
    go_wp2_with fail
    clear h1j
    refine (checkF13_any (scrB t.wells dy j A1 c1 A2 c2 l1 l2) _ HDG.out.ok HB50.out).mono ?_
    rintro e w51 ⟨rfl, hb⟩
    have hB51 : Below wr.heap.size wr w51 := bTrans (Below.refl _ _) hb
    have HD51 := Lib.hid (bTrans HD50.out hB51)
    have HTB51 := Lib.hid (HTB50.out.mono hB51)
    have HB51 := Lib.hid (HB50.out.mono hB51)
    have HU51 := Lib.hid (HU50.out.mono hB51)
    have T51 := Lib.hid (T50.out.mono hB51)
    have X51 := Lib.hid (X50.out.mono hB51)
    have O51 := Lib.hid (O50.out.mono hB51)
    have F51 := Lib.hid (F50.out.mono hB51)
    clear hb hB51 HD50 HTB50 HB50 HU50 T50 T_0 T_1 T_2 T_l X50 X_0 X_1 X_l O50 O_0 O_1 O_2 O_l F50 F_0 F_1 F_2 F_3 F_4 F_5 F_l
    obtain ⟨T_0, T_1, T_2, T_l⟩ := T51.out.c3
    obtain ⟨X_0, X_1, X_l⟩ := X51.out.c2
    obtain ⟨O_0, O_1, O_2, O_l⟩ := O51.out.c3
    obtain ⟨F_0, F_1, F_2, F_3, F_4, F_5, F_l⟩ := F51.out.c6
    go_wp2_with fail
    refine (fewestF_any (scrB t.wells dy j A1 c1 A2 c2 l1 l2) j _ HDG.out.ok HB51.out HDG.out.heads (by have := HN4.out; omega)).mono ?_
    rintro e w52 ⟨rfl, hb⟩
    simp only [scrB]
    rw [show (j : Int) + (j : Int) - (j : Int) = (j : Int) by omega]
    have hB52 : Below w51.heap.size w51 w52 := bTrans (Below.refl _ _) hb
    have HD52 := Lib.hid (bTrans HD51.out hB52)
    have HTB52 := Lib.hid (HTB51.out.mono hB52)
    have HB52 := Lib.hid (HB51.out.mono hB52)
    have HU52 := Lib.hid (HU51.out.mono hB52)
    have T52 := Lib.hid (T51.out.mono hB52)
    have X52 := Lib.hid (X51.out.mono hB52)
    have O52 := Lib.hid (O51.out.mono hB52)
    have F52 := Lib.hid (F51.out.mono hB52)
    clear hb hB52 HD51 HTB51 HB51 HU51 T51 T_0 T_1 T_2 T_l X51 X_0 X_1 X_l O51 O_0 O_1 O_2 O_l F51 F_0 F_1 F_2 F_3 F_4 F_5 F_l
    obtain ⟨T_0, T_1, T_2, T_l⟩ := T52.out.c3
    obtain ⟨X_0, X_1, X_l⟩ := X52.out.c2
    obtain ⟨O_0, O_1, O_2, O_l⟩ := O52.out.c3
    obtain ⟨F_0, F_1, F_2, F_3, F_4, F_5, F_l⟩ := F52.out.c6
    go_wp2_with fail
    refine (mustF_any (scrB t.wells dy j A1 c1 A2 c2 l1 l2) j dy U _ HDG.out HB52.out).mono ?_
    rintro e w53 ⟨⟨A7, c7, rfl⟩, hb⟩
    have hB53 : Below w52.heap.size w52 w53 := bTrans (Below.refl _ _) hb
    have HD53 := Lib.hid (bTrans HD52.out hB53)
    have HTB53 := Lib.hid (HTB52.out.mono hB53)
    have HB53 := Lib.hid (HB52.out.mono hB53)
    have HU53 := Lib.hid (HU52.out.mono hB53)
    have T53 := Lib.hid (T52.out.mono hB53)
    have X53 := Lib.hid (X52.out.mono hB53)
    have O53 := Lib.hid (O52.out.mono hB53)
    have F53 := Lib.hid (F52.out.mono hB53)
    clear hb hB53 HD52 HTB52 HB52 HU52 T52 T_0 T_1 T_2 T_l X52 X_0 X_1 X_l O52 O_0 O_1 O_2 O_l F52 F_0 F_1 F_2 F_3 F_4 F_5 F_l
    obtain ⟨T_0, T_1, T_2, T_l⟩ := T53.out.c3
    obtain ⟨X_0, X_1, X_l⟩ := X53.out.c2
    obtain ⟨O_0, O_1, O_2, O_l⟩ := O53.out.c3
    obtain ⟨F_0, F_1, F_2, F_3, F_4, F_5, F_l⟩ := F53.out.c6
    go_wp2_with fail
    refine (daysM_any (scrB t.wells dy j A1 c1 A2 c2 l1 l2) j dy U _ HDG.out HB53.out).mono ?_
    rintro e w54 ⟨rfl, hb⟩
    have hB54 : Below w53.heap.size w53 w54 := bTrans (Below.refl _ _) hb
    have HD54 := Lib.hid (bTrans HD53.out hB54)
    have HTB54 := Lib.hid (HTB53.out.mono hB54)
    have HB54 := Lib.hid (HB53.out.mono hB54)
    have HU54 := Lib.hid (HU53.out.mono hB54)
    have T54 := Lib.hid (T53.out.mono hB54)
    have X54 := Lib.hid (X53.out.mono hB54)
    have O54 := Lib.hid (O53.out.mono hB54)
    have F54 := Lib.hid (F53.out.mono hB54)
    clear hb hB54 HD53 HTB53 HB53 HU53 T53 T_0 T_1 T_2 T_l X53 X_0 X_1 X_l O53 O_0 O_1 O_2 O_l F53 F_0 F_1 F_2 F_3 F_4 F_5 F_l
    obtain ⟨T_0, T_1, T_2, T_l⟩ := T54.out.c3
    obtain ⟨X_0, X_1, X_l⟩ := X54.out.c2
    obtain ⟨O_0, O_1, O_2, O_l⟩ := O54.out.c3
    obtain ⟨F_0, F_1, F_2, F_3, F_4, F_5, F_l⟩ := F54.out.c6
    have q1 : ((j : Int) != t.wells) = false := by rw [HN.out]; simp
    have q1b : decide ((j : Int) = t.wells) = true := by rw [HN.out]; simp
    have e8 : IntKind.i64.wrap ((j : Int) * dy) = mulD dy j := by
      have h0 : 0 ≤ (j : Int) * dy := Int.mul_nonneg (by omega) HDY.out.1
      have h1 : (j : Int) * dy ≤ 4 * 30 := Int.mul_le_mul (by have := HN4.out; omega) HDY.out.2 HDY.out.1 (by omega)
      exact IntWalk.i64_in _ (by omega)
    go_wp2_with fail
    clear q1 q1b e8
    obtain ⟨wl653, hwl⟩ : ∃ y, y = wr := ⟨_, rfl⟩
    subst hwl
    clear T_0 T_1 T_2 T_l X_0 X_1 X_l O_0 O_1 O_2 O_l F_0 F_1 F_2 F_3 F_4 F_5 F_l
    go_loopw [20] (fun s20 wr => ∃ i : Nat, i ≤ j ∧ s20 = .int .i64 (i : Int) ∧ Below w54.heap.size w54 wr) (fun s20 _ => j - (intOf s20).toNat)
    case atStart => exact ⟨0, Nat.zero_le _, rfl, Below.refl _ _⟩
    case round =>
      obtain ⟨i, hk_i, rfl, hb⟩ := hrel
      have HBi := Lib.hid hb
      have hB55 : Below w54.heap.size w54 wr := bTrans (Below.refl _ _) hb
      have HD55 := Lib.hid (bTrans HD54.out hB55)
      have HTB55 := Lib.hid (HTB54.out.mono hB55)
      have HB55 := Lib.hid (HB54.out.mono hB55)
      have HU55 := Lib.hid (HU54.out.mono hB55)
      have HU_i55 := Lib.hid ((show Upto w54 wr from HBi.out))
      have T55 := Lib.hid (T54.out.mono hB55)
      have X55 := Lib.hid (X54.out.mono hB55)
      have O55 := Lib.hid (O54.out.mono hB55)
      have F55 := Lib.hid (F54.out.mono hB55)
      clear hb hB55
      obtain ⟨T_0, T_1, T_2, T_l⟩ := T55.out.c3
      obtain ⟨X_0, X_1, X_l⟩ := X55.out.c2
      obtain ⟨O_0, O_1, O_2, O_l⟩ := O55.out.c3
      obtain ⟨F_0, F_1, F_2, F_3, F_4, F_5, F_l⟩ := F55.out.c6
      by_cases hlt_i : i < j
      case pos =>
        have h1_i : (i : Int) < (j : Int) := by omega
        have h0_i : (0 : Int) ≤ (i : Int) := by omega
        have hb_i : i < 100 := by have := HN4.out; omega
        have h1w : (i : Int) < t.wells := by rw [HN.out]; exact h1_i
        have HIS := Lib.hid (show okB (scrB t.wells dy j A1 c1 A2 c2 l1 l2) i i = true by rw [HDG.out.isB i i hlt_i hlt_i]; simp)
        have HLI := Lib.hid hlt_i
        go_wp2_with fail
        clear h1w
        have HSA := Lib.hid (same_any (scrB t.wells dy j A1 c1 A2 c2 l1 l2) i i wr HDG.out.ok HB55.out hlt_i hlt_i)
        have e9 := HIS.out
        unfold okB at e9
        rw [e9] at HSA
        clear e9
        refine (HSA.out).mono ?_
        rintro e w56 ⟨rfl, hb⟩
        have hB56 : Below wr.heap.size wr w56 := bTrans (Below.refl _ _) hb
        have HD56 := Lib.hid (bTrans HD55.out hB56)
        have HTB56 := Lib.hid (HTB55.out.mono hB56)
        have HB56 := Lib.hid (HB55.out.mono hB56)
        have HU56 := Lib.hid (HU55.out.mono hB56)
        have HU_i56 := Lib.hid (HU_i55.out.mono hB56)
        have T56 := Lib.hid (T55.out.mono hB56)
        have X56 := Lib.hid (X55.out.mono hB56)
        have O56 := Lib.hid (O55.out.mono hB56)
        have F56 := Lib.hid (F55.out.mono hB56)
        clear hb hB56 HD55 HTB55 HB55 HU55 HU_i55 T55 T_0 T_1 T_2 T_l X55 X_0 X_1 X_l O55 O_0 O_1 O_2 O_l F55 F_0 F_1 F_2 F_3 F_4 F_5 F_l
        obtain ⟨T_0, T_1, T_2, T_l⟩ := T56.out.c3
        obtain ⟨X_0, X_1, X_l⟩ := X56.out.c2
        obtain ⟨O_0, O_1, O_2, O_l⟩ := O56.out.c3
        obtain ⟨F_0, F_1, F_2, F_3, F_4, F_5, F_l⟩ := F56.out.c6
        go_wp2_with fail
        refine (commonF_any (scrB t.wells dy j A1 c1 A2 c2 l1 l2) i i (U i).1 (U i).2 _ HDG.out.ok HB56.out HLI.out HLI.out HIS.out (HDG.out.cord i HLI.out) (HDG.out.ends i HLI.out)).mono ?_
        rintro e w57 ⟨rfl, hb⟩
        have hB57 : Below w56.heap.size w56 w57 := bTrans (Below.refl _ _) hb
        have HD57 := Lib.hid (bTrans HD56.out hB57)
        have HTB57 := Lib.hid (HTB56.out.mono hB57)
        have HB57 := Lib.hid (HB56.out.mono hB57)
        have HU57 := Lib.hid (HU56.out.mono hB57)
        have HU_i57 := Lib.hid (HU_i56.out.mono hB57)
        have T57 := Lib.hid (T56.out.mono hB57)
        have X57 := Lib.hid (X56.out.mono hB57)
        have O57 := Lib.hid (O56.out.mono hB57)
        have F57 := Lib.hid (F56.out.mono hB57)
        clear hb hB57 HD56 HTB56 HB56 HU56 HU_i56 T56 T_0 T_1 T_2 T_l X56 X_0 X_1 X_l O56 O_0 O_1 O_2 O_l F56 F_0 F_1 F_2 F_3 F_4 F_5 F_l
        obtain ⟨T_0, T_1, T_2, T_l⟩ := T57.out.c3
        obtain ⟨X_0, X_1, X_l⟩ := X57.out.c2
        obtain ⟨O_0, O_1, O_2, O_l⟩ := O57.out.c3
        obtain ⟨F_0, F_1, F_2, F_3, F_4, F_5, F_l⟩ := F57.out.c6
        go_wp2_with fail
        refine (owedF_any (scrB t.wells dy j A1 c1 A2 c2 l1 l2) j dy U i _ HDG.out (HB57.out.mono (bAlloc (Below.refl _ _) (.cells #[.int .i64 (U i).1, .int .i64 (U i).2] 43))) HLI.out).mono ?_
        rintro e w58 ⟨rfl, hb⟩
        have hB58 : Below w57.heap.size w57 w58 := bTrans (bAlloc (Below.refl _ _) (.cells #[.int .i64 (U i).1, .int .i64 (U i).2] 43)) hb
        have HD58 := Lib.hid (bTrans HD57.out hB58)
        have HTB58 := Lib.hid (HTB57.out.mono hB58)
        have HB58 := Lib.hid (HB57.out.mono hB58)
        have HU58 := Lib.hid (HU57.out.mono hB58)
        have HU_i58 := Lib.hid (HU_i57.out.mono hB58)
        have T58 := Lib.hid (T57.out.mono hB58)
        have X58 := Lib.hid (X57.out.mono hB58)
        have O58 := Lib.hid (O57.out.mono hB58)
        have F58 := Lib.hid (F57.out.mono hB58)
        have C58 := Lib.hid (show TBox w58 w57.heap.size 43 #[.int .i64 (U i).1, .int .i64 (U i).2] from by have := ((TBox.new w57 #[.int .i64 (U i).1, .int .i64 (U i).2] 43).mono (Below.refl _ _)).mono hb; simpa using this)
        clear hb hB58 HD57 HTB57 HB57 HU57 HU_i57 T57 T_0 T_1 T_2 T_l X57 X_0 X_1 X_l O57 O_0 O_1 O_2 O_l F57 F_0 F_1 F_2 F_3 F_4 F_5 F_l
        obtain ⟨T_0, T_1, T_2, T_l⟩ := T58.out.c3
        obtain ⟨X_0, X_1, X_l⟩ := X58.out.c2
        obtain ⟨O_0, O_1, O_2, O_l⟩ := O58.out.c3
        obtain ⟨F_0, F_1, F_2, F_3, F_4, F_5, F_l⟩ := F58.out.c6
        obtain ⟨C_0, C_1, C_l⟩ := C58.out.c2
        go_wp2_with fail
        obtain ⟨x2, o2, ha2, hl2, d0, d1, d2⟩ := HB58.out.others.get HLI.out
        obtain ⟨hm2, _, _, e3⟩ := HE2.out.get HLI.out
        obtain ⟨sb, hca, hsb⟩ := (HSC50.out.sp2 _ (List.mem_of_getElem? hm2)).mono HU58.out
        rw [e3] at hsb
        simp only [scrB] at ha2 d0 d1 d2
        rw [hca] at d2
        obtain ⟨u_0, u_1, u_l⟩ := hsb.c2
        have hds := diffS_self (U i).1 (U i).2
        subst ha2
        clear hm2 e3 hca hsb
        refine wp_region_quiet_below (by kernel_rfl) (by kernel_rfl) ?_
        repeat (go_big_quiet_step ((fail)))
        refine wpQuiet_nil ?_
        intro w59 hw9
        have hb := below_of_regrown hw9
        clear hw9
        clear d0 d1 d2 u_0 u_1 u_l hl2 hds
        have hB59 : Below w58.heap.size w58 w59 := bTrans (bAlloc (Below.refl _ _) (.cells #[.int .i64 (U i).1, .int .i64 (U i).2] 43)) hb
        have HD59 := Lib.hid (bTrans HD58.out hB59)
        have HTB59 := Lib.hid (HTB58.out.mono hB59)
        have HB59 := Lib.hid (HB58.out.mono hB59)
        have HU59 := Lib.hid (HU58.out.mono hB59)
        have HU_i59 := Lib.hid (HU_i58.out.mono hB59)
        have T59 := Lib.hid (T58.out.mono hB59)
        have X59 := Lib.hid (X58.out.mono hB59)
        have O59 := Lib.hid (O58.out.mono hB59)
        have F59 := Lib.hid (F58.out.mono hB59)
        have C59 := Lib.hid (C58.out.mono hB59)
        have D59 := Lib.hid (show TBox w59 w58.heap.size 43 #[.int .i64 (U i).1, .int .i64 (U i).2] from by have := ((TBox.new w58 #[.int .i64 (U i).1, .int .i64 (U i).2] 43).mono (Below.refl _ _)).mono hb; simpa using this)
        clear hb hB59 HD58 HTB58 HB58 HU58 HU_i58 T58 T_0 T_1 T_2 T_l X58 X_0 X_1 X_l O58 O_0 O_1 O_2 O_l F58 F_0 F_1 F_2 F_3 F_4 F_5 F_l C58 C_0 C_1 C_l
        obtain ⟨T_0, T_1, T_2, T_l⟩ := T59.out.c3
        obtain ⟨X_0, X_1, X_l⟩ := X59.out.c2
        obtain ⟨O_0, O_1, O_2, O_l⟩ := O59.out.c3
        obtain ⟨F_0, F_1, F_2, F_3, F_4, F_5, F_l⟩ := F59.out.c6
        obtain ⟨C_0, C_1, C_l⟩ := C59.out.c2
        obtain ⟨D_0, D_1, D_l⟩ := D59.out.c2
        go_wp2_with fail
        go_roundw
        case rel =>
          first
          | exact ⟨i + 1, by omega, by go_num, HU_i59.out⟩
          | ((repeat apply Exists.intro)
             refine ⟨⟨i + 1, by omega, ?_, HU_i59.out⟩, rfl⟩
             go_num)
        case measure => simp [intOf]; omega
      have he_i : i = j := by omega
      subst he_i
      have h1w : ¬ (i : Int) < t.wells := by rw [HN.out]; omega
      go_wp2_with fail
      refine (booked_any _ HTB55.out).mono ?_
      rintro e w56 ⟨rfl, hb⟩
      have hB56 : Below wr.heap.size wr w56 := bTrans (Below.refl _ _) hb
      have HD56 := Lib.hid (bTrans HD55.out hB56)
      have HTB56 := Lib.hid (HTB55.out.mono hB56)
      have HB56 := Lib.hid (HB55.out.mono hB56)
      have HU56 := Lib.hid (HU55.out.mono hB56)
      have HU_i56 := Lib.hid (HU_i55.out.mono hB56)
      have T56 := Lib.hid (T55.out.mono hB56)
      have X56 := Lib.hid (X55.out.mono hB56)
      have O56 := Lib.hid (O55.out.mono hB56)
      have F56 := Lib.hid (F55.out.mono hB56)
      clear hb hB56 HD55 HTB55 HB55 HU55 HU_i55 T55 T_0 T_1 T_2 T_l X55 X_0 X_1 X_l O55 O_0 O_1 O_2 O_l F55 F_0 F_1 F_2 F_3 F_4 F_5 F_l
      obtain ⟨T_0, T_1, T_2, T_l⟩ := T56.out.c3
      obtain ⟨X_0, X_1, X_l⟩ := X56.out.c2
      obtain ⟨O_0, O_1, O_2, O_l⟩ := O56.out.c3
      obtain ⟨F_0, F_1, F_2, F_3, F_4, F_5, F_l⟩ := F56.out.c6
      go_wp2_with fail
      go_ret
      exact ⟨rfl, HD56.out⟩
end Go.Proofs.YtifkjnmnflhnoaaGreatDoor

