/- Parts joined. -/
import Derived.Test.YtcdlbpmffkoejaaDoorNQK
import Derived.Test.YtcdlbpmffkoejaaDoorNQM
import Derived.Test.YtcdlbpmffkoejaaDoorNQN
import Derived.Test.YtcdlbpmffkoejaaDoorNQO
import Derived.Test.YtcdlbpmffkoejaaDoorNQF
import Derived.Test.YtcdlbpmffkoejaaDoorNQJ
set_option linter.unusedSimpArgs false
set_option linter.unusedVariables false
/- The statement QuarrelsSum: the walk. Conditions: what is read fits into memory; the listed table holds what it holds. -/
namespace Go.Proofs.YtcdlbpmffkoejaaDoor
open Go.RowKit Go.Sort
set_option maxHeartbeats 8000000 in
set_option maxRecDepth 100000 in
theorem quarrelsSum_any (Aw Af : Option Addr) (cw cf : Nat) (t : Qt) (fp fq law : Int) (Ad : Option Addr) (nd cd : Nat) (g : Nat → Int) (yp yq ylaw : Int) (Ae : Option Addr) (ne ce : Nat) (gy : Nat → Int) (w : World) (hf : t.Fits) (hT : QAt w Aw Af t) (hB : TabAt w) (hI : IntsAt w Ad nd g) (hN : nd * 8 ≤ 140737488351232) (hJ : IntsAt w Ae ne gy) (hM : ne * 8 ≤ 140737488351232) :
    Calls Tryd.prog 3 #[.agg #[.int .i64 t.wells, .slice Aw t.nw cw, .slice Af t.nf cf], .agg #[.int .i64 fp, .int .i64 fq, .int .i64 law, .slice Ad nd cd], .agg #[.int .i64 yp, .int .i64 yq, .int .i64 ylaw, .slice Ae ne ce]] w fun e w' => e = .returned (.bool true) ∧ Below w.heap.size w w' := by
  have HT0 := Lib.hid hT
  have HTB0 := Lib.hid hB
  have HD0 := Lib.hid (Below.refl w.heap.size w)
  have HS := Lib.hid hf.small
  have HF := Lib.hid hf
  have HI0 := Lib.hid hI
  have HJ0 := Lib.hid hJ
  clear hT hB hf hI hJ
  go_enter Tryd.func3, Tryd.ntmps3
  go_wp2_with fail
  have HN := Lib.hid hN
  have HM := Lib.hid hM
  clear hN hM
  refine (huge_any _ _ _ _ t _ HS.out (HT0.out.mono (bAlloc (bAlloc (bAlloc (Below.refl _ _) (.cells #[.int .i64 t.wells, .slice Aw t.nw cw, .slice Af t.nf cf] 25)) (.cells #[.int .i64 fp, .int .i64 fq, .int .i64 law, .slice Ad nd cd] 28)) (.cells #[.int .i64 yp, .int .i64 yq, .int .i64 ylaw, .slice Ae ne ce] 28)))).mono ?_
  rintro e w1 ⟨rfl, hb⟩
  have hB1 : Below w.heap.size w w1 := bTrans (bAlloc (bAlloc (bAlloc (Below.refl _ _) (.cells #[.int .i64 t.wells, .slice Aw t.nw cw, .slice Af t.nf cf] 25)) (.cells #[.int .i64 fp, .int .i64 fq, .int .i64 law, .slice Ad nd cd] 28)) (.cells #[.int .i64 yp, .int .i64 yq, .int .i64 ylaw, .slice Ae ne ce] 28)) hb
  have HD1 := Lib.hid (bTrans HD0.out hB1)
  have HT1 := Lib.hid (HT0.out.mono hB1)
  have HTB1 := Lib.hid (HTB0.out.mono hB1)
  have HI1 := Lib.hid (HI0.out.mono hB1)
  have HJ1 := Lib.hid (HJ0.out.mono hB1)
  have T1 := Lib.hid (show TBox w1 w.heap.size 25 #[.int .i64 t.wells, .slice Aw t.nw cw, .slice Af t.nf cf] from by have := ((TBox.new w #[.int .i64 t.wells, .slice Aw t.nw cw, .slice Af t.nf cf] 25).mono (bAlloc (bAlloc (Below.refl _ _) (.cells #[.int .i64 fp, .int .i64 fq, .int .i64 law, .slice Ad nd cd] 28)) (.cells #[.int .i64 yp, .int .i64 yq, .int .i64 ylaw, .slice Ae ne ce] 28))).mono hb; simpa using this)
  have X1 := Lib.hid (show TBox w1 (w.heap.size + 1) 28 #[.int .i64 fp, .int .i64 fq, .int .i64 law, .slice Ad nd cd] from by have := ((TBox.new (w.alloc (.cells #[.int .i64 t.wells, .slice Aw t.nw cw, .slice Af t.nf cf] 25)) #[.int .i64 fp, .int .i64 fq, .int .i64 law, .slice Ad nd cd] 28).mono (bAlloc (Below.refl _ _) (.cells #[.int .i64 yp, .int .i64 yq, .int .i64 ylaw, .slice Ae ne ce] 28))).mono hb; simpa using this)
  have Y1 := Lib.hid (show TBox w1 (w.heap.size + 1 + 1) 28 #[.int .i64 yp, .int .i64 yq, .int .i64 ylaw, .slice Ae ne ce] from by have := ((TBox.new ((w.alloc (.cells #[.int .i64 t.wells, .slice Aw t.nw cw, .slice Af t.nf cf] 25)).alloc (.cells #[.int .i64 fp, .int .i64 fq, .int .i64 law, .slice Ad nd cd] 28)) #[.int .i64 yp, .int .i64 yq, .int .i64 ylaw, .slice Ae ne ce] 28).mono (Below.refl _ _)).mono hb; simpa using this)
  clear hb hB1 HD0 HT0 HTB0 HI0 HJ0
  obtain ⟨T_0, T_1, T_2, T_l⟩ := T1.out.c3
  obtain ⟨X_0, X_1, X_2, X_3, X_l⟩ := X1.out.c4
  obtain ⟨Y_0, Y_1, Y_2, Y_3, Y_l⟩ := Y1.out.c4
  obtain ⟨bq, hbq⟩ : ∃ b, t.huge = b := ⟨_, rfl⟩
  rw [hbq]
  have HHU := Lib.hid hbq
  clear hbq
  cases bq
  case true =>
    go_wp2_with fail
    refine (works5_any _ HTB1.out).mono ?_
    rintro e w99 ⟨rfl, hb99⟩
    go_wp2_with fail
    go_ret
    exact ⟨rfl, bTrans HD1.out hb99⟩
  go_wp2_with fail
  refine (refCheck5 _ _ _ _ t _ HS.out.1 HS.out.2.1 HT1.out).mono ?_
  rintro e w2 ⟨rfl, hb⟩
  have hB2 : Below w1.heap.size w1 w2 := bTrans (Below.refl _ _) hb
  have HD2 := Lib.hid (bTrans HD1.out hB2)
  have HT2 := Lib.hid (HT1.out.mono hB2)
  have HTB2 := Lib.hid (HTB1.out.mono hB2)
  have HI2 := Lib.hid (HI1.out.mono hB2)
  have HJ2 := Lib.hid (HJ1.out.mono hB2)
  have T2 := Lib.hid (T1.out.mono hB2)
  have X2 := Lib.hid (X1.out.mono hB2)
  have Y2 := Lib.hid (Y1.out.mono hB2)
  clear hb hB2 HD1 HT1 HTB1 HI1 HJ1 T1 T_0 T_1 T_2 T_l X1 X_0 X_1 X_2 X_3 X_l Y1 Y_0 Y_1 Y_2 Y_3 Y_l
  obtain ⟨T_0, T_1, T_2, T_l⟩ := T2.out.c3
  obtain ⟨X_0, X_1, X_2, X_3, X_l⟩ := X2.out.c4
  obtain ⟨Y_0, Y_1, Y_2, Y_3, Y_l⟩ := Y2.out.c4
  by_cases hok : t.Ok
  case neg =>
    rw [Qt.err_bad hok]
    clear hok
    go_wp2_with fail
    refine (works5_any _ HTB2.out).mono ?_
    rintro e w99 ⟨rfl, hb99⟩
    go_wp2_with fail
    go_ret
    exact ⟨rfl, bTrans HD2.out hb99⟩
  rw [Qt.err_ok hok]
  have HOK := Lib.hid hok
  clear hok
  by_cases h40 : (nd : Int) > 40
  case pos =>
    go_wp2_with fail
    refine (works5_any _ HTB2.out).mono ?_
    rintro e w99 ⟨rfl, hb99⟩
    go_wp2_with fail
    go_ret
    exact ⟨rfl, bTrans HD2.out hb99⟩
  by_cases h41 : (ne : Int) > 40
  case pos =>
    go_wp2_with fail
    refine (works5_any _ HTB2.out).mono ?_
    rintro e w99 ⟨rfl, hb99⟩
    go_wp2_with fail
    go_ret
    exact ⟨rfl, bTrans HD2.out hb99⟩
  go_wp2_with fail
  refine (areDraws5_any _ _ _ _ _ _ nd t g _ (by have := HN.out; omega) HI2.out).mono ?_
  rintro e w3 ⟨rfl, hb⟩
  have hB3 : Below w2.heap.size w2 w3 := bTrans (Below.refl _ _) hb
  have HD3 := Lib.hid (bTrans HD2.out hB3)
  have HT3 := Lib.hid (HT2.out.mono hB3)
  have HTB3 := Lib.hid (HTB2.out.mono hB3)
  have HI3 := Lib.hid (HI2.out.mono hB3)
  have HJ3 := Lib.hid (HJ2.out.mono hB3)
  have T3 := Lib.hid (T2.out.mono hB3)
  have X3 := Lib.hid (X2.out.mono hB3)
  have Y3 := Lib.hid (Y2.out.mono hB3)
  clear hb hB3 HD2 HT2 HTB2 HI2 HJ2 T2 T_0 T_1 T_2 T_l X2 X_0 X_1 X_2 X_3 X_l Y2 Y_0 Y_1 Y_2 Y_3 Y_l
  obtain ⟨T_0, T_1, T_2, T_l⟩ := T3.out.c3
  obtain ⟨X_0, X_1, X_2, X_3, X_l⟩ := X3.out.c4
  obtain ⟨Y_0, Y_1, Y_2, Y_3, Y_l⟩ := Y3.out.c4
  obtain ⟨bq, hbq⟩ : ∃ b, t.drawsB nd g = b := ⟨_, rfl⟩
  rw [hbq]
  have HDR := Lib.hid hbq
  clear hbq
  cases bq
  case false =>
    go_wp2_with fail
    refine (works5_any _ HTB3.out).mono ?_
    rintro e w99 ⟨rfl, hb99⟩
    go_wp2_with fail
    go_ret
    exact ⟨rfl, bTrans HD3.out hb99⟩
  go_wp2_with fail
  refine (areDraws5_any _ _ _ _ _ _ ne t gy _ (by have := HM.out; omega) HJ3.out).mono ?_
  rintro e w4 ⟨rfl, hb⟩
  have hB4 : Below w3.heap.size w3 w4 := bTrans (Below.refl _ _) hb
  have HD4 := Lib.hid (bTrans HD3.out hB4)
  have HT4 := Lib.hid (HT3.out.mono hB4)
  have HTB4 := Lib.hid (HTB3.out.mono hB4)
  have HI4 := Lib.hid (HI3.out.mono hB4)
  have HJ4 := Lib.hid (HJ3.out.mono hB4)
  have T4 := Lib.hid (T3.out.mono hB4)
  have X4 := Lib.hid (X3.out.mono hB4)
  have Y4 := Lib.hid (Y3.out.mono hB4)
  clear hb hB4 HD3 HT3 HTB3 HI3 HJ3 T3 T_0 T_1 T_2 T_l X3 X_0 X_1 X_2 X_3 X_l Y3 Y_0 Y_1 Y_2 Y_3 Y_l
  obtain ⟨T_0, T_1, T_2, T_l⟩ := T4.out.c3
  obtain ⟨X_0, X_1, X_2, X_3, X_l⟩ := X4.out.c4
  obtain ⟨Y_0, Y_1, Y_2, Y_3, Y_l⟩ := Y4.out.c4
  obtain ⟨bq, hbq⟩ : ∃ b, t.drawsB ne gy = b := ⟨_, rfl⟩
  rw [hbq]
  have HDY := Lib.hid hbq
  clear hbq
  cases bq
  case false =>
    go_wp2_with fail
    refine (works5_any _ HTB4.out).mono ?_
    rintro e w99 ⟨rfl, hb99⟩
    go_wp2_with fail
    go_ret
    exact ⟨rfl, bTrans HD4.out hb99⟩
  go_wp2_with fail
  refine (isWell5_any _ _ _ _ t fq _).mono ?_
  rintro e w5 ⟨rfl, hb⟩
  have hB5 : Below w4.heap.size w4 w5 := bTrans (Below.refl _ _) hb
  have HD5 := Lib.hid (bTrans HD4.out hB5)
  have HT5 := Lib.hid (HT4.out.mono hB5)
  have HTB5 := Lib.hid (HTB4.out.mono hB5)
  have HI5 := Lib.hid (HI4.out.mono hB5)
  have HJ5 := Lib.hid (HJ4.out.mono hB5)
  have T5 := Lib.hid (T4.out.mono hB5)
  have X5 := Lib.hid (X4.out.mono hB5)
  have Y5 := Lib.hid (Y4.out.mono hB5)
  clear hb hB5 HD4 HT4 HTB4 HI4 HJ4 T4 T_0 T_1 T_2 T_l X4 X_0 X_1 X_2 X_3 X_l Y4 Y_0 Y_1 Y_2 Y_3 Y_l
  obtain ⟨T_0, T_1, T_2, T_l⟩ := T5.out.c3
  obtain ⟨X_0, X_1, X_2, X_3, X_l⟩ := X5.out.c4
  obtain ⟨Y_0, Y_1, Y_2, Y_3, Y_l⟩ := Y5.out.c4
  obtain ⟨bq, hbq⟩ : ∃ b, t.wellB fq = b := ⟨_, rfl⟩
  rw [hbq]
  have HW2 := Lib.hid hbq
  clear hbq
  cases bq
  case false =>
    go_wp2_with fail
    refine (works5_any _ HTB5.out).mono ?_
    rintro e w99 ⟨rfl, hb99⟩
    go_wp2_with fail
    go_ret
    exact ⟨rfl, bTrans HD5.out hb99⟩
  have hw2 := inR_iff.1 ((wellB_ok HOK.out fq).symm.trans HW2.out)
  obtain ⟨q, rfl⟩ : ∃ q : Nat, fq = (q : Int) := ⟨fq.toNat, by omega⟩
  have HQQ := Lib.hid (show (q : Int) < t.wells by omega)
  obtain ⟨hn1, hb1⟩ := drawsB_iff.1 HDR.out
  obtain ⟨hn2, hb2⟩ := drawsB_iff.1 HDY.out
  obtain ⟨m, hm⟩ : ∃ m : Nat, t.wells = (m : Int) := ⟨t.wells.toNat, by have := HOK.out.w0; omega⟩
  have hm1 : nd = m := by omega
  have hm2 : ne = m := by omega
  subst hm1
  subst hm2
  have HWN := Lib.hid hm
  have HBX := Lib.hid hb1
  have HBY := Lib.hid hb2
  have hn4 : ne ≤ 4 := by have := HOK.out.w1; omega
  clear hw2 hn1 hb1 hn2 hb2 hm
  go_wp2_with fail
  go_loopw [7, 8, 9, 10] (fun s7 s8 s9 s10 wr => ∃ k : Nat, k ≤ ne ∧ s10 = .int .i64 (k : Int) ∧ wr.ownsRow w5.heap.size 3 1 s7 k (intL (fun i => g i + gy i) k) ∧ wr.ownsRow w5.heap.size 3 1 s8 k (intL (fun _ => 0) k) ∧ wr.ownsRow w5.heap.size 3 1 s9 k (intL (fun i => 2 * g i) k) ∧ apartV s7 s8 ∧ apartV s7 s9 ∧ apartV s8 s9 ∧ Below w5.heap.size w5 wr) (fun _ _ _ s _ => ne - (intOf s).toNat)
  case atStart => exact ⟨0, Nat.zero_le _, rfl, World.ownsRow_nil _ _ _ _, World.ownsRow_nil _ _ _ _, World.ownsRow_nil _ _ _ _, (fun _ h => by cases h), (fun _ h => by cases h), (fun _ h => by cases h), Below.refl _ _⟩
  case round =>
    obtain ⟨k, hk, rfl, hob, hon, hot, ha1, ha2, ha3, hb⟩ := hrel
    have HOB := Lib.hid hob
    have HON := Lib.hid hon
    have HOT := Lib.hid hot
    have HA1 := Lib.hid ha1
    have HA2 := Lib.hid ha2
    have HA3 := Lib.hid ha3
    have HBL := Lib.hid hb
    clear hob hon hot ha1 ha2 ha3
    clear T_0 T_1 T_2 T_l X_0 X_1 X_2 X_3 X_l Y_0 Y_1 Y_2 Y_3 Y_l
    have hB6 : Below w5.heap.size w5 wr := bTrans (Below.refl _ _) hb
    have HD6 := Lib.hid (bTrans HD5.out hB6)
    have HT6 := Lib.hid (HT5.out.mono hB6)
    have HTB6 := Lib.hid (HTB5.out.mono hB6)
    have HI6 := Lib.hid (HI5.out.mono hB6)
    have HJ6 := Lib.hid (HJ5.out.mono hB6)
    have T6 := Lib.hid (T5.out.mono hB6)
    have X6 := Lib.hid (X5.out.mono hB6)
    have Y6 := Lib.hid (Y5.out.mono hB6)
    clear hb hB6
    obtain ⟨T_0, T_1, T_2, T_l⟩ := T6.out.c3
    obtain ⟨X_0, X_1, X_2, X_3, X_l⟩ := X6.out.c4
    obtain ⟨Y_0, Y_1, Y_2, Y_3, Y_l⟩ := Y6.out.c4
    by_cases hlt : k < ne
    case pos =>
      have k1 : (k : Int) < t.wells := by have := HWN.out; omega
      have k0 : (0 : Int) ≤ (k : Int) := by omega
      have k2 : (k : Int) < (ne : Int) := by omega
      obtain ⟨bx, ox, rfl, hbx, cx⟩ := HI5.out.get hlt
      obtain ⟨by_, oy, rfl, hby, cy⟩ := HJ5.out.get hlt
      obtain ⟨x, hx⟩ : ∃ x, g k = x := ⟨_, rfl⟩
      obtain ⟨y, hy⟩ : ∃ y, gy k = y := ⟨_, rfl⟩
      have hx9 := HBX.out k hlt
      have hy9 := HBY.out k hlt
      rw [hx] at cx hx9
      rw [hy] at cy hy9
      have HX1 := Lib.hid hx
      have HY1 := Lib.hid hy
      obtain ⟨sv, hsv⟩ : ∃ v, x + y = v := ⟨_, rfl⟩
      obtain ⟨dv, hdv⟩ : ∃ v, 2 * x = v := ⟨_, rfl⟩
      have hw1 : IntKind.i64.wrap (x + y) = sv := by rw [← hsv]; exact IntWalk.i64_in _ (by omega)
      have hw2 : IntKind.i64.wrap (2 * x) = dv := by rw [← hdv]; exact IntWalk.i64_in _ (by omega)
      have HS1 := Lib.hid hsv
      have HD1 := Lib.hid hdv
      have HCX := Lib.hid cx
      have HCY := Lib.hid cy
      clear hx hy hsv hdv cx cy
      go_wp2_with fail
      have hl7 : ∀ g, u7.ownBlock = some g → g < wr.heap.size := fun g h => (HOB.out.lt g h).2
      have hl8 : ∀ g, u8.ownBlock = some g → g < wr.heap.size := fun g h => (HON.out.lt g h).2
      have hl9 : ∀ g, u9.ownBlock = some g → g < wr.heap.size := fun g h => (HOT.out.lt g h).2
      have HLT := Lib.hid (three_c (Q := fun c => ∀ g, (sumOld u7 u8 u9 c).ownBlock = some g → g < wr.heap.size) hl7 hl8 hl9)
      have HAP := Lib.hid (sum_apart HA1.out HA2.out HA3.out)
      refine wp_region_inv (I3 w5 wr.heap.size k (sumOld u7 u8 u9) sumIdx (sumL (intL (fun i => g i + gy i) k) (intL (fun _ => 0) k) (intL (fun i => 2 * g i) k)) (sumL (intL (fun i => g i + gy i) (k + 1)) (intL (fun _ => 0) (k + 1)) (intL (fun i => 2 * g i) (k + 1)))) (fun _ => True) (fun _ _ _ => trivial) 7 26 (sumHs wr.heap.size k (w.heap.size + 1) (w.heap.size + 1 + 1) u7 u8 u9 (.slice (some ⟨bx, ox, none⟩) ne cd) (.slice (some ⟨by_, oy, none⟩) ne ce) (.int .i64 (k : Int)) (.pointer (some ⟨bx, ox + k, none⟩)) (.pointer (some ⟨by_, oy + k, none⟩)) x y sv dv)
        (by kernel_rfl) (by kernel_rfl) rfl (sum_good _ _ _ _ _ _ _ _ _ _ _ _ _ _ _ _) (sum_cross _ _ _ _ _ _ _ _ _ _ _ _ _ _ _ _ _ _ hl7 hl8 hl9) (fun w' hb => I3.start HBL.out (Nat.le_refl _) (three_c HOB.out HON.out HOT.out) hb) ?_
      clear hl7 hl8 hl9
      iterate 12
        refine wpInv_const ?_ (by rfl) (fun ρ w' hI hd => ?_) ?_
        · exact (I3.deaf _ _ _ _ _ _ _ (sumIdx_ne (by decide) (by decide) (by decide)))
        · clear hd
          have hb := hI.1
          obtain ⟨X_0, X_1, X_2, X_3, X_l⟩ := (X5.out.mono hb).c4
          obtain ⟨Y_0, Y_1, Y_2, Y_3, Y_l⟩ := (Y5.out.mono hb).c4
          have cx := (hb.cell (p := ⟨bx, _, none⟩) hbx).trans HCX.out
          have cy := (hb.cell (p := ⟨by_, _, none⟩) hby).trans HCY.out
          clear hI hb
          refine StirH.mk ?_
          go_simp
      refine wpInv_held ?_ (by rfl) (fun ρ w' hI hd => ?_) (fun v hv => ?_)
      · exact (I3.deaf _ _ _ _ _ _ _ (sumIdx_ne (by decide) (by decide) (by decide)))
      · clear hd
        have hz := hI.2.1
        clear hI
        refine StirH.mk ?_
        go_simp
        refine ⟨bAlloc (Below.refl _ _) _, ⟨_, rfl⟩, fun b e => ?_⟩
        obtain rfl : w'.heap.size = b := by simpa using e
        exact ⟨hz, by simp, by simp [go_sem]⟩
      obtain ⟨b12, rfl⟩ := hv
      simp only [Act.put, List.setIfInBounds_toArray, List.set_cons_succ, List.set_cons_zero]
      refine wpInv_stir (by rfl) (fun ρ w' hI hn hd => ?_) (fun v hv => ?_)
      · have h1 : oneN wr.heap.size (sv) w' (.slice (some ⟨b12, 0, none⟩) 1 1) := hd.1 (by kernel_rfl)
        clear hd
        obtain ⟨_, _, hcell⟩ := h1 _ rfl
        have hold : w'.ownsRow w5.heap.size 3 1 u7 k (intL (fun i => g i + gy i) k) := (hI.2.2.1 0 (by decide)).1 hn
        refine StirH.mk ?_
        refine stir_own3 (Operand.tmp 70) (Operand.tmp 82) 26 rfl w5.heap.size 3 (.int .i64 0) 1 8 infoInt Tryd.underlying26 rfl (by decide) u7 k (intL (fun i => g i + gy i) k) rfl hold ⟨b12, 0, none⟩ 1 1 [.int .i64 (sv)] rfl rfl (news1 hcell) (one1c rfl) (by unfold maxLen; omega) (by omega) hI.1.size (fun v' w'' hown hg hw => ?_)
        have hown' : w''.ownsRow w5.heap.size 3 1 v' (k + 1) (intL (fun i => g i + gy i) (k + 1)) := by rw [show intL (fun i => g i + gy i) (k + 1) = intL (fun i => g i + gy i) k ++ [.int .i64 (sv)] from congrArg (fun z => intL (fun i => g i + gy i) k ++ [Value.int .i64 z]) (show g k + gy k = sv by rw [HX1.out, HY1.out, HS1.out])]; exact hown
        exact ⟨⟨owns_slice hown, trivial⟩, hI.step sumIdx_inj HLT.out HAP.out (c := 0) (by decide) hown' hold hg hw⟩
      obtain ⟨A13, c13, rfl⟩ := hv
      simp only [Act.put, List.setIfInBounds_toArray, List.set_cons_succ, List.set_cons_zero]
      iterate 1
        refine wpInv_const ?_ (by rfl) (fun ρ w' hI hd => ?_) ?_
        · exact (I3.deaf _ _ _ _ _ _ _ (sumIdx_ne (by decide) (by decide) (by decide)))
        · clear hd
          have hb := hI.1
          obtain ⟨X_0, X_1, X_2, X_3, X_l⟩ := (X5.out.mono hb).c4
          obtain ⟨Y_0, Y_1, Y_2, Y_3, Y_l⟩ := (Y5.out.mono hb).c4
          have cx := (hb.cell (p := ⟨bx, _, none⟩) hbx).trans HCX.out
          have cy := (hb.cell (p := ⟨by_, _, none⟩) hby).trans HCY.out
          clear hI hb
          refine StirH.mk ?_
          go_simp
      refine wpInv_held ?_ (by rfl) (fun ρ w' hI hd => ?_) (fun v hv => ?_)
      · exact (I3.deaf _ _ _ _ _ _ _ (sumIdx_ne (by decide) (by decide) (by decide)))
      · clear hd
        have hz := hI.2.1
        clear hI
        refine StirH.mk ?_
        go_simp
        refine ⟨bAlloc (Below.refl _ _) _, ⟨_, rfl⟩, fun b e => ?_⟩
        obtain rfl : w'.heap.size = b := by simpa using e
        exact ⟨hz, by simp, by simp [go_sem]⟩
      obtain ⟨b15, rfl⟩ := hv
      simp only [Act.put, List.setIfInBounds_toArray, List.set_cons_succ, List.set_cons_zero]
      refine wpInv_stir (by rfl) (fun ρ w' hI hn hd => ?_) (fun v hv => ?_)
      · have h1 : oneN wr.heap.size (0) w' (.slice (some ⟨b15, 0, none⟩) 1 1) := hd.1 (by kernel_rfl)
        clear hd
        obtain ⟨_, _, hcell⟩ := h1 _ rfl
        have hold : w'.ownsRow w5.heap.size 3 1 u8 k (intL (fun _ => 0) k) := (hI.2.2.1 1 (by decide)).1 hn
        refine StirH.mk ?_
        refine stir_own3 (Operand.tmp 84) (Operand.tmp 85) 26 rfl w5.heap.size 3 (.int .i64 0) 1 8 infoInt Tryd.underlying26 rfl (by decide) u8 k (intL (fun _ => 0) k) rfl hold ⟨b15, 0, none⟩ 1 1 [.int .i64 (0)] rfl rfl (news1 hcell) (one1c rfl) (by unfold maxLen; omega) (by omega) hI.1.size (fun v' w'' hown hg hw => ?_)
        have hown' : w''.ownsRow w5.heap.size 3 1 v' (k + 1) (intL (fun _ => 0) (k + 1)) := by rw [show intL (fun _ => 0) (k + 1) = intL (fun _ => 0) k ++ [.int .i64 (0)] from congrArg (fun z => intL (fun _ => 0) k ++ [Value.int .i64 z]) (show (fun _ : Nat => (0 : Int)) k = 0 from rfl)]; exact hown
        exact ⟨⟨owns_slice hown, trivial⟩, hI.step sumIdx_inj HLT.out HAP.out (c := 1) (by decide) hown' hold hg hw⟩
      obtain ⟨A16, c16, rfl⟩ := hv
      simp only [Act.put, List.setIfInBounds_toArray, List.set_cons_succ, List.set_cons_zero]
      iterate 7
        refine wpInv_const ?_ (by rfl) (fun ρ w' hI hd => ?_) ?_
        · exact (I3.deaf _ _ _ _ _ _ _ (sumIdx_ne (by decide) (by decide) (by decide)))
        · clear hd
          have hb := hI.1
          obtain ⟨X_0, X_1, X_2, X_3, X_l⟩ := (X5.out.mono hb).c4
          obtain ⟨Y_0, Y_1, Y_2, Y_3, Y_l⟩ := (Y5.out.mono hb).c4
          have cx := (hb.cell (p := ⟨bx, _, none⟩) hbx).trans HCX.out
          have cy := (hb.cell (p := ⟨by_, _, none⟩) hby).trans HCY.out
          clear hI hb
          refine StirH.mk ?_
          go_simp
      refine wpInv_held ?_ (by rfl) (fun ρ w' hI hd => ?_) (fun v hv => ?_)
      · exact (I3.deaf _ _ _ _ _ _ _ (sumIdx_ne (by decide) (by decide) (by decide)))
      · clear hd
        have hz := hI.2.1
        clear hI
        refine StirH.mk ?_
        go_simp
        refine ⟨bAlloc (Below.refl _ _) _, ⟨_, rfl⟩, fun b e => ?_⟩
        obtain rfl : w'.heap.size = b := by simpa using e
        exact ⟨hz, by simp, by simp [go_sem]⟩
      obtain ⟨b24, rfl⟩ := hv
      simp only [Act.put, List.setIfInBounds_toArray, List.set_cons_succ, List.set_cons_zero]
      refine wpInv_stir (by rfl) (fun ρ w' hI hn hd => ?_) (fun v hv => ?_)
      · have h1 : oneN wr.heap.size (dv) w' (.slice (some ⟨b24, 0, none⟩) 1 1) := hd.1 (by kernel_rfl)
        clear hd
        obtain ⟨_, _, hcell⟩ := h1 _ rfl
        have hold : w'.ownsRow w5.heap.size 3 1 u9 k (intL (fun i => 2 * g i) k) := (hI.2.2.1 2 (by decide)).1 hn
        refine StirH.mk ?_
        refine stir_own3 (Operand.tmp 87) (Operand.tmp 94) 26 rfl w5.heap.size 3 (.int .i64 0) 1 8 infoInt Tryd.underlying26 rfl (by decide) u9 k (intL (fun i => 2 * g i) k) rfl hold ⟨b24, 0, none⟩ 1 1 [.int .i64 (dv)] rfl rfl (news1 hcell) (one1c rfl) (by unfold maxLen; omega) (by omega) hI.1.size (fun v' w'' hown hg hw => ?_)
        have hown' : w''.ownsRow w5.heap.size 3 1 v' (k + 1) (intL (fun i => 2 * g i) (k + 1)) := by rw [show intL (fun i => 2 * g i) (k + 1) = intL (fun i => 2 * g i) k ++ [.int .i64 (dv)] from congrArg (fun z => intL (fun i => 2 * g i) k ++ [Value.int .i64 z]) (show 2 * g k = dv by rw [HX1.out, HD1.out])]; exact hown
        exact ⟨⟨owns_slice hown, trivial⟩, hI.step sumIdx_inj HLT.out HAP.out (c := 2) (by decide) hown' hold hg hw⟩
      obtain ⟨A25, c25, rfl⟩ := hv
      simp only [Act.put, List.setIfInBounds_toArray, List.set_cons_succ, List.set_cons_zero]
      refine wpInv_end (fun ρ w20 hρ hI hd => ?_)
      clear hd
      have r0 : ρ (sumIdx 0) = some (.slice A13 (k + 1) c13) := (hρ 13 (by decide)).trans (by rfl)
      have r1 : ρ (sumIdx 1) = some (.slice A16 (k + 1) c16) := (hρ 16 (by decide)).trans (by rfl)
      have r2 : ρ (sumIdx 2) = some (.slice A25 (k + 1) c25) := (hρ 25 (by decide)).trans (by rfl)
      have HZ0 := Lib.hid ((hI.2.2.1 0 (by decide)).2 _ r0)
      have HZ1 := Lib.hid ((hI.2.2.1 1 (by decide)).2 _ r1)
      have HZ2 := Lib.hid ((hI.2.2.1 2 (by decide)).2 _ r2)
      have HY0 := Lib.hid ((hI.2.2.2 0 1 (by decide) (by decide) (by decide) _ r0).2 _ r1)
      have HY1' := Lib.hid ((hI.2.2.2 0 2 (by decide) (by decide) (by decide) _ r0).2 _ r2)
      have HY2 := Lib.hid ((hI.2.2.2 1 2 (by decide) (by decide) (by decide) _ r1).2 _ r2)
      have HBN := Lib.hid hI.1
      clear hI hρ r0 r1 r2
      simp only [Act.put, List.setIfInBounds_toArray, List.set_cons_succ, List.set_cons_zero, List.drop_succ_cons, List.drop_zero]
      go_wp2_with fail
      go_roundw
      case rel =>
        first
        | exact ⟨k + 1, by omega, by go_num, HZ0.out, HZ1.out, HZ2.out, HY0.out, HY1'.out, HY2.out, HBN.out⟩
        | ((repeat apply Exists.intro)
           refine ⟨⟨k + 1, by omega, ?_, HZ0.out, HZ1.out, HZ2.out, HY0.out, HY1'.out, HY2.out, HBN.out⟩, rfl⟩
           go_num)
      case measure => simp [intOf]; omega
    have hke : ne = k := by omega
    subst hke
    have hkw : ¬ (ne : Int) < t.wells := by have := HWN.out; omega
    have hkd : decide ((ne : Int) < t.wells) = false := by simpa using hkw
    obtain ⟨A7, c7, rfl, h7, _⟩ := intsAt_own HOB.out
    obtain ⟨A8, c8, rfl, h8, _⟩ := intsAt_own HON.out
    obtain ⟨A9, c9, rfl, h9, _⟩ := intsAt_own HOT.out
    clear HOB HON HOT HA1 HA2 HA3 HBL
    have HRA6 := Lib.hid h7
    clear h7
    have HRB6 := Lib.hid h8
    clear h8
    have HRC6 := Lib.hid h9
    clear h9
    obtain ⟨er, her⟩ : ∃ v, t.knowErr true = v := ⟨_, rfl⟩
    have HER := Lib.hid her
    have hz0 := draws_zero HWN.out.symm
    obtain ⟨a1, ha1⟩ : ∃ v, (t.totalV ne g (q : Int)).1 = v := ⟨_, rfl⟩
    obtain ⟨a2, ha2⟩ : ∃ v, (t.totalV ne g (q : Int)).2 = v := ⟨_, rfl⟩
    have HTa := Lib.hid (And.intro ha1 (And.intro ha2 ((sum_err HOK.out HQQ.out HDR.out).trans HER.out)))
    have HBa := Lib.hid (show 0 ≤ a1 ∧ a2 ≤ 1000 from by have := total_bound HOK.out HQQ.out HDR.out; rwa [ha1, ha2] at this)
    clear ha1 ha2
    obtain ⟨b1, hb1⟩ : ∃ v, (t.totalV ne gy (q : Int)).1 = v := ⟨_, rfl⟩
    obtain ⟨b2, hb2⟩ : ∃ v, (t.totalV ne gy (q : Int)).2 = v := ⟨_, rfl⟩
    have HTb := Lib.hid (And.intro hb1 (And.intro hb2 ((sum_err HOK.out HQQ.out HDY.out).trans HER.out)))
    have HBb := Lib.hid (show 0 ≤ b1 ∧ b2 ≤ 1000 from by have := total_bound HOK.out HQQ.out HDY.out; rwa [hb1, hb2] at this)
    clear hb1 hb2
    have HTz := Lib.hid (And.intro (total_zero t (q := q) (n := ne)) ((sum_err HOK.out HQQ.out hz0).trans HER.out))
    clear hz0 her
    go_wp2_with fail
    refine wp_region_late 12 10 [.const (.agg #[.int .i64 t.wells, .slice Aw t.nw cw, .slice Af t.nf cf]), .held emptyV (ownsV wr.heap.size 3 1 0 []), .const (.pointer (some ⟨w.heap.size + 1, 3, none⟩)), .const (.slice Ad ne cd), .held (ShapeOf ne) (ownsV wr.heap.size 3 1 ne (intL g ne)), .const (.pointer (some ⟨w.heap.size + 1, 1, none⟩)), .const (.int .i64 (q : Int)), .const (.tuple #[.agg #[.int .i64 a1, .int .i64 a2], .int .i64 er]), .const (.tuple #[.agg #[.int .i64 a1, .int .i64 a2], .int .i64 er]), .const (.agg #[.int .i64 a1, .int .i64 a2]), .const (.int .i64 er), .held boxS (boxR wr.heap.size 36 #[.int .i64 0, .int .i64 0])]
      (by kernel_rfl) (by kernel_rfl) rfl ⟨trivial, ⟨⟨_, 0, rfl⟩, fun _ _ _ hb h => owns_below h hb⟩, trivial, trivial, ownsG, trivial, trivial, trivial, trivial, trivial, trivial, boxG, trivial⟩ (crossAll_no _ _ _ _ trivial) rfl rfl rfl (fun _ => ⟨_, _, _, _, rfl, rfl, rfl, rfl⟩) ?_
    iterate 1 refine wpStir_const (by go_simp) ?_
    refine wpStir_held rfl (fun w' hb hd => ?_) (fun v hv => ?_)
    · clear hd
      have hz := hb.size
      go_simp
      exact ⟨bAlloc (Below.refl _ _) _, ⟨_, rfl⟩, owns_lower (owns_empty w' #[] 3 1 rfl) hz⟩
    obtain ⟨be, rfl⟩ := hv
    iterate 2 refine wpStir_const (by go_simp) ?_
    simp only [Act.put, List.setIfInBounds_toArray, List.set_cons_succ, List.set_cons_zero]
    refine wpStir_held rfl (fun w' hb hd => ?_) (fun v hv => ?_)
    · have h1 : ownsV wr.heap.size 3 1 0 [] w' (.slice (some ⟨be, 0, none⟩) 0 0) := hd.1 (by kernel_rfl)
      clear hd
      exact stir_copy3 w' (Operand.tmp 98) (Operand.tmp 100) 26 rfl 3 (.int .i64 0) 1 8 infoInt Tryd.underlying26 rfl (by decide) be Ad ne cd (intL g ne) rfl rfl (by rw [intL_len, Nat.mul_one]) (intsAt_row.1 (HI6.out.mono hb)) (by unfold maxLen; have := HM.out; omega) (by have := HM.out; omega) _ hb.size h1
    obtain ⟨bd, cdd, rfl⟩ := hv
    iterate 2 refine wpStir_const (by go_simp) ?_
    simp only [Act.put, List.setIfInBounds_toArray, List.set_cons_succ, List.set_cons_zero]
    refine wpStir_call rfl (fun w' hb hd => ?_) ?_
    · have h1 : ownsV wr.heap.size 3 1 ne (intL g ne) w' (.slice (some ⟨bd, 0, none⟩) ne cdd) := hd.1 (by kernel_rfl)
      clear hd
      obtain ⟨A9, c9, e9, h9, _⟩ := intsAt_own h1
      simp only [Value.slice.injEq] at e9
      obtain ⟨rfl, _, rfl⟩ := e9
      go_simp
      refine (totalQ_any Aw Af (some ⟨bd, 0, none⟩) cw cf cdd ne t g (q : Int) w' (by have := HM.out; omega) h9 HS.out (HT6.out.mono hb) (HTB6.out.mono hb)).mono ?_
      rintro e w'' ⟨rfl, hb'⟩
      exact ⟨by rw [HTa.out.1, HTa.out.2.1, HTa.out.2.2], hb'⟩
    iterate 3 refine wpStir_const (by go_simp) ?_
    refine wpStir_held rfl (fun w' hb hd => ?_) (fun v hv => ?_)
    · clear hd
      have hz := hb.size
      go_simp
      refine ⟨bAlloc (Below.refl _ _) _, ⟨_, rfl⟩, fun b e => ?_⟩
      obtain rfl : w'.heap.size = b := by simpa using e
      exact ⟨by omega, TBox.new _ _ _⟩
    obtain ⟨bxU, rfl⟩ := hv
    refine wpStir_end (fun w5 hb5 hd => ?_)
    obtain ⟨hbx, htb⟩ := hd.1 _ rfl
    clear hd
    have hx0 : w5.cell? ⟨bxU, 0, none⟩ = some (.int .i64 0) := htb.cell 0
    have hx1 : w5.cell? ⟨bxU, 1, none⟩ = some (.int .i64 0) := htb.cell 1
    have hf0 := htb.frozen 0
    have hf1 := htb.frozen 1
    have hxl := htb.lt
    simp only [Act.put, List.setIfInBounds_toArray, List.set_cons_succ, List.set_cons_zero, List.drop_succ_cons, List.drop_zero]
    refine ⟨(w5.setCell ⟨bxU, 0, none⟩ (.int .i64 a1)).setCell ⟨bxU, 1, none⟩ (.int .i64 a2), by go_simp, ?_⟩
    have htb2 := (htb.set 0 (.int .i64 a1)).set 1 (.int .i64 a2)
    have hb : Below wr.heap.size wr ((w5.setCell ⟨bxU, 0, none⟩ (.int .i64 a1)).setCell ⟨bxU, 1, none⟩ (.int .i64 a2)) := Below.setCell (p := ⟨bxU, 1, none⟩) (Below.setCell (p := ⟨bxU, 0, none⟩) hb5 hbx (.int .i64 a1)) hbx (.int .i64 a2)
    generalize (w5.setCell ⟨bxU, 0, none⟩ (.int .i64 a1)).setCell ⟨bxU, 1, none⟩ (.int .i64 a2) = w7 at htb2 hb ⊢
    have hB7 : Below wr.heap.size wr w7 := bTrans (Below.refl _ _) hb
    have HD7 := Lib.hid (bTrans HD6.out hB7)
    have HT7 := Lib.hid (HT6.out.mono hB7)
    have HTB7 := Lib.hid (HTB6.out.mono hB7)
    have HI7 := Lib.hid (HI6.out.mono hB7)
    have HJ7 := Lib.hid (HJ6.out.mono hB7)
    have HRA7 := Lib.hid (HRA6.out.mono hB7)
    have HRB7 := Lib.hid (HRB6.out.mono hB7)
    have HRC7 := Lib.hid (HRC6.out.mono hB7)
    have U7 := Lib.hid ((show TBox w7 bxU 36 #[.int .i64 a1, .int .i64 a2] from htb2))
    have T7 := Lib.hid (T6.out.mono hB7)
    have X7 := Lib.hid (X6.out.mono hB7)
    have Y7 := Lib.hid (Y6.out.mono hB7)
    clear hb hB7 HD6 HT6 HTB6 HI6 HJ6 HRA6 HRB6 HRC6 T6 T_0 T_1 T_2 T_l X6 X_0 X_1 X_2 X_3 X_l Y6 Y_0 Y_1 Y_2 Y_3 Y_l
    obtain ⟨T_0, T_1, T_2, T_l⟩ := T7.out.c3
    obtain ⟨X_0, X_1, X_2, X_3, X_l⟩ := X7.out.c4
    obtain ⟨Y_0, Y_1, Y_2, Y_3, Y_l⟩ := Y7.out.c4
    clear htb htb2 hx0 hx1 hf0 hf1 hxl hb5 hbx
    obtain ⟨U_0, U_1, U_l⟩ := U7.out.c2
    go_wp2_with fail
    refine wp_region_late 12 10 [.const (.agg #[.int .i64 t.wells, .slice Aw t.nw cw, .slice Af t.nf cf]), .held emptyV (ownsV w7.heap.size 3 1 0 []), .const (.pointer (some ⟨w.heap.size + 1 + 1, 3, none⟩)), .const (.slice Ae ne ce), .held (ShapeOf ne) (ownsV w7.heap.size 3 1 ne (intL gy ne)), .const (.pointer (some ⟨w.heap.size + 1, 1, none⟩)), .const (.int .i64 (q : Int)), .const (.tuple #[.agg #[.int .i64 b1, .int .i64 b2], .int .i64 er]), .const (.tuple #[.agg #[.int .i64 b1, .int .i64 b2], .int .i64 er]), .const (.agg #[.int .i64 b1, .int .i64 b2]), .const (.int .i64 er), .held boxS (boxR w7.heap.size 36 #[.int .i64 0, .int .i64 0])]
      (by kernel_rfl) (by kernel_rfl) rfl ⟨trivial, ⟨⟨_, 0, rfl⟩, fun _ _ _ hb h => owns_below h hb⟩, trivial, trivial, ownsG, trivial, trivial, trivial, trivial, trivial, trivial, boxG, trivial⟩ (crossAll_no _ _ _ _ trivial) rfl rfl rfl (fun _ => ⟨_, _, _, _, rfl, rfl, rfl, rfl⟩) ?_
    iterate 1 refine wpStir_const (by go_simp) ?_
    refine wpStir_held rfl (fun w' hb hd => ?_) (fun v hv => ?_)
    · clear hd
      have hz := hb.size
      go_simp
      exact ⟨bAlloc (Below.refl _ _) _, ⟨_, rfl⟩, owns_lower (owns_empty w' #[] 3 1 rfl) hz⟩
    obtain ⟨be, rfl⟩ := hv
    iterate 2 refine wpStir_const (by go_simp) ?_
    simp only [Act.put, List.setIfInBounds_toArray, List.set_cons_succ, List.set_cons_zero]
    refine wpStir_held rfl (fun w' hb hd => ?_) (fun v hv => ?_)
    · have h1 : ownsV w7.heap.size 3 1 0 [] w' (.slice (some ⟨be, 0, none⟩) 0 0) := hd.1 (by kernel_rfl)
      clear hd
      exact stir_copy3 w' (Operand.tmp 109) (Operand.tmp 111) 26 rfl 3 (.int .i64 0) 1 8 infoInt Tryd.underlying26 rfl (by decide) be Ae ne ce (intL gy ne) rfl rfl (by rw [intL_len, Nat.mul_one]) (intsAt_row.1 (HJ7.out.mono hb)) (by unfold maxLen; have := HM.out; omega) (by have := HM.out; omega) _ hb.size h1
    obtain ⟨bd, cdd, rfl⟩ := hv
    iterate 2 refine wpStir_const (by go_simp) ?_
    simp only [Act.put, List.setIfInBounds_toArray, List.set_cons_succ, List.set_cons_zero]
    refine wpStir_call rfl (fun w' hb hd => ?_) ?_
    · have h1 : ownsV w7.heap.size 3 1 ne (intL gy ne) w' (.slice (some ⟨bd, 0, none⟩) ne cdd) := hd.1 (by kernel_rfl)
      clear hd
      obtain ⟨A9, c9, e9, h9, _⟩ := intsAt_own h1
      simp only [Value.slice.injEq] at e9
      obtain ⟨rfl, _, rfl⟩ := e9
      go_simp
      refine (totalQ_any Aw Af (some ⟨bd, 0, none⟩) cw cf cdd ne t gy (q : Int) w' (by have := HM.out; omega) h9 HS.out (HT7.out.mono hb) (HTB7.out.mono hb)).mono ?_
      rintro e w'' ⟨rfl, hb'⟩
      exact ⟨by rw [HTb.out.1, HTb.out.2.1, HTb.out.2.2], hb'⟩
    iterate 3 refine wpStir_const (by go_simp) ?_
    refine wpStir_held rfl (fun w' hb hd => ?_) (fun v hv => ?_)
    · clear hd
      have hz := hb.size
      go_simp
      refine ⟨bAlloc (Below.refl _ _) _, ⟨_, rfl⟩, fun b e => ?_⟩
      obtain rfl : w'.heap.size = b := by simpa using e
      exact ⟨by omega, TBox.new _ _ _⟩
    obtain ⟨bxV, rfl⟩ := hv
    refine wpStir_end (fun w5 hb5 hd => ?_)
    obtain ⟨hbx, htb⟩ := hd.1 _ rfl
    clear hd
    have hx0 : w5.cell? ⟨bxV, 0, none⟩ = some (.int .i64 0) := htb.cell 0
    have hx1 : w5.cell? ⟨bxV, 1, none⟩ = some (.int .i64 0) := htb.cell 1
    have hf0 := htb.frozen 0
    have hf1 := htb.frozen 1
    have hxl := htb.lt
    simp only [Act.put, List.setIfInBounds_toArray, List.set_cons_succ, List.set_cons_zero, List.drop_succ_cons, List.drop_zero]
    refine ⟨(w5.setCell ⟨bxV, 0, none⟩ (.int .i64 b1)).setCell ⟨bxV, 1, none⟩ (.int .i64 b2), by go_simp, ?_⟩
    have htb2 := (htb.set 0 (.int .i64 b1)).set 1 (.int .i64 b2)
    have hb : Below w7.heap.size w7 ((w5.setCell ⟨bxV, 0, none⟩ (.int .i64 b1)).setCell ⟨bxV, 1, none⟩ (.int .i64 b2)) := Below.setCell (p := ⟨bxV, 1, none⟩) (Below.setCell (p := ⟨bxV, 0, none⟩) hb5 hbx (.int .i64 b1)) hbx (.int .i64 b2)
    generalize (w5.setCell ⟨bxV, 0, none⟩ (.int .i64 b1)).setCell ⟨bxV, 1, none⟩ (.int .i64 b2) = w8 at htb2 hb ⊢
    have hB8 : Below w7.heap.size w7 w8 := bTrans (Below.refl _ _) hb
    have HD8 := Lib.hid (bTrans HD7.out hB8)
    have HT8 := Lib.hid (HT7.out.mono hB8)
    have HTB8 := Lib.hid (HTB7.out.mono hB8)
    have HI8 := Lib.hid (HI7.out.mono hB8)
    have HJ8 := Lib.hid (HJ7.out.mono hB8)
    have HRA8 := Lib.hid (HRA7.out.mono hB8)
    have HRB8 := Lib.hid (HRB7.out.mono hB8)
    have HRC8 := Lib.hid (HRC7.out.mono hB8)
    have V8 := Lib.hid ((show TBox w8 bxV 36 #[.int .i64 b1, .int .i64 b2] from htb2))
    have T8 := Lib.hid (T7.out.mono hB8)
    have X8 := Lib.hid (X7.out.mono hB8)
    have Y8 := Lib.hid (Y7.out.mono hB8)
    have U8 := Lib.hid (U7.out.mono hB8)
    clear hb hB8 HD7 HT7 HTB7 HI7 HJ7 HRA7 HRB7 HRC7 T7 T_0 T_1 T_2 T_l X7 X_0 X_1 X_2 X_3 X_l Y7 Y_0 Y_1 Y_2 Y_3 Y_l U7 U_0 U_1 U_l
    obtain ⟨T_0, T_1, T_2, T_l⟩ := T8.out.c3
    obtain ⟨X_0, X_1, X_2, X_3, X_l⟩ := X8.out.c4
    obtain ⟨Y_0, Y_1, Y_2, Y_3, Y_l⟩ := Y8.out.c4
    obtain ⟨U_0, U_1, U_l⟩ := U8.out.c2
    clear htb htb2 hx0 hx1 hf0 hf1 hxl hb5 hbx
    obtain ⟨V_0, V_1, V_l⟩ := V8.out.c2
    go_wp2_with fail
    refine wp_region_late 11 9 [.const (.agg #[.int .i64 t.wells, .slice Aw t.nw cw, .slice Af t.nf cf]), .held emptyV (ownsV w8.heap.size 3 1 0 []), .const (.slice A8 ne c8), .held (ShapeOf ne) (ownsV w8.heap.size 3 1 ne (intL (fun _ => 0) ne)), .const (.pointer (some ⟨w.heap.size + 1, 1, none⟩)), .const (.int .i64 (q : Int)), .const (.tuple #[.agg #[.int .i64 0, .int .i64 0], .int .i64 er]), .const (.tuple #[.agg #[.int .i64 0, .int .i64 0], .int .i64 er]), .const (.agg #[.int .i64 0, .int .i64 0]), .const (.int .i64 er), .held boxS (boxR w8.heap.size 36 #[.int .i64 0, .int .i64 0])]
      (by kernel_rfl) (by kernel_rfl) rfl ⟨trivial, ⟨⟨_, 0, rfl⟩, fun _ _ _ hb h => owns_below h hb⟩, trivial, ownsG, trivial, trivial, trivial, trivial, trivial, trivial, boxG, trivial⟩ (crossAll_no _ _ _ _ trivial) rfl rfl rfl (fun _ => ⟨_, _, _, _, rfl, rfl, rfl, rfl⟩) ?_
    iterate 1 refine wpStir_const (by go_simp) ?_
    refine wpStir_held rfl (fun w' hb hd => ?_) (fun v hv => ?_)
    · clear hd
      have hz := hb.size
      go_simp
      exact ⟨bAlloc (Below.refl _ _) _, ⟨_, rfl⟩, owns_lower (owns_empty w' #[] 3 1 rfl) hz⟩
    obtain ⟨be, rfl⟩ := hv
    iterate 1 refine wpStir_const (by go_simp) ?_
    simp only [Act.put, List.setIfInBounds_toArray, List.set_cons_succ, List.set_cons_zero]
    refine wpStir_held rfl (fun w' hb hd => ?_) (fun v hv => ?_)
    · have h1 : ownsV w8.heap.size 3 1 0 [] w' (.slice (some ⟨be, 0, none⟩) 0 0) := hd.1 (by kernel_rfl)
      clear hd
      exact stir_copy3 w' (Operand.tmp 120) (Operand.tmp 121) 26 rfl 3 (.int .i64 0) 1 8 infoInt Tryd.underlying26 rfl (by decide) be A8 ne c8 (intL (fun _ => 0) ne) rfl rfl (by rw [intL_len, Nat.mul_one]) (intsAt_row.1 (HRB8.out.mono hb)) (by unfold maxLen; have := HM.out; omega) (by have := HM.out; omega) _ hb.size h1
    obtain ⟨bd, cdd, rfl⟩ := hv
    iterate 2 refine wpStir_const (by go_simp) ?_
    simp only [Act.put, List.setIfInBounds_toArray, List.set_cons_succ, List.set_cons_zero]
    refine wpStir_call rfl (fun w' hb hd => ?_) ?_
    · have h1 : ownsV w8.heap.size 3 1 ne (intL (fun _ => 0) ne) w' (.slice (some ⟨bd, 0, none⟩) ne cdd) := hd.1 (by kernel_rfl)
      clear hd
      obtain ⟨A9, c9, e9, h9, _⟩ := intsAt_own h1
      simp only [Value.slice.injEq] at e9
      obtain ⟨rfl, _, rfl⟩ := e9
      go_simp
      refine (totalQ_any Aw Af (some ⟨bd, 0, none⟩) cw cf cdd ne t (fun _ => 0) (q : Int) w' (by have := HM.out; omega) h9 HS.out (HT8.out.mono hb) (HTB8.out.mono hb)).mono ?_
      rintro e w'' ⟨rfl, hb'⟩
      exact ⟨by rw [HTz.out.1, HTz.out.2], hb'⟩
    iterate 3 refine wpStir_const (by go_simp) ?_
    refine wpStir_held rfl (fun w' hb hd => ?_) (fun v hv => ?_)
    · clear hd
      have hz := hb.size
      go_simp
      refine ⟨bAlloc (Below.refl _ _) _, ⟨_, rfl⟩, fun b e => ?_⟩
      obtain rfl : w'.heap.size = b := by simpa using e
      exact ⟨by omega, TBox.new _ _ _⟩
    obtain ⟨bxZ, rfl⟩ := hv
    refine wpStir_end (fun w5 hb5 hd => ?_)
    obtain ⟨hbx, htb⟩ := hd.1 _ rfl
    clear hd
    have hx0 : w5.cell? ⟨bxZ, 0, none⟩ = some (.int .i64 0) := htb.cell 0
    have hx1 : w5.cell? ⟨bxZ, 1, none⟩ = some (.int .i64 0) := htb.cell 1
    have hf0 := htb.frozen 0
    have hf1 := htb.frozen 1
    have hxl := htb.lt
    simp only [Act.put, List.setIfInBounds_toArray, List.set_cons_succ, List.set_cons_zero, List.drop_succ_cons, List.drop_zero]
    refine ⟨(w5.setCell ⟨bxZ, 0, none⟩ (.int .i64 0)).setCell ⟨bxZ, 1, none⟩ (.int .i64 0), by go_simp, ?_⟩
    have htb2 := (htb.set 0 (.int .i64 0)).set 1 (.int .i64 0)
    have hb : Below w8.heap.size w8 ((w5.setCell ⟨bxZ, 0, none⟩ (.int .i64 0)).setCell ⟨bxZ, 1, none⟩ (.int .i64 0)) := Below.setCell (p := ⟨bxZ, 1, none⟩) (Below.setCell (p := ⟨bxZ, 0, none⟩) hb5 hbx (.int .i64 0)) hbx (.int .i64 0)
    generalize (w5.setCell ⟨bxZ, 0, none⟩ (.int .i64 0)).setCell ⟨bxZ, 1, none⟩ (.int .i64 0) = w9 at htb2 hb ⊢
    have hB9 : Below w8.heap.size w8 w9 := bTrans (Below.refl _ _) hb
    have HD9 := Lib.hid (bTrans HD8.out hB9)
    have HT9 := Lib.hid (HT8.out.mono hB9)
    have HTB9 := Lib.hid (HTB8.out.mono hB9)
    have HI9 := Lib.hid (HI8.out.mono hB9)
    have HJ9 := Lib.hid (HJ8.out.mono hB9)
    have HRA9 := Lib.hid (HRA8.out.mono hB9)
    have HRB9 := Lib.hid (HRB8.out.mono hB9)
    have HRC9 := Lib.hid (HRC8.out.mono hB9)
    have Z9 := Lib.hid ((show TBox w9 bxZ 36 #[.int .i64 0, .int .i64 0] from htb2))
    have T9 := Lib.hid (T8.out.mono hB9)
    have X9 := Lib.hid (X8.out.mono hB9)
    have Y9 := Lib.hid (Y8.out.mono hB9)
    have U9 := Lib.hid (U8.out.mono hB9)
    have V9 := Lib.hid (V8.out.mono hB9)
    clear hb hB9 HD8 HT8 HTB8 HI8 HJ8 HRA8 HRB8 HRC8 T8 T_0 T_1 T_2 T_l X8 X_0 X_1 X_2 X_3 X_l Y8 Y_0 Y_1 Y_2 Y_3 Y_l U8 U_0 U_1 U_l V8 V_0 V_1 V_l
    obtain ⟨T_0, T_1, T_2, T_l⟩ := T9.out.c3
    obtain ⟨X_0, X_1, X_2, X_3, X_l⟩ := X9.out.c4
    obtain ⟨Y_0, Y_1, Y_2, Y_3, Y_l⟩ := Y9.out.c4
    obtain ⟨U_0, U_1, U_l⟩ := U9.out.c2
    obtain ⟨V_0, V_1, V_l⟩ := V9.out.c2
    clear htb htb2 hx0 hx1 hf0 hf1 hxl hb5 hbx
    obtain ⟨Z_0, Z_1, Z_l⟩ := Z9.out.c2
    go_wp2_with fail
    refine (blameQ_any Aw Af A8 cw cf c8 ne t (fun _ => 0) (q : Int) _ HS.out HT9.out HTB9.out (by have := HM.out; omega) HRB9.out).mono ?_
    rintro e w10 ⟨rfl, hb⟩
    rw [blame_zero HOK.out HQQ.out HWN.out.symm]
    have hB10 : Below w9.heap.size w9 w10 := bTrans (Below.refl _ _) hb
    have HD10 := Lib.hid (bTrans HD9.out hB10)
    have HT10 := Lib.hid (HT9.out.mono hB10)
    have HTB10 := Lib.hid (HTB9.out.mono hB10)
    have HI10 := Lib.hid (HI9.out.mono hB10)
    have HJ10 := Lib.hid (HJ9.out.mono hB10)
    have HRA10 := Lib.hid (HRA9.out.mono hB10)
    have HRC10 := Lib.hid (HRC9.out.mono hB10)
    have T10 := Lib.hid (T9.out.mono hB10)
    have X10 := Lib.hid (X9.out.mono hB10)
    have Y10 := Lib.hid (Y9.out.mono hB10)
    have U10 := Lib.hid (U9.out.mono hB10)
    have V10 := Lib.hid (V9.out.mono hB10)
    have Z10 := Lib.hid (Z9.out.mono hB10)
    clear hb hB10 HD9 HT9 HTB9 HI9 HJ9 HRA9 HRB9 HRC9 T9 T_0 T_1 T_2 T_l X9 X_0 X_1 X_2 X_3 X_l Y9 Y_0 Y_1 Y_2 Y_3 Y_l U9 U_0 U_1 U_l V9 V_0 V_1 V_l Z9 Z_0 Z_1 Z_l
    obtain ⟨T_0, T_1, T_2, T_l⟩ := T10.out.c3
    obtain ⟨X_0, X_1, X_2, X_3, X_l⟩ := X10.out.c4
    obtain ⟨Y_0, Y_1, Y_2, Y_3, Y_l⟩ := Y10.out.c4
    obtain ⟨U_0, U_1, U_l⟩ := U10.out.c2
    obtain ⟨V_0, V_1, V_l⟩ := V10.out.c2
    obtain ⟨Z_0, Z_1, Z_l⟩ := Z10.out.c2
    go_wp2_with fail
    refine (refLeftOf Aw Af cw cf t _ HOK.out HT10.out).mono ?_
    rintro e w11 ⟨⟨v, rfl, hv⟩, hb⟩
    obtain ⟨A4, c4, rfl, _⟩ := hv.nums
    have hB11 : Below w10.heap.size w10 w11 := bTrans (Below.refl _ _) hb
    have HD11 := Lib.hid (bTrans HD10.out hB11)
    have HT11 := Lib.hid (HT10.out.mono hB11)
    have HTB11 := Lib.hid (HTB10.out.mono hB11)
    have HI11 := Lib.hid (HI10.out.mono hB11)
    have HJ11 := Lib.hid (HJ10.out.mono hB11)
    have HRA11 := Lib.hid (HRA10.out.mono hB11)
    have HRC11 := Lib.hid (HRC10.out.mono hB11)
    have T11 := Lib.hid (T10.out.mono hB11)
    have X11 := Lib.hid (X10.out.mono hB11)
    have Y11 := Lib.hid (Y10.out.mono hB11)
    have U11 := Lib.hid (U10.out.mono hB11)
    have V11 := Lib.hid (V10.out.mono hB11)
    have Z11 := Lib.hid (Z10.out.mono hB11)
    clear hb hB11 HD10 HT10 HTB10 HI10 HJ10 HRA10 HRC10 T10 T_0 T_1 T_2 T_l X10 X_0 X_1 X_2 X_3 X_l Y10 Y_0 Y_1 Y_2 Y_3 Y_l U10 U_0 U_1 U_l V10 V_0 V_1 V_l Z10 Z_0 Z_1 Z_l
    obtain ⟨T_0, T_1, T_2, T_l⟩ := T11.out.c3
    obtain ⟨X_0, X_1, X_2, X_3, X_l⟩ := X11.out.c4
    obtain ⟨Y_0, Y_1, Y_2, Y_3, Y_l⟩ := Y11.out.c4
    obtain ⟨U_0, U_1, U_l⟩ := U11.out.c2
    obtain ⟨V_0, V_1, V_l⟩ := V11.out.c2
    obtain ⟨Z_0, Z_1, Z_l⟩ := Z11.out.c2
    clear hv
    obtain ⟨n, hn⟩ : ∃ n, t.leftL.length = n := ⟨_, rfl⟩
    rw [hn]
    have HN1 := Lib.hid hn
    have n6 : n ≤ 6 := by rw [← hn]; exact left_six HOK.out
    clear hn
    by_cases hnil : t.leftL = []
    case pos =>
      have her : er = 3 := by rw [← HER.out]; exact knowErr_none HOK.out hnil
      subst her
      have hn0 : n = 0 := by rw [← HN1.out, hnil]; rfl
      subst hn0
      clear hnil
      go_wp2_with fail
      refine (works5_any _ HTB11.out).mono ?_
      rintro e w99 ⟨rfl, hb99⟩
      go_wp2_with fail
      go_ret
      exact ⟨rfl, bTrans HD11.out hb99⟩
    have her : er = 0 := by rw [← HER.out]; exact knowErr_ok HOK.out hnil
    subst her
    have n0 : (n == 0) = false := by simp; rw [← HN1.out]; exact fun h => hnil (List.eq_nil_of_length_eq_zero h)
    have n00 : 0 < n := by rw [← HN1.out]; exact List.length_pos_iff.2 hnil
    have n0i : ((n : Int) == 0) = false := by simp; omega
    clear hnil
    obtain ⟨lo, hlo⟩ : ∃ lo, (if b1 < a1 then b1 else a1) = lo := ⟨_, rfl⟩
    obtain ⟨hi, hhi⟩ : ∃ hi, (if a2 < b2 then b2 else a2) = hi := ⟨_, rfl⟩
    have hlo0 : ¬ lo < 0 := by have := HBa.out; have := HBb.out; rw [← hlo]; split <;> omega
    have hhi0 : ¬ hi > 1000 := by have := HBa.out; have := HBb.out; rw [← hhi]; split <;> omega
    have hds : diffS 0 0 0 0 = false := by decide
    go_wp2_with fail
    clear hlo hhi hlo0 hhi0 hds n0 n00 n0i
    refine (areDraws5_any _ _ _ _ _ _ ne t (fun i => g i + gy i) _ (by have := HM.out; omega) HRA11.out).mono ?_
    rintro e w12 ⟨rfl, hb⟩
    have hB12 : Below w11.heap.size w11 w12 := bTrans (Below.refl _ _) hb
    have HD12 := Lib.hid (bTrans HD11.out hB12)
    have HT12 := Lib.hid (HT11.out.mono hB12)
    have HTB12 := Lib.hid (HTB11.out.mono hB12)
    have HI12 := Lib.hid (HI11.out.mono hB12)
    have HJ12 := Lib.hid (HJ11.out.mono hB12)
    have HRA12 := Lib.hid (HRA11.out.mono hB12)
    have HRC12 := Lib.hid (HRC11.out.mono hB12)
    have T12 := Lib.hid (T11.out.mono hB12)
    have X12 := Lib.hid (X11.out.mono hB12)
    have Y12 := Lib.hid (Y11.out.mono hB12)
    have U12 := Lib.hid (U11.out.mono hB12)
    have V12 := Lib.hid (V11.out.mono hB12)
    have Z12 := Lib.hid (Z11.out.mono hB12)
    clear hb hB12 HD11 HT11 HTB11 HI11 HJ11 HRA11 HRC11 T11 T_0 T_1 T_2 T_l X11 X_0 X_1 X_2 X_3 X_l Y11 Y_0 Y_1 Y_2 Y_3 Y_l U11 U_0 U_1 U_l V11 V_0 V_1 V_l Z11 Z_0 Z_1 Z_l
    obtain ⟨T_0, T_1, T_2, T_l⟩ := T12.out.c3
    obtain ⟨X_0, X_1, X_2, X_3, X_l⟩ := X12.out.c4
    obtain ⟨Y_0, Y_1, Y_2, Y_3, Y_l⟩ := Y12.out.c4
    obtain ⟨U_0, U_1, U_l⟩ := U12.out.c2
    obtain ⟨V_0, V_1, V_l⟩ := V12.out.c2
    obtain ⟨Z_0, Z_1, Z_l⟩ := Z12.out.c2
    obtain ⟨bq, hbq⟩ : ∃ b, t.drawsB ne (fun i => g i + gy i) = b := ⟨_, rfl⟩
    rw [hbq]
    have HDB := Lib.hid hbq
    clear hbq
    cases bq
    case false =>
      go_wp2_with fail
      refine (areDraws5_any _ _ _ _ _ _ ne t (fun i => 2 * g i) _ (by have := HM.out; omega) HRC12.out).mono ?_
      rintro e w13 ⟨rfl, hb⟩
      have hB13 : Below w12.heap.size w12 w13 := bTrans (Below.refl _ _) hb
      have HD13 := Lib.hid (bTrans HD12.out hB13)
      have HT13 := Lib.hid (HT12.out.mono hB13)
      have HTB13 := Lib.hid (HTB12.out.mono hB13)
      have HI13 := Lib.hid (HI12.out.mono hB13)
      have HJ13 := Lib.hid (HJ12.out.mono hB13)
      have HRA13 := Lib.hid (HRA12.out.mono hB13)
      have HRC13 := Lib.hid (HRC12.out.mono hB13)
      have T13 := Lib.hid (T12.out.mono hB13)
      have X13 := Lib.hid (X12.out.mono hB13)
      have Y13 := Lib.hid (Y12.out.mono hB13)
      have U13 := Lib.hid (U12.out.mono hB13)
      have V13 := Lib.hid (V12.out.mono hB13)
      have Z13 := Lib.hid (Z12.out.mono hB13)
      clear hb hB13 HD12 HT12 HTB12 HI12 HJ12 HRA12 HRC12 T12 T_0 T_1 T_2 T_l X12 X_0 X_1 X_2 X_3 X_l Y12 Y_0 Y_1 Y_2 Y_3 Y_l U12 U_0 U_1 U_l V12 V_0 V_1 V_l Z12 Z_0 Z_1 Z_l
      obtain ⟨T_0, T_1, T_2, T_l⟩ := T13.out.c3
      obtain ⟨X_0, X_1, X_2, X_3, X_l⟩ := X13.out.c4
      obtain ⟨Y_0, Y_1, Y_2, Y_3, Y_l⟩ := Y13.out.c4
      obtain ⟨U_0, U_1, U_l⟩ := U13.out.c2
      obtain ⟨V_0, V_1, V_l⟩ := V13.out.c2
      obtain ⟨Z_0, Z_1, Z_l⟩ := Z13.out.c2
      obtain ⟨bq, hbq⟩ : ∃ b, t.drawsB ne (fun i => 2 * g i) = b := ⟨_, rfl⟩
      rw [hbq]
      have HDT := Lib.hid hbq
      clear hbq
      cases bq
      case false =>
        go_wp2_with fail
        refine (works5_any _ HTB13.out).mono ?_
        rintro e w99 ⟨rfl, hb99⟩
        go_wp2_with fail
        go_ret
        exact ⟨rfl, bTrans HD13.out hb99⟩
      go_wp2_with fail
      obtain ⟨m1, hm1⟩ : ∃ v, (t.blameOut ne g (q : Int)).1 = v := ⟨_, rfl⟩
      obtain ⟨m2, hm2⟩ : ∃ v, (t.blameOut ne g (q : Int)).2 = v := ⟨_, rfl⟩
      have HMM := Lib.hid (And.intro hm1 hm2)
      have HMB := Lib.hid (blame_twice (q := q) HDR.out HDT.out)
      clear hm1 hm2
      refine wp_region_stir 12 [.const (.agg #[.int .i64 t.wells, .slice Aw t.nw cw, .slice Af t.nf cf]), .held emptyV (ownsV w13.heap.size 3 1 0 []), .const (.pointer (some ⟨w.heap.size + 1, 3, none⟩)), .const (.slice Ad ne cd), .held (ShapeOf ne) (ownsV w13.heap.size 3 1 ne (intL g ne)), .const (.pointer (some ⟨w.heap.size + 1, 1, none⟩)), .const (.int .i64 (q : Int)), .const (.tuple #[.int .i64 m1, .int .i64 m2]), .const (.tuple #[.int .i64 m1, .int .i64 m2]), .const (.int .i64 m1), .const (.int .i64 m2), .const (.int .i64 m1)]
        (by kernel_rfl) (by kernel_rfl) rfl ⟨trivial, ⟨⟨_, 0, rfl⟩, fun _ _ _ hb h => owns_below h hb⟩, trivial, trivial, ownsG, trivial, trivial, trivial, trivial, trivial, trivial, trivial, trivial⟩ (crossAll_no _ _ _ _ trivial) ?_
      iterate 1 refine wpStir_const (by go_simp) ?_
      refine wpStir_held rfl (fun w' hb hd => ?_) (fun v hv => ?_)
      · clear hd
        have hz := hb.size
        go_simp
        exact ⟨bAlloc (Below.refl _ _) _, ⟨_, rfl⟩, owns_lower (owns_empty w' #[] 3 1 rfl) hz⟩
      obtain ⟨be, rfl⟩ := hv
      iterate 2 refine wpStir_const (by go_simp) ?_
      simp only [Act.put, List.setIfInBounds_toArray, List.set_cons_succ, List.set_cons_zero]
      refine wpStir_held rfl (fun w' hb hd => ?_) (fun v hv => ?_)
      · have h1 : ownsV w13.heap.size 3 1 0 [] w' (.slice (some ⟨be, 0, none⟩) 0 0) := hd.1 (by kernel_rfl)
        clear hd
        exact stir_copy3 w' (Operand.tmp 231) (Operand.tmp 233) 26 rfl 3 (.int .i64 0) 1 8 infoInt Tryd.underlying26 rfl (by decide) be Ad ne cd (intL g ne) rfl rfl (by rw [intL_len, Nat.mul_one]) (intsAt_row.1 (HI13.out.mono hb)) (by unfold maxLen; have := HM.out; omega) (by have := HM.out; omega) _ hb.size h1
      obtain ⟨bd, cdd, rfl⟩ := hv
      iterate 2 refine wpStir_const (by go_simp) ?_
      simp only [Act.put, List.setIfInBounds_toArray, List.set_cons_succ, List.set_cons_zero]
      refine wpStir_call rfl (fun w' hb hd => ?_) ?_
      · have h1 : ownsV w13.heap.size 3 1 ne (intL g ne) w' (.slice (some ⟨bd, 0, none⟩) ne cdd) := hd.1 (by kernel_rfl)
        clear hd
        obtain ⟨A9, c9, e9, h9, _⟩ := intsAt_own h1
        simp only [Value.slice.injEq] at e9
        obtain ⟨rfl, _, rfl⟩ := e9
        go_simp
        refine (blameQ_any Aw Af (some ⟨bd, 0, none⟩) cw cf cdd ne t g (q : Int) w' HS.out (HT13.out.mono hb) (HTB13.out.mono hb) (by have := HM.out; omega) h9).mono ?_
        rintro e w'' ⟨rfl, hb'⟩
        exact ⟨by rw [HMM.out.1, HMM.out.2], hb'⟩
      iterate 4 refine wpStir_const (by go_simp) ?_
      refine wpStir_end (fun w14 hb hd => ?_)
      clear hd
      simp only [Act.put, List.setIfInBounds_toArray, List.set_cons_succ, List.set_cons_zero, List.drop_succ_cons, List.drop_zero]
      have hB14 : Below w13.heap.size w13 w14 := bTrans (Below.refl _ _) hb
      have HD14 := Lib.hid (bTrans HD13.out hB14)
      have HT14 := Lib.hid (HT13.out.mono hB14)
      have HTB14 := Lib.hid (HTB13.out.mono hB14)
      have HI14 := Lib.hid (HI13.out.mono hB14)
      have HJ14 := Lib.hid (HJ13.out.mono hB14)
      have HRA14 := Lib.hid (HRA13.out.mono hB14)
      have HRC14 := Lib.hid (HRC13.out.mono hB14)
      have T14 := Lib.hid (T13.out.mono hB14)
      have X14 := Lib.hid (X13.out.mono hB14)
      have Y14 := Lib.hid (Y13.out.mono hB14)
      have U14 := Lib.hid (U13.out.mono hB14)
      have V14 := Lib.hid (V13.out.mono hB14)
      have Z14 := Lib.hid (Z13.out.mono hB14)
      clear hb hB14 HD13 HT13 HTB13 HI13 HJ13 HRA13 HRC13 T13 T_0 T_1 T_2 T_l X13 X_0 X_1 X_2 X_3 X_l Y13 Y_0 Y_1 Y_2 Y_3 Y_l U13 U_0 U_1 U_l V13 V_0 V_1 V_l Z13 Z_0 Z_1 Z_l
      obtain ⟨T_0, T_1, T_2, T_l⟩ := T14.out.c3
      obtain ⟨X_0, X_1, X_2, X_3, X_l⟩ := X14.out.c4
      obtain ⟨Y_0, Y_1, Y_2, Y_3, Y_l⟩ := Y14.out.c4
      obtain ⟨U_0, U_1, U_l⟩ := U14.out.c2
      obtain ⟨V_0, V_1, V_l⟩ := V14.out.c2
      obtain ⟨Z_0, Z_1, Z_l⟩ := Z14.out.c2
      go_wp2_with fail
      refine (blameQ_any Aw Af A9 cw cf c9 ne t (fun i => 2 * g i) (q : Int) _ HS.out HT14.out HTB14.out (by have := HM.out; omega) HRC14.out).mono ?_
      rintro e w15 ⟨rfl, hb⟩
      rw [HMB.out, HMM.out.1, HMM.out.2]
      have hB15 : Below w14.heap.size w14 w15 := bTrans (Below.refl _ _) hb
      have HD15 := Lib.hid (bTrans HD14.out hB15)
      have HT15 := Lib.hid (HT14.out.mono hB15)
      have HTB15 := Lib.hid (HTB14.out.mono hB15)
      have HI15 := Lib.hid (HI14.out.mono hB15)
      have HJ15 := Lib.hid (HJ14.out.mono hB15)
      have HRA15 := Lib.hid (HRA14.out.mono hB15)
      have HRC15 := Lib.hid (HRC14.out.mono hB15)
      have T15 := Lib.hid (T14.out.mono hB15)
      have X15 := Lib.hid (X14.out.mono hB15)
      have Y15 := Lib.hid (Y14.out.mono hB15)
      have U15 := Lib.hid (U14.out.mono hB15)
      have V15 := Lib.hid (V14.out.mono hB15)
      have Z15 := Lib.hid (Z14.out.mono hB15)
      clear hb hB15 HD14 HT14 HTB14 HI14 HJ14 HRA14 HRC14 T14 T_0 T_1 T_2 T_l X14 X_0 X_1 X_2 X_3 X_l Y14 Y_0 Y_1 Y_2 Y_3 Y_l U14 U_0 U_1 U_l V14 V_0 V_1 V_l Z14 Z_0 Z_1 Z_l
      obtain ⟨T_0, T_1, T_2, T_l⟩ := T15.out.c3
      obtain ⟨X_0, X_1, X_2, X_3, X_l⟩ := X15.out.c4
      obtain ⟨Y_0, Y_1, Y_2, Y_3, Y_l⟩ := Y15.out.c4
      obtain ⟨U_0, U_1, U_l⟩ := U15.out.c2
      obtain ⟨V_0, V_1, V_l⟩ := V15.out.c2
      obtain ⟨Z_0, Z_1, Z_l⟩ := Z15.out.c2
      go_wp2_with fail
      refine (works5_any _ HTB15.out).mono ?_
      rintro e w99 ⟨rfl, hb99⟩
      go_wp2_with fail
      go_ret
      exact ⟨rfl, bTrans HD15.out hb99⟩
    go_wp2_with fail
    obtain ⟨s1, hs1⟩ : ∃ v, (t.totalV ne (fun i => g i + gy i) (q : Int)).1 = v := ⟨_, rfl⟩
    obtain ⟨s2, hs2⟩ : ∃ v, (t.totalV ne (fun i => g i + gy i) (q : Int)).2 = v := ⟨_, rfl⟩
    have HTs := Lib.hid (And.intro hs1 (And.intro hs2 ((sum_err HOK.out HQQ.out HDB.out).trans HER.out)))
    clear hs1 hs2
    refine (totalQ_any Aw Af A7 cw cf c7 ne t (fun i => g i + gy i) (q : Int) _ (by have := HM.out; omega) HRA12.out HS.out HT12.out HTB12.out).mono ?_
    rintro e w13 ⟨rfl, hb⟩
    rw [HTs.out.1, HTs.out.2.1, HTs.out.2.2]
    have hB13 : Below w12.heap.size w12 w13 := bTrans (Below.refl _ _) hb
    have HD13 := Lib.hid (bTrans HD12.out hB13)
    have HT13 := Lib.hid (HT12.out.mono hB13)
    have HTB13 := Lib.hid (HTB12.out.mono hB13)
    have HI13 := Lib.hid (HI12.out.mono hB13)
    have HJ13 := Lib.hid (HJ12.out.mono hB13)
    have HRA13 := Lib.hid (HRA12.out.mono hB13)
    have HRC13 := Lib.hid (HRC12.out.mono hB13)
    have T13 := Lib.hid (T12.out.mono hB13)
    have X13 := Lib.hid (X12.out.mono hB13)
    have Y13 := Lib.hid (Y12.out.mono hB13)
    have U13 := Lib.hid (U12.out.mono hB13)
    have V13 := Lib.hid (V12.out.mono hB13)
    have Z13 := Lib.hid (Z12.out.mono hB13)
    clear hb hB13 HD12 HT12 HTB12 HI12 HJ12 HRA12 HRC12 T12 T_0 T_1 T_2 T_l X12 X_0 X_1 X_2 X_3 X_l Y12 Y_0 Y_1 Y_2 Y_3 Y_l U12 U_0 U_1 U_l V12 V_0 V_1 V_l Z12 Z_0 Z_1 Z_l
    obtain ⟨T_0, T_1, T_2, T_l⟩ := T13.out.c3
    obtain ⟨X_0, X_1, X_2, X_3, X_l⟩ := X13.out.c4
    obtain ⟨Y_0, Y_1, Y_2, Y_3, Y_l⟩ := Y13.out.c4
    obtain ⟨U_0, U_1, U_l⟩ := U13.out.c2
    obtain ⟨V_0, V_1, V_l⟩ := V13.out.c2
    obtain ⟨Z_0, Z_1, Z_l⟩ := Z13.out.c2
    have HIN := Lib.hid (show inSpan (s1, s2) (a1 + b1, a2 + b2) = true from by have := total_sum HTa.out.2.2 HTb.out.2.2 HTs.out.2.2; rwa [show t.totalV ne (fun i => g i + gy i) (q : Int) = (s1, s2) from Prod.ext HTs.out.1 HTs.out.2.1, HTa.out.1, HTa.out.2.1, HTb.out.1, HTb.out.2.1] at this)
    obtain ⟨t1, ht1⟩ : ∃ v, a1 + b1 = v := ⟨_, rfl⟩
    obtain ⟨t2, ht2⟩ : ∃ v, a2 + b2 = v := ⟨_, rfl⟩
    rw [ht1, ht2] at HIN
    have HSB := Lib.hid (sum_small HIN.out ht1 ht2 HBa.out HBb.out)
    have hx1 : IntKind.i64.wrap (a1 + b1) = t1 := by rw [ht1]; exact IntWalk.i64_in _ (by have := HSB.out; omega)
    have hx2 : IntKind.i64.wrap (a2 + b2) = t2 := by rw [ht2]; exact IntWalk.i64_in _ (by have := HSB.out; omega)
    clear ht1 ht2
    go_wp2_with fail
    refine (inside_any s1 s2 t1 t2 _).mono ?_
    rintro e w14 ⟨rfl, hb⟩
    rw [HIN.out]
    have hB14 : Below w13.heap.size w13 w14 := bTrans (bAlloc (Below.refl _ _) (.cells #[.int .i64 s1, .int .i64 s2] 36)) hb
    have HD14 := Lib.hid (bTrans HD13.out hB14)
    have HT14 := Lib.hid (HT13.out.mono hB14)
    have HTB14 := Lib.hid (HTB13.out.mono hB14)
    have HI14 := Lib.hid (HI13.out.mono hB14)
    have HJ14 := Lib.hid (HJ13.out.mono hB14)
    have HRA14 := Lib.hid (HRA13.out.mono hB14)
    have HRC14 := Lib.hid (HRC13.out.mono hB14)
    have T14 := Lib.hid (T13.out.mono hB14)
    have X14 := Lib.hid (X13.out.mono hB14)
    have Y14 := Lib.hid (Y13.out.mono hB14)
    have U14 := Lib.hid (U13.out.mono hB14)
    have V14 := Lib.hid (V13.out.mono hB14)
    have Z14 := Lib.hid (Z13.out.mono hB14)
    have S314 := Lib.hid (show TBox w14 w13.heap.size 36 #[.int .i64 s1, .int .i64 s2] from by have := ((TBox.new w13 #[.int .i64 s1, .int .i64 s2] 36).mono (Below.refl _ _)).mono hb; simpa using this)
    clear hb hB14 HD13 HT13 HTB13 HI13 HJ13 HRA13 HRC13 T13 T_0 T_1 T_2 T_l X13 X_0 X_1 X_2 X_3 X_l Y13 Y_0 Y_1 Y_2 Y_3 Y_l U13 U_0 U_1 U_l V13 V_0 V_1 V_l Z13 Z_0 Z_1 Z_l
    obtain ⟨T_0, T_1, T_2, T_l⟩ := T14.out.c3
    obtain ⟨X_0, X_1, X_2, X_3, X_l⟩ := X14.out.c4
    obtain ⟨Y_0, Y_1, Y_2, Y_3, Y_l⟩ := Y14.out.c4
    obtain ⟨U_0, U_1, U_l⟩ := U14.out.c2
    obtain ⟨V_0, V_1, V_l⟩ := V14.out.c2
    obtain ⟨Z_0, Z_1, Z_l⟩ := Z14.out.c2
    obtain ⟨S3_0, S3_1, S3_l⟩ := S314.out.c2
    go_wp2_with fail
    refine (areDraws5_any _ _ _ _ _ _ ne t (fun i => 2 * g i) _ (by have := HM.out; omega) HRC14.out).mono ?_
    rintro e w15 ⟨rfl, hb⟩
    have hB15 : Below w14.heap.size w14 w15 := bTrans (Below.refl _ _) hb
    have HD15 := Lib.hid (bTrans HD14.out hB15)
    have HT15 := Lib.hid (HT14.out.mono hB15)
    have HTB15 := Lib.hid (HTB14.out.mono hB15)
    have HI15 := Lib.hid (HI14.out.mono hB15)
    have HJ15 := Lib.hid (HJ14.out.mono hB15)
    have HRA15 := Lib.hid (HRA14.out.mono hB15)
    have HRC15 := Lib.hid (HRC14.out.mono hB15)
    have T15 := Lib.hid (T14.out.mono hB15)
    have X15 := Lib.hid (X14.out.mono hB15)
    have Y15 := Lib.hid (Y14.out.mono hB15)
    have U15 := Lib.hid (U14.out.mono hB15)
    have V15 := Lib.hid (V14.out.mono hB15)
    have Z15 := Lib.hid (Z14.out.mono hB15)
    have S315 := Lib.hid (S314.out.mono hB15)
    clear hb hB15 HD14 HT14 HTB14 HI14 HJ14 HRA14 HRC14 T14 T_0 T_1 T_2 T_l X14 X_0 X_1 X_2 X_3 X_l Y14 Y_0 Y_1 Y_2 Y_3 Y_l U14 U_0 U_1 U_l V14 V_0 V_1 V_l Z14 Z_0 Z_1 Z_l S314 S3_0 S3_1 S3_l
    obtain ⟨T_0, T_1, T_2, T_l⟩ := T15.out.c3
    obtain ⟨X_0, X_1, X_2, X_3, X_l⟩ := X15.out.c4
    obtain ⟨Y_0, Y_1, Y_2, Y_3, Y_l⟩ := Y15.out.c4
    obtain ⟨U_0, U_1, U_l⟩ := U15.out.c2
    obtain ⟨V_0, V_1, V_l⟩ := V15.out.c2
    obtain ⟨Z_0, Z_1, Z_l⟩ := Z15.out.c2
    obtain ⟨S3_0, S3_1, S3_l⟩ := S315.out.c2
    obtain ⟨bq, hbq⟩ : ∃ b, t.drawsB ne (fun i => 2 * g i) = b := ⟨_, rfl⟩
    rw [hbq]
    have HDT := Lib.hid hbq
    clear hbq
    cases bq
    case false =>
      go_wp2_with fail
      refine (works5_any _ HTB15.out).mono ?_
      rintro e w99 ⟨rfl, hb99⟩
      go_wp2_with fail
      go_ret
      exact ⟨rfl, bTrans HD15.out hb99⟩
    go_wp2_with fail
    obtain ⟨m1, hm1⟩ : ∃ v, (t.blameOut ne g (q : Int)).1 = v := ⟨_, rfl⟩
    obtain ⟨m2, hm2⟩ : ∃ v, (t.blameOut ne g (q : Int)).2 = v := ⟨_, rfl⟩
    have HMM := Lib.hid (And.intro hm1 hm2)
    have HMB := Lib.hid (blame_twice (q := q) HDR.out HDT.out)
    clear hm1 hm2
    refine wp_region_stir 12 [.const (.agg #[.int .i64 t.wells, .slice Aw t.nw cw, .slice Af t.nf cf]), .held emptyV (ownsV w15.heap.size 3 1 0 []), .const (.pointer (some ⟨w.heap.size + 1, 3, none⟩)), .const (.slice Ad ne cd), .held (ShapeOf ne) (ownsV w15.heap.size 3 1 ne (intL g ne)), .const (.pointer (some ⟨w.heap.size + 1, 1, none⟩)), .const (.int .i64 (q : Int)), .const (.tuple #[.int .i64 m1, .int .i64 m2]), .const (.tuple #[.int .i64 m1, .int .i64 m2]), .const (.int .i64 m1), .const (.int .i64 m2), .const (.int .i64 m1)]
      (by kernel_rfl) (by kernel_rfl) rfl ⟨trivial, ⟨⟨_, 0, rfl⟩, fun _ _ _ hb h => owns_below h hb⟩, trivial, trivial, ownsG, trivial, trivial, trivial, trivial, trivial, trivial, trivial, trivial⟩ (crossAll_no _ _ _ _ trivial) ?_
    iterate 1 refine wpStir_const (by go_simp) ?_
    refine wpStir_held rfl (fun w' hb hd => ?_) (fun v hv => ?_)
    · clear hd
      have hz := hb.size
      go_simp
      exact ⟨bAlloc (Below.refl _ _) _, ⟨_, rfl⟩, owns_lower (owns_empty w' #[] 3 1 rfl) hz⟩
    obtain ⟨be, rfl⟩ := hv
    iterate 2 refine wpStir_const (by go_simp) ?_
    simp only [Act.put, List.setIfInBounds_toArray, List.set_cons_succ, List.set_cons_zero]
    refine wpStir_held rfl (fun w' hb hd => ?_) (fun v hv => ?_)
    · have h1 : ownsV w15.heap.size 3 1 0 [] w' (.slice (some ⟨be, 0, none⟩) 0 0) := hd.1 (by kernel_rfl)
      clear hd
      exact stir_copy3 w' (Operand.tmp 231) (Operand.tmp 233) 26 rfl 3 (.int .i64 0) 1 8 infoInt Tryd.underlying26 rfl (by decide) be Ad ne cd (intL g ne) rfl rfl (by rw [intL_len, Nat.mul_one]) (intsAt_row.1 (HI15.out.mono hb)) (by unfold maxLen; have := HM.out; omega) (by have := HM.out; omega) _ hb.size h1
    obtain ⟨bd, cdd, rfl⟩ := hv
    iterate 2 refine wpStir_const (by go_simp) ?_
    simp only [Act.put, List.setIfInBounds_toArray, List.set_cons_succ, List.set_cons_zero]
    refine wpStir_call rfl (fun w' hb hd => ?_) ?_
    · have h1 : ownsV w15.heap.size 3 1 ne (intL g ne) w' (.slice (some ⟨bd, 0, none⟩) ne cdd) := hd.1 (by kernel_rfl)
      clear hd
      obtain ⟨A9, c9, e9, h9, _⟩ := intsAt_own h1
      simp only [Value.slice.injEq] at e9
      obtain ⟨rfl, _, rfl⟩ := e9
      go_simp
      refine (blameQ_any Aw Af (some ⟨bd, 0, none⟩) cw cf cdd ne t g (q : Int) w' HS.out (HT15.out.mono hb) (HTB15.out.mono hb) (by have := HM.out; omega) h9).mono ?_
      rintro e w'' ⟨rfl, hb'⟩
      exact ⟨by rw [HMM.out.1, HMM.out.2], hb'⟩
    iterate 4 refine wpStir_const (by go_simp) ?_
    refine wpStir_end (fun w16 hb hd => ?_)
    clear hd
    simp only [Act.put, List.setIfInBounds_toArray, List.set_cons_succ, List.set_cons_zero, List.drop_succ_cons, List.drop_zero]
    have hB16 : Below w15.heap.size w15 w16 := bTrans (Below.refl _ _) hb
    have HD16 := Lib.hid (bTrans HD15.out hB16)
    have HT16 := Lib.hid (HT15.out.mono hB16)
    have HTB16 := Lib.hid (HTB15.out.mono hB16)
    have HI16 := Lib.hid (HI15.out.mono hB16)
    have HJ16 := Lib.hid (HJ15.out.mono hB16)
    have HRA16 := Lib.hid (HRA15.out.mono hB16)
    have HRC16 := Lib.hid (HRC15.out.mono hB16)
    have T16 := Lib.hid (T15.out.mono hB16)
    have X16 := Lib.hid (X15.out.mono hB16)
    have Y16 := Lib.hid (Y15.out.mono hB16)
    have U16 := Lib.hid (U15.out.mono hB16)
    have V16 := Lib.hid (V15.out.mono hB16)
    have Z16 := Lib.hid (Z15.out.mono hB16)
    have S316 := Lib.hid (S315.out.mono hB16)
    clear hb hB16 HD15 HT15 HTB15 HI15 HJ15 HRA15 HRC15 T15 T_0 T_1 T_2 T_l X15 X_0 X_1 X_2 X_3 X_l Y15 Y_0 Y_1 Y_2 Y_3 Y_l U15 U_0 U_1 U_l V15 V_0 V_1 V_l Z15 Z_0 Z_1 Z_l S315 S3_0 S3_1 S3_l
    obtain ⟨T_0, T_1, T_2, T_l⟩ := T16.out.c3
    obtain ⟨X_0, X_1, X_2, X_3, X_l⟩ := X16.out.c4
    obtain ⟨Y_0, Y_1, Y_2, Y_3, Y_l⟩ := Y16.out.c4
    obtain ⟨U_0, U_1, U_l⟩ := U16.out.c2
    obtain ⟨V_0, V_1, V_l⟩ := V16.out.c2
    obtain ⟨Z_0, Z_1, Z_l⟩ := Z16.out.c2
    obtain ⟨S3_0, S3_1, S3_l⟩ := S316.out.c2
    go_wp2_with fail
    refine (blameQ_any Aw Af A9 cw cf c9 ne t (fun i => 2 * g i) (q : Int) _ HS.out HT16.out HTB16.out (by have := HM.out; omega) HRC16.out).mono ?_
    rintro e w17 ⟨rfl, hb⟩
    rw [HMB.out, HMM.out.1, HMM.out.2]
    have hB17 : Below w16.heap.size w16 w17 := bTrans (Below.refl _ _) hb
    have HD17 := Lib.hid (bTrans HD16.out hB17)
    have HT17 := Lib.hid (HT16.out.mono hB17)
    have HTB17 := Lib.hid (HTB16.out.mono hB17)
    have HI17 := Lib.hid (HI16.out.mono hB17)
    have HJ17 := Lib.hid (HJ16.out.mono hB17)
    have HRA17 := Lib.hid (HRA16.out.mono hB17)
    have HRC17 := Lib.hid (HRC16.out.mono hB17)
    have T17 := Lib.hid (T16.out.mono hB17)
    have X17 := Lib.hid (X16.out.mono hB17)
    have Y17 := Lib.hid (Y16.out.mono hB17)
    have U17 := Lib.hid (U16.out.mono hB17)
    have V17 := Lib.hid (V16.out.mono hB17)
    have Z17 := Lib.hid (Z16.out.mono hB17)
    have S317 := Lib.hid (S316.out.mono hB17)
    clear hb hB17 HD16 HT16 HTB16 HI16 HJ16 HRA16 HRC16 T16 T_0 T_1 T_2 T_l X16 X_0 X_1 X_2 X_3 X_l Y16 Y_0 Y_1 Y_2 Y_3 Y_l U16 U_0 U_1 U_l V16 V_0 V_1 V_l Z16 Z_0 Z_1 Z_l S316 S3_0 S3_1 S3_l
    obtain ⟨T_0, T_1, T_2, T_l⟩ := T17.out.c3
    obtain ⟨X_0, X_1, X_2, X_3, X_l⟩ := X17.out.c4
    obtain ⟨Y_0, Y_1, Y_2, Y_3, Y_l⟩ := Y17.out.c4
    obtain ⟨U_0, U_1, U_l⟩ := U17.out.c2
    obtain ⟨V_0, V_1, V_l⟩ := V17.out.c2
    obtain ⟨Z_0, Z_1, Z_l⟩ := Z17.out.c2
    obtain ⟨S3_0, S3_1, S3_l⟩ := S317.out.c2
    go_wp2_with fail
    refine (works5_any _ HTB17.out).mono ?_
    rintro e w99 ⟨rfl, hb99⟩
    go_wp2_with fail
    go_ret
    exact ⟨rfl, bTrans HD17.out hb99⟩
end Go.Proofs.YtcdlbpmffkoejaaDoor
