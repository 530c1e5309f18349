/- Parts joined: what all claims of this seat need. -/
import Derived.Test.YthnojgdckkdcgaaGreatDoorNSV
import Derived.Test.YthnojgdckkdcgaaGreatDoorNST
import Derived.Test.YthnojgdckkdcgaaGreatDoorNSJ
set_option linter.unusedSimpArgs false
set_option linter.unusedVariables false
namespace Go.Proofs.YthnojgdckkdcgaaGreatDoor
open Go.RowKit Go.Sort
set_option maxHeartbeats 40000000 in
set_option maxRecDepth 100000 in
theorem placesStreet_any (Aw Af Ao Ap As : Option Addr) (cw cf co cp cs : Nat) (t : Pt) (sp : Int) (w : World) (hs : t.Fits) (hT : PAt w Aw Af Ao Ap As t) (hB : TabAt w) (hN : NoneAt w) :
    Calls Tryz.prog 4 #[.agg #[.int .i64 t.q.wells, .slice Aw t.q.nw cw, .slice Af t.q.nf cf, .slice Ao t.no co, .slice Ap t.np cp, .slice As t.ns cs, .int .i64 t.far, .int .i64 t.harm, .int .i64 t.many], .int .i64 sp] w fun e w' => e = .returned (.bool true) ∧ Below w.heap.size w w' := by
  have HD0 := Lib.hid (Below.refl w.heap.size w)
  have HFI := Lib.hid hs
  have HT0 := Lib.hid hT
  have HTB0 := Lib.hid hB
  have HNA0 := Lib.hid hN
  clear hs hT hB hN
  go_enter Tryz.func4, Tryz.ntmps4
  have HSM := Lib.hid HFI.out.small
  go_wp2_with fail
  refine (ready9_any Aw Af Ao Ap As cw cf co cp cs t _ HSM.out (HT0.out.mono (bAlloc (Below.refl _ _) (.cells #[.int .i64 t.q.wells, .slice Aw t.q.nw cw, .slice Af t.q.nf cf, .slice Ao t.no co, .slice Ap t.np cp, .slice As t.ns cs, .int .i64 t.far, .int .i64 t.harm, .int .i64 t.many] 62)))).mono ?_
  rintro e w1 ⟨⟨bf, rfl, hok⟩, hb⟩
  have hB1 : Below w.heap.size w w1 := bTrans (bAlloc (Below.refl _ _) (.cells #[.int .i64 t.q.wells, .slice Aw t.q.nw cw, .slice Af t.q.nf cf, .slice Ao t.no co, .slice Ap t.np cp, .slice As t.ns cs, .int .i64 t.far, .int .i64 t.harm, .int .i64 t.many] 62)) hb
  have HD1 := Lib.hid (bTrans HD0.out hB1)
  have HT1 := Lib.hid (HT0.out.mono hB1)
  have HTB1 := Lib.hid (HTB0.out.mono hB1)
  have HNA1 := Lib.hid (HNA0.out.mono hB1)
  have T1 := Lib.hid (show TBox w1 w.heap.size 62 #[.int .i64 t.q.wells, .slice Aw t.q.nw cw, .slice Af t.q.nf cf, .slice Ao t.no co, .slice Ap t.np cp, .slice As t.ns cs, .int .i64 t.far, .int .i64 t.harm, .int .i64 t.many] from by have := ((TBox.new w #[.int .i64 t.q.wells, .slice Aw t.q.nw cw, .slice Af t.q.nf cf, .slice Ao t.no co, .slice Ap t.np cp, .slice As t.ns cs, .int .i64 t.far, .int .i64 t.harm, .int .i64 t.many] 62).mono (Below.refl _ _)).mono hb; simpa using this)
  clear hb hB1 HD0 HT0 HTB0 HNA0
  obtain ⟨T_0, T_1, T_2, T_3, T_4, T_5, T_6, T_7, T_8, T_l⟩ := T1.out.c9
  cases bf
  case false =>
    go_wp2_with fail
    refine (works9_any _ HTB1.out HNA1.out).mono ?_
    rintro e w2 ⟨rfl, hb⟩
    have hB2 : Below w1.heap.size w1 w2 := bTrans (Below.refl _ _) hb
    have HD2 := Lib.hid (bTrans HD1.out hB2)
    have HT2 := Lib.hid (HT1.out.mono hB2)
    have HTB2 := Lib.hid (HTB1.out.mono hB2)
    have HNA2 := Lib.hid (HNA1.out.mono hB2)
    have T2 := Lib.hid (T1.out.mono hB2)
    clear hb hB2 HD1 HT1 HTB1 HNA1 T1 T_0 T_1 T_2 T_3 T_4 T_5 T_6 T_7 T_8 T_l
    obtain ⟨T_0, T_1, T_2, T_3, T_4, T_5, T_6, T_7, T_8, T_l⟩ := T2.out.c9
    go_wp2_with fail
    go_ret
    exact ⟨rfl, HD2.out⟩
  have HOK := Lib.hid (hok rfl)
  clear hok
  go_wp2_with fail
  obtain ⟨bb, hbb⟩ : ∃ b, t.hasB sp = b := ⟨_, rfl⟩
  refine (hbb ▸ isSpotN9_any Aw Af Ao Ap As cw cf co cp cs t sp _ HSM.out.ns).mono ?_
  rintro e w2 ⟨rfl, hb⟩
  have hB2 : Below w1.heap.size w1 w2 := bTrans (Below.refl _ _) hb
  have HD2 := Lib.hid (bTrans HD1.out hB2)
  have HT2 := Lib.hid (HT1.out.mono hB2)
  have HTB2 := Lib.hid (HTB1.out.mono hB2)
  have HNA2 := Lib.hid (HNA1.out.mono hB2)
  have T2 := Lib.hid (T1.out.mono hB2)
  clear hb hB2 HD1 HT1 HTB1 HNA1 T1 T_0 T_1 T_2 T_3 T_4 T_5 T_6 T_7 T_8 T_l
  obtain ⟨T_0, T_1, T_2, T_3, T_4, T_5, T_6, T_7, T_8, T_l⟩ := T2.out.c9
  cases bb
  case false =>
    clear hbb
    go_wp2_with fail
    refine (works9_any _ HTB2.out HNA2.out).mono ?_
    rintro e w3 ⟨rfl, hb⟩
    have hB3 : Below w2.heap.size w2 w3 := bTrans (Below.refl _ _) hb
    have HD3 := Lib.hid (bTrans HD2.out hB3)
    have HT3 := Lib.hid (HT2.out.mono hB3)
    have HTB3 := Lib.hid (HTB2.out.mono hB3)
    have HNA3 := Lib.hid (HNA2.out.mono hB3)
    have T3 := Lib.hid (T2.out.mono hB3)
    clear hb hB3 HD2 HT2 HTB2 HNA2 T2 T_0 T_1 T_2 T_3 T_4 T_5 T_6 T_7 T_8 T_l
    obtain ⟨T_0, T_1, T_2, T_3, T_4, T_5, T_6, T_7, T_8, T_l⟩ := T3.out.c9
    go_wp2_with fail
    go_ret
    exact ⟨rfl, HD3.out⟩
  have hn := hasB_iff.1 hbb
  obtain ⟨i, rfl⟩ : ∃ i : Nat, sp = (i : Int) := ⟨sp.toNat, by omega⟩
  have HI := Lib.hid (show i < t.ns by omega)
  clear hn hbb
  go_wp2_with fail
  refine (copy9s_any Aw Af Ao Ap As cw cf co cp cs t _ HFI.out HT2.out).mono ?_
  rintro e w3 ⟨ho, hb⟩
  have hcb := hb
  obtain ⟨Bw, dw, Bf, df, go, c3, gp, c4, Bs, ds, us, rfl, ho1, ho2, ho3, ho4, ho5⟩ := ho
  have hB3 : Below w2.heap.size w2 w3 := bTrans (Below.refl _ _) hb
  have HD3 := Lib.hid (bTrans HD2.out hB3)
  have HT3 := Lib.hid (HT2.out.mono hB3)
  have HTB3 := Lib.hid (HTB2.out.mono hB3)
  have HNA3 := Lib.hid (HNA2.out.mono hB3)
  have HST3 := Lib.hid ((show StrAt w3 w2.heap.size Bw dw Bf df go c3 gp Bs ds t (mirO t.old 0) us from ⟨by rw [mirO_zero]; exact ho1, ho2, ho3, ho4, ho5⟩))
  have HRB3 := Lib.hid ((show Upto w2 w3 from hcb))
  have T3 := Lib.hid (T2.out.mono hB3)
  clear hb hB3 T_0 T_1 T_2 T_3 T_4 T_5 T_6 T_7 T_8 T_l
  obtain ⟨T_0, T_1, T_2, T_3, T_4, T_5, T_6, T_7, T_8, T_l⟩ := T3.out.c9
  clear ho1 ho2 ho3 ho4 ho5 hcb
  go_wp2_with fail
  clear T_0 T_1 T_2 T_3 T_4 T_5 T_6 T_7 T_8 T_l
  go_loopw [6] (fun s wr => ∃ k : Nat, k ≤ t.no ∧ s = .int .i64 (k : Int) ∧ StrAt wr w2.heap.size Bw dw Bf df go c3 gp Bs ds t (mirO t.old k) us ∧ TBox wr w3.heap.size 62 #[.int .i64 t.q.wells, .slice Bw t.q.nw dw, .slice Bf t.q.nf df, .slice (some ⟨go, 0, none⟩) t.no c3, .slice (some ⟨gp, 0, none⟩) t.np c4, .slice Bs t.ns ds, .int .i64 t.far, .int .i64 t.harm, .int .i64 t.many] ∧ Below w2.heap.size w2 wr) (fun s _ => t.no - (intOf s).toNat)
  case atStart => exact ⟨0, Nat.zero_le _, rfl, (HST3.out.mono (bAlloc (Below.refl _ _) (.cells #[.int .i64 t.q.wells, .slice Bw t.q.nw dw, .slice Bf t.q.nf df, .slice (some ⟨go, 0, none⟩) t.no c3, .slice (some ⟨gp, 0, none⟩) t.np c4, .slice Bs t.ns ds, .int .i64 t.far, .int .i64 t.harm, .int .i64 t.many] 62))), TBox.new _ _ _, bTrans HRB3.out (bAlloc (Below.refl _ _) _)⟩
  case round =>
    obtain ⟨k, hk, rfl, hst, hu, hb⟩ := hrel
    have hrb := hb
    have hB4 : Below w2.heap.size w2 wr := bTrans (Below.refl _ _) hb
    have HD4 := Lib.hid (bTrans HD2.out hB4)
    have HT4 := Lib.hid (HT2.out.mono hB4)
    have HTB4 := Lib.hid (HTB2.out.mono hB4)
    have HNA4 := Lib.hid (HNA2.out.mono hB4)
    have HST4 := Lib.hid (hst)
    have HRB4 := Lib.hid ((show Upto w2 wr from hrb))
    have T4 := Lib.hid (T2.out.mono hB4)
    clear hb hB4
    obtain ⟨T_0, T_1, T_2, T_3, T_4, T_5, T_6, T_7, T_8, T_l⟩ := T4.out.c9
    clear hst hrb
    have U4 := Lib.hid hu
    clear hu
    obtain ⟨U_0, U_1, U_2, U_3, U_4, U_5, U_6, U_7, U_8, U_l⟩ := U4.out.c9
    by_cases hlt : k < t.no
    case pos =>
      rcases HT4.out.old with h0 | ⟨bo, oo, hA, hbo, hco⟩
      · exact absurd hlt (by omega)
      subst hA
      have hcell := hco k hlt
      obtain ⟨ov, hov⟩ : ∃ y, t.old k = y := ⟨_, rfl⟩
      have HOV := Lib.hid hov
      have hob := HOK.out.old k hlt
      rw [hov] at hcell hob
      have hwr : IntKind.i64.wrap (99 - ov) = 99 - ov := IntWalk.i64_in _ (by omega)
      have k1 : (k : Int) < (t.no : Int) := by omega
      have k0 : (0 : Int) ≤ (k : Int) := by omega
      have k100 : k < 100 := by have := HOK.out.no; have := HOK.out.q.w1; omega
      clear hco hob hov
      go_wp2_with fail
      refine wp_region_stir 10 [.const (.pointer (some ⟨w3.heap.size, 3, none⟩)), .const (.slice (some ⟨go, 0, none⟩) t.no c3), .const (.int .i64 (k : Int)), .const (.pointer (some ⟨w.heap.size, 3, none⟩)), .const (.slice (some ⟨bo, oo, none⟩) t.no co), .const (.int .i64 (k : Int)), .const (.pointer (some ⟨bo, oo + k, none⟩)), .const (.int .i64 ov), .const (.int .i64 (99 - ov)), .const (.pointer (some ⟨go, k, none⟩))]
        (by kernel_rfl) (by kernel_rfl) rfl ⟨trivial, trivial, trivial, trivial, trivial, trivial, trivial, trivial, trivial, trivial, trivial⟩ (crossAll_no _ _ _ _ trivial) ?_
      iterate 10 refine wpStir_const (by go_simp) ?_
      refine wpStir_end (fun w5 hb5 hd => ?_)
      clear hd
      simp only [Act.put, List.setIfInBounds_toArray, List.set_cons_succ, List.set_cons_zero, List.drop_succ_cons, List.drop_zero]
      have hst5 := HST4.out.mono hb5
      obtain ⟨hgo, cur, htb, hc5⟩ := hst5.cell hlt
      have hf5 := htb.frozen k
      have hl5 := htb.lt
      obtain ⟨w6, hw6⟩ : ∃ y, w5.setCell ⟨go, k, none⟩ (.int .i64 (99 - ov)) = y := ⟨_, rfl⟩
      have hst6 : StrAt w6 w2.heap.size Bw dw Bf df go c3 gp Bs ds t (mirO t.old (k + 1)) us := by rw [← hw6, ← HOV.out]; exact hst5.step hlt
      have hu6 : TBox w6 w3.heap.size 62 #[.int .i64 t.q.wells, .slice Bw t.q.nw dw, .slice Bf t.q.nf df, .slice (some ⟨go, 0, none⟩) t.no c3, .slice (some ⟨gp, 0, none⟩) t.np c4, .slice Bs t.ns ds, .int .i64 t.far, .int .i64 t.harm, .int .i64 t.many] := by rw [← hw6]; exact (U4.out.mono hb5).other (TBox.apart htb (U4.out.mono hb5) (by decide)) _ _
      have hb6 : Below w2.heap.size w2 w6 := by rw [← hw6]; exact Below.setCell (p := ⟨go, k, none⟩) (bTrans HRB4.out hb5) hgo _
      have HW6 := Lib.hid hw6
      have HST6 := Lib.hid hst6
      have HU6 := Lib.hid hu6
      have HB6 := Lib.hid hb6
      clear hst5 htb hst6 hu6 hb6 hw6
      refine wpList_skip rfl rfl (w'' := w6) (by rw [← HW6.out]; go_simp) ?_
      go_wp2_with fail
      go_roundw
      case rel =>
        first
        | exact ⟨k + 1, by omega, by go_num, HST6.out, HU6.out, HB6.out⟩
        | ((repeat apply Exists.intro)
           refine ⟨⟨k + 1, by omega, ?_, HST6.out, HU6.out, HB6.out⟩, rfl⟩
           go_num)
      case measure => simp [intOf]; omega
    obtain rfl : k = t.no := by omega
    have HMI4 := Lib.hid HST4.out.done
    clear HST4
    go_wp2_with fail
    obtain ⟨wl, hwl⟩ : ∃ y, y = wr := ⟨_, rfl⟩
    subst hwl
    clear T_0 T_1 T_2 T_3 T_4 T_5 T_6 T_7 T_8 T_l U_0 U_1 U_2 U_3 U_4 U_5 U_6 U_7 U_8 U_l
    go_loopw [7] (fun s wr => ∃ k : Nat, k ≤ t.ns ∧ s = .int .i64 (k : Int) ∧ MirAt wr w2.heap.size Bw dw Bf df go c3 gp Bs ds (t.mirT k) ∧ TBox wr w3.heap.size 62 #[.int .i64 t.q.wells, .slice Bw t.q.nw dw, .slice Bf t.q.nf df, .slice (some ⟨go, 0, none⟩) t.no c3, .slice (some ⟨gp, 0, none⟩) t.np c4, .slice Bs t.ns ds, .int .i64 t.far, .int .i64 t.harm, .int .i64 t.many] ∧ Below w2.heap.size w2 wr) (fun s _ => t.ns - (intOf s).toNat)
    case atStart => exact ⟨0, Nat.zero_le _, rfl, HMI4.out, U4.out, HRB4.out⟩
    case round =>
      obtain ⟨k, hk, rfl, hmi, hu, hb⟩ := hrel
      have hrb := hb
      have hB5 : Below w2.heap.size w2 wr := bTrans (Below.refl _ _) hb
      have HD5 := Lib.hid (bTrans HD2.out hB5)
      have HT5 := Lib.hid (HT2.out.mono hB5)
      have HTB5 := Lib.hid (HTB2.out.mono hB5)
      have HNA5 := Lib.hid (HNA2.out.mono hB5)
      have HMI5 := Lib.hid (hmi)
      have HRB5 := Lib.hid ((show Upto w2 wr from hrb))
      have T5 := Lib.hid (T2.out.mono hB5)
      clear hb hB5
      obtain ⟨T_0, T_1, T_2, T_3, T_4, T_5, T_6, T_7, T_8, T_l⟩ := T5.out.c9
      clear hmi hrb
      have U5 := Lib.hid hu
      clear hu
      obtain ⟨U_0, U_1, U_2, U_3, U_4, U_5, U_6, U_7, U_8, U_l⟩ := U5.out.c9
      by_cases hlt : k < t.ns
      case pos =>
        obtain ⟨x, hxx⟩ : ∃ x, t.spot k = x := ⟨_, rfl⟩
        have HXX := Lib.hid hxx
        obtain ⟨_, _, _, us2, hown, hrows⟩ := HMI5.out
        obtain ⟨g, Br, Bf2, Bx, dr, df2, dx, hG, hg1, ⟨cur, hg2⟩, hsk, u0, u1, u2, u3, u4, u5, u6⟩ := own_spot hown hrows hlt
        rw [mirT_spot, hxx] at hsk u0 u1 u2 u3 u4 u5 u6
        subst hG
        have HSK := Lib.hid hsk
        have HG1 := Lib.hid hg1
        have HGT := Lib.hid hg2
        have hgl : g < wr.heap.size := hg2.lt
        have hx0 := (HOK.out.spot k hlt).a0
        have hx1 := (HOK.out.spot k hlt).a1
        rw [hxx] at hx0 hx1
        have hwr : IntKind.i64.wrap (99 - x.at_) = 99 - x.at_ := IntWalk.i64_in _ (by omega)
        have k1 : (k : Int) < (t.ns : Int) := by omega
        have k0 : (0 : Int) ≤ (k : Int) := by omega
        have k100 : k < 100 := by have := HOK.out.ns; omega
        have z0 := hg2.frozen (k * 7)
        have z1 := hg2.frozen (k * 7 + 1)
        have z2 := hg2.frozen (k * 7 + 2)
        have z3 := hg2.frozen (k * 7 + 3)
        have z4 := hg2.frozen (k * 7 + 4)
        have z5 := hg2.frozen (k * 7 + 5)
        have z6 := hg2.frozen (k * 7 + 6)
        clear hown hrows hsk hg1 hg2 hxx hx0 hx1
        go_wp2_with (with_reducible refine halt_store (p := Operand.tmp 72) ?_)
        refine Halt9.mk ?_
        obtain ⟨w20, hw20⟩ : ∃ y, set7 (wr.alloc (.cells #[.int .i64 (99 - x.at_), .slice Br x.sh.nr dr, .slice Bf2 x.sh.nf df2, .int .i64 x.sh.deep, .int .i64 x.sh.haul, .int .i64 x.sh.rest, .slice Bx x.fl.n dx] 71)) g (k * 7) (.int .i64 (99 - x.at_)) (.slice Br x.sh.nr dr) (.slice Bf2 x.sh.nf df2) (.int .i64 x.sh.deep) (.int .i64 x.sh.haul) (.int .i64 x.sh.rest) (.slice Bx x.fl.n dx) = y := ⟨_, rfl⟩
        have hbs : Below wr.heap.size wr (wr.alloc (.cells #[.int .i64 (99 - x.at_), .slice Br x.sh.nr dr, .slice Bf2 x.sh.nf df2, .int .i64 x.sh.deep, .int .i64 x.sh.haul, .int .i64 x.sh.rest, .slice Bx x.fl.n dx] 71)) := bAlloc (Below.refl _ _) _
        have hgt := HGT.out.mono hbs
        have hm20 : MirAt w20 w2.heap.size Bw dw Bf df go c3 gp (some ⟨g, 0, none⟩) ds (t.mirT (k + 1)) := by
          rw [← hw20]
          have h := (HMI5.out.mono hbs).step hlt (by rw [HXX.out]; exact HSK.out.mono hbs)
          rw [HXX.out] at h
          exact h
        have hu20 : TBox w20 w3.heap.size 62 #[.int .i64 t.q.wells, .slice Bw t.q.nw dw, .slice Bf t.q.nf df, .slice (some ⟨go, 0, none⟩) t.no c3, .slice (some ⟨gp, 0, none⟩) t.np c4, .slice (some ⟨g, 0, none⟩) t.ns ds, .int .i64 t.far, .int .i64 t.harm, .int .i64 t.many] := by
          rw [← hw20]
          exact set7_other (U5.out.mono hbs) (TBox.apart hgt (U5.out.mono hbs) (by decide)) _ _ _ _ _ _ _ _
        have hb20 : Below w2.heap.size w2 w20 := by
          rw [← hw20]
          exact set7_below (bTrans HRB5.out hbs) HG1.out _ _ _ _ _ _ _ _
        have HW20 := Lib.hid hw20
        have HM20 := Lib.hid hm20
        have HU20 := Lib.hid hu20
        have HB20 := Lib.hid hb20
        clear hw20 hm20 hu20 hb20 hgt hbs
        refine wpList_skip rfl rfl (w'' := w20) (by rw [← HW20.out]; unfold set7; go_simp) ?_
        go_wp2_with fail
        go_roundw
        case rel =>
          first
          | exact ⟨k + 1, by omega, by go_num, HM20.out, HU20.out, HB20.out⟩
          | ((repeat apply Exists.intro)
             refine ⟨⟨k + 1, by omega, ?_, HM20.out, HU20.out, HB20.out⟩, rfl⟩
             go_num)
        case measure => simp [intOf]; omega
      obtain rfl : k = t.ns := by omega
      have HU5 := Lib.hid HMI5.out.done
      clear HMI5
      have HOK2 := Lib.hid (mirror_ok HOK.out)
      have HSM2 := Lib.hid (mirror_small HSM.out)
      go_wp2_with fail
      obtain ⟨x1, hx1⟩ : ∃ y, (t.nearOut (i : Int)).1 = y := ⟨_, rfl⟩
      obtain ⟨x2, hx2⟩ : ∃ y, (t.nearOut (i : Int)).2 = y := ⟨_, rfl⟩
      have HX := Lib.hid (And.intro hx1 hx2)
      clear hx1 hx2
      obtain ⟨er, her⟩ : ∃ y, t.knowErr true = y := ⟨_, rfl⟩
      have HER := Lib.hid her
      clear her
      obtain ⟨z, hz⟩ : ∃ y, (t.who i).length = y := ⟨_, rfl⟩
      have HZ := Lib.hid hz
      clear hz
      obtain ⟨zf, hzf⟩ : ∃ y, t.frees.length = y := ⟨_, rfl⟩
      have HZF := Lib.hid hzf
      clear hzf
      obtain ⟨b1, hb1⟩ : ∃ y, t.bestOut.1 = y := ⟨_, rfl⟩
      obtain ⟨b2, hb2⟩ : ∃ y, t.bestOut.2 = y := ⟨_, rfl⟩
      have HBO := Lib.hid (And.intro hb1 hb2)
      clear hb1 hb2
      obtain ⟨h1, hh1⟩ : ∃ y, t.cheapestOut.1 = y := ⟨_, rfl⟩
      obtain ⟨h2, hh2⟩ : ∃ y, t.cheapestOut.2 = y := ⟨_, rfl⟩
      have HCH := Lib.hid (And.intro hh1 hh2)
      clear hh1 hh2
      obtain ⟨p1, hp1⟩ : ∃ y, t.pairOut.1 = y := ⟨_, rfl⟩
      obtain ⟨p2, hp2⟩ : ∃ y, t.pairOut.2.1 = y := ⟨_, rfl⟩
      obtain ⟨p3, hp3⟩ : ∃ y, t.pairOut.2.2 = y := ⟨_, rfl⟩
      have HPO := Lib.hid (And.intro hp1 (And.intro hp2 hp3))
      clear hp1 hp2 hp3
      have HZL := Lib.hid (show z ≤ 9223372036854775807 by have h2 := HZ.out; have h3 := HSM.out.no; have h4 := Pt.m_no HOK.out; have h5 : (t.who i).length ≤ t.m := selTo_len _ _; omega)
      have HZFL := Lib.hid (show zf ≤ 9223372036854775807 by have h2 := HZF.out; have h3 := HSM.out.ns; have h5 : t.frees.length ≤ t.ns := selTo_len _ _; omega)
      by_cases he : er = 0
      case neg =>
        have HNZ := Lib.hid he
        clear he
        refine ((by have := nearP_any Aw Af Ao Ap As cw cf co cp cs t (i : Int) wr HSM.out HT5.out HTB5.out; rw [HX.out.1, HX.out.2] at this; exact this : Calls Tryz.prog 26 #[.agg #[.int .i64 t.q.wells, .slice Aw t.q.nw cw, .slice Af t.q.nf cf, .slice Ao t.no co, .slice Ap t.np cp, .slice As t.ns cs, .int .i64 t.far, .int .i64 t.harm, .int .i64 t.many], .int .i64 (i : Int)] wr fun e w' => e = .returned (.tuple #[.int .i64 x1, .int .i64 x2]) ∧ Below wr.heap.size wr w')).mono ?_
        rintro e w6 ⟨rfl, hb⟩
        have hB6 : Below wr.heap.size wr w6 := bTrans (Below.refl _ _) hb
        have HD6 := Lib.hid (bTrans HD5.out hB6)
        have HT6 := Lib.hid (HT5.out.mono hB6)
        have HTB6 := Lib.hid (HTB5.out.mono hB6)
        have HNA6 := Lib.hid (HNA5.out.mono hB6)
        have HRB6 := Lib.hid (HRB5.out.mono hB6)
        have HU6 := Lib.hid (HU5.out.mono hB6)
        have T6 := Lib.hid (T5.out.mono hB6)
        have U6 := Lib.hid (U5.out.mono hB6)
        clear hb hB6 HD5 HT5 HTB5 HNA5 HRB5 HU5 T5 T_0 T_1 T_2 T_3 T_4 T_5 T_6 T_7 T_8 T_l U5 U_0 U_1 U_2 U_3 U_4 U_5 U_6 U_7 U_8 U_l
        obtain ⟨T_0, T_1, T_2, T_3, T_4, T_5, T_6, T_7, T_8, T_l⟩ := T6.out.c9
        obtain ⟨U_0, U_1, U_2, U_3, U_4, U_5, U_6, U_7, U_8, U_l⟩ := U6.out.c9
        go_wp2_with fail
        refine ((by have := nearP_any Bw Bf (some ⟨go, 0, none⟩) (some ⟨gp, 0, none⟩) Bs dw df c3 c4 ds t.mirror (i : Int) w6 HSM2.out HU6.out HTB6.out; rw [mirror_nearOut HOK.out, HX.out.1, HX.out.2] at this; exact this : Calls Tryz.prog 26 #[.agg #[.int .i64 t.q.wells, .slice Bw t.q.nw dw, .slice Bf t.q.nf df, .slice (some ⟨go, 0, none⟩) t.no c3, .slice (some ⟨gp, 0, none⟩) t.np c4, .slice Bs t.ns ds, .int .i64 t.far, .int .i64 t.harm, .int .i64 t.many], .int .i64 (i : Int)] w6 fun e w' => e = .returned (.tuple #[.int .i64 x1, .int .i64 x2]) ∧ Below w6.heap.size w6 w')).mono ?_
        rintro e w7 ⟨rfl, hb⟩
        have hB7 : Below w6.heap.size w6 w7 := bTrans (Below.refl _ _) hb
        have HD7 := Lib.hid (bTrans HD6.out hB7)
        have HT7 := Lib.hid (HT6.out.mono hB7)
        have HTB7 := Lib.hid (HTB6.out.mono hB7)
        have HNA7 := Lib.hid (HNA6.out.mono hB7)
        have HRB7 := Lib.hid (HRB6.out.mono hB7)
        have HU7 := Lib.hid (HU6.out.mono hB7)
        have T7 := Lib.hid (T6.out.mono hB7)
        have U7 := Lib.hid (U6.out.mono hB7)
        clear hb hB7 HD6 HT6 HTB6 HNA6 HRB6 HU6 T6 T_0 T_1 T_2 T_3 T_4 T_5 T_6 T_7 T_8 T_l U6 U_0 U_1 U_2 U_3 U_4 U_5 U_6 U_7 U_8 U_l
        obtain ⟨T_0, T_1, T_2, T_3, T_4, T_5, T_6, T_7, T_8, T_l⟩ := T7.out.c9
        obtain ⟨U_0, U_1, U_2, U_3, U_4, U_5, U_6, U_7, U_8, U_l⟩ := U7.out.c9
        go_wp2_with fail
        refine ((by have := whoOutP_any Aw Af Ao Ap As cw cf co cp cs t (i : Int) w7 HSM.out HT7.out HTB7.out; rw [hasB_in HI.out, HER.out] at this; exact this : Calls Tryz.prog 27 #[.agg #[.int .i64 t.q.wells, .slice Aw t.q.nw cw, .slice Af t.q.nf cf, .slice Ao t.no co, .slice Ap t.np cp, .slice As t.ns cs, .int .i64 t.far, .int .i64 t.harm, .int .i64 t.many], .int .i64 (i : Int)] w7 fun e w' => NumsOut w' w7.heap.size er (t.who i) e ∧ Below w7.heap.size w7 w')).mono ?_
        rintro e w8 ⟨ho, hb⟩
        obtain rfl := ho.2 HNZ.out
        have hB8 : Below w7.heap.size w7 w8 := bTrans (Below.refl _ _) hb
        have HD8 := Lib.hid (bTrans HD7.out hB8)
        have HT8 := Lib.hid (HT7.out.mono hB8)
        have HTB8 := Lib.hid (HTB7.out.mono hB8)
        have HNA8 := Lib.hid (HNA7.out.mono hB8)
        have HRB8 := Lib.hid (HRB7.out.mono hB8)
        have HU8 := Lib.hid (HU7.out.mono hB8)
        have T8 := Lib.hid (T7.out.mono hB8)
        have U8 := Lib.hid (U7.out.mono hB8)
        clear hb hB8 HD7 HT7 HTB7 HNA7 HRB7 HU7 T7 T_0 T_1 T_2 T_3 T_4 T_5 T_6 T_7 T_8 T_l U7 U_0 U_1 U_2 U_3 U_4 U_5 U_6 U_7 U_8 U_l
        obtain ⟨T_0, T_1, T_2, T_3, T_4, T_5, T_6, T_7, T_8, T_l⟩ := T8.out.c9
        obtain ⟨U_0, U_1, U_2, U_3, U_4, U_5, U_6, U_7, U_8, U_l⟩ := U8.out.c9
        clear ho
        go_wp2_with fail
        refine ((by have := whoOutP_any Bw Bf (some ⟨go, 0, none⟩) (some ⟨gp, 0, none⟩) Bs dw df c3 c4 ds t.mirror (i : Int) w8 HSM2.out HU8.out HTB8.out; rw [mirror_know HOK.out, show t.mirror.hasB (i : Int) = t.hasB (i : Int) from rfl, hasB_in HI.out, HER.out, show t.mirror.who (i : Int).toNat = t.who i from mirror_who t HI.out] at this; exact this : Calls Tryz.prog 27 #[.agg #[.int .i64 t.q.wells, .slice Bw t.q.nw dw, .slice Bf t.q.nf df, .slice (some ⟨go, 0, none⟩) t.no c3, .slice (some ⟨gp, 0, none⟩) t.np c4, .slice Bs t.ns ds, .int .i64 t.far, .int .i64 t.harm, .int .i64 t.many], .int .i64 (i : Int)] w8 fun e w' => NumsOut w' w8.heap.size er (t.who i) e ∧ Below w8.heap.size w8 w')).mono ?_
        rintro e w9 ⟨ho, hb⟩
        obtain rfl := ho.2 HNZ.out
        have hB9 : Below w8.heap.size w8 w9 := bTrans (Below.refl _ _) hb
        have HD9 := Lib.hid (bTrans HD8.out hB9)
        have HT9 := Lib.hid (HT8.out.mono hB9)
        have HTB9 := Lib.hid (HTB8.out.mono hB9)
        have HNA9 := Lib.hid (HNA8.out.mono hB9)
        have HRB9 := Lib.hid (HRB8.out.mono hB9)
        have HU9 := Lib.hid (HU8.out.mono hB9)
        have T9 := Lib.hid (T8.out.mono hB9)
        have U9 := Lib.hid (U8.out.mono hB9)
        clear hb hB9 HD8 HT8 HTB8 HNA8 HRB8 HU8 T8 T_0 T_1 T_2 T_3 T_4 T_5 T_6 T_7 T_8 T_l U8 U_0 U_1 U_2 U_3 U_4 U_5 U_6 U_7 U_8 U_l
        obtain ⟨T_0, T_1, T_2, T_3, T_4, T_5, T_6, T_7, T_8, T_l⟩ := T9.out.c9
        obtain ⟨U_0, U_1, U_2, U_3, U_4, U_5, U_6, U_7, U_8, U_l⟩ := U9.out.c9
        clear ho
        go_wp2_with fail
        refine (sameInts_t none none 0 0 0 (fun _ => 0) _ (by omega) (.inl rfl) (.inl rfl)).mono ?_
        rintro e w10 ⟨rfl, hb⟩
        have hB10 : Below w9.heap.size w9 w10 := bTrans (Below.refl _ _) hb
        have HD10 := Lib.hid (bTrans HD9.out hB10)
        have HT10 := Lib.hid (HT9.out.mono hB10)
        have HTB10 := Lib.hid (HTB9.out.mono hB10)
        have HNA10 := Lib.hid (HNA9.out.mono hB10)
        have HRB10 := Lib.hid (HRB9.out.mono hB10)
        have HU10 := Lib.hid (HU9.out.mono hB10)
        have T10 := Lib.hid (T9.out.mono hB10)
        have U10 := Lib.hid (U9.out.mono hB10)
        clear hb hB10 HD9 HT9 HTB9 HNA9 HRB9 HU9 T9 T_0 T_1 T_2 T_3 T_4 T_5 T_6 T_7 T_8 T_l U9 U_0 U_1 U_2 U_3 U_4 U_5 U_6 U_7 U_8 U_l
        obtain ⟨T_0, T_1, T_2, T_3, T_4, T_5, T_6, T_7, T_8, T_l⟩ := T10.out.c9
        obtain ⟨U_0, U_1, U_2, U_3, U_4, U_5, U_6, U_7, U_8, U_l⟩ := U10.out.c9
        go_wp2_with fail
        refine ((by have := freeP_any Aw Af Ao Ap As cw cf co cp cs t w10 HSM.out HT10.out HTB10.out HNA10.out; rw [HER.out] at this; exact this : Calls Tryz.prog 29 #[.agg #[.int .i64 t.q.wells, .slice Aw t.q.nw cw, .slice Af t.q.nf cf, .slice Ao t.no co, .slice Ap t.np cp, .slice As t.ns cs, .int .i64 t.far, .int .i64 t.harm, .int .i64 t.many]] w10 fun e w' => NumsOut w' w10.heap.size er (t.frees) e ∧ Below w10.heap.size w10 w')).mono ?_
        rintro e w11 ⟨ho, hb⟩
        obtain rfl := ho.2 HNZ.out
        have hB11 : Below w10.heap.size w10 w11 := bTrans (Below.refl _ _) hb
        have HD11 := Lib.hid (bTrans HD10.out hB11)
        have HT11 := Lib.hid (HT10.out.mono hB11)
        have HTB11 := Lib.hid (HTB10.out.mono hB11)
        have HNA11 := Lib.hid (HNA10.out.mono hB11)
        have HRB11 := Lib.hid (HRB10.out.mono hB11)
        have HU11 := Lib.hid (HU10.out.mono hB11)
        have T11 := Lib.hid (T10.out.mono hB11)
        have U11 := Lib.hid (U10.out.mono hB11)
        clear hb hB11 HD10 HT10 HTB10 HNA10 HRB10 HU10 T10 T_0 T_1 T_2 T_3 T_4 T_5 T_6 T_7 T_8 T_l U10 U_0 U_1 U_2 U_3 U_4 U_5 U_6 U_7 U_8 U_l
        obtain ⟨T_0, T_1, T_2, T_3, T_4, T_5, T_6, T_7, T_8, T_l⟩ := T11.out.c9
        obtain ⟨U_0, U_1, U_2, U_3, U_4, U_5, U_6, U_7, U_8, U_l⟩ := U11.out.c9
        clear ho
        go_wp2_with fail
        refine ((by have := freeP_any Bw Bf (some ⟨go, 0, none⟩) (some ⟨gp, 0, none⟩) Bs dw df c3 c4 ds t.mirror w11 HSM2.out HU11.out HTB11.out HNA11.out; rw [mirror_know HOK.out, HER.out, mirror_frees] at this; exact this : Calls Tryz.prog 29 #[.agg #[.int .i64 t.q.wells, .slice Bw t.q.nw dw, .slice Bf t.q.nf df, .slice (some ⟨go, 0, none⟩) t.no c3, .slice (some ⟨gp, 0, none⟩) t.np c4, .slice Bs t.ns ds, .int .i64 t.far, .int .i64 t.harm, .int .i64 t.many]] w11 fun e w' => NumsOut w' w11.heap.size er (t.frees) e ∧ Below w11.heap.size w11 w')).mono ?_
        rintro e w12 ⟨ho, hb⟩
        obtain rfl := ho.2 HNZ.out
        have hB12 : Below w11.heap.size w11 w12 := bTrans (Below.refl _ _) hb
        have HD12 := Lib.hid (bTrans HD11.out hB12)
        have HT12 := Lib.hid (HT11.out.mono hB12)
        have HTB12 := Lib.hid (HTB11.out.mono hB12)
        have HNA12 := Lib.hid (HNA11.out.mono hB12)
        have HRB12 := Lib.hid (HRB11.out.mono hB12)
        have HU12 := Lib.hid (HU11.out.mono hB12)
        have T12 := Lib.hid (T11.out.mono hB12)
        have U12 := Lib.hid (U11.out.mono hB12)
        clear hb hB12 HD11 HT11 HTB11 HNA11 HRB11 HU11 T11 T_0 T_1 T_2 T_3 T_4 T_5 T_6 T_7 T_8 T_l U11 U_0 U_1 U_2 U_3 U_4 U_5 U_6 U_7 U_8 U_l
        obtain ⟨T_0, T_1, T_2, T_3, T_4, T_5, T_6, T_7, T_8, T_l⟩ := T12.out.c9
        obtain ⟨U_0, U_1, U_2, U_3, U_4, U_5, U_6, U_7, U_8, U_l⟩ := U12.out.c9
        clear ho
        go_wp2_with fail
        refine ((by have := bestP_any Aw Af Ao Ap As cw cf co cp cs t w12 HSM.out HT12.out HTB12.out HNA12.out; rw [HBO.out.1, HBO.out.2] at this; exact this : Calls Tryz.prog 30 #[.agg #[.int .i64 t.q.wells, .slice Aw t.q.nw cw, .slice Af t.q.nf cf, .slice Ao t.no co, .slice Ap t.np cp, .slice As t.ns cs, .int .i64 t.far, .int .i64 t.harm, .int .i64 t.many]] w12 fun e w' => e = .returned (.tuple #[.int .i64 b1, .int .i64 b2]) ∧ Below w12.heap.size w12 w')).mono ?_
        rintro e w13 ⟨rfl, hb⟩
        have hB13 : Below w12.heap.size w12 w13 := bTrans (Below.refl _ _) hb
        have HD13 := Lib.hid (bTrans HD12.out hB13)
        have HT13 := Lib.hid (HT12.out.mono hB13)
        have HTB13 := Lib.hid (HTB12.out.mono hB13)
        have HNA13 := Lib.hid (HNA12.out.mono hB13)
        have HRB13 := Lib.hid (HRB12.out.mono hB13)
        have HU13 := Lib.hid (HU12.out.mono hB13)
        have T13 := Lib.hid (T12.out.mono hB13)
        have U13 := Lib.hid (U12.out.mono hB13)
        clear hb hB13 HD12 HT12 HTB12 HNA12 HRB12 HU12 T12 T_0 T_1 T_2 T_3 T_4 T_5 T_6 T_7 T_8 T_l U12 U_0 U_1 U_2 U_3 U_4 U_5 U_6 U_7 U_8 U_l
        obtain ⟨T_0, T_1, T_2, T_3, T_4, T_5, T_6, T_7, T_8, T_l⟩ := T13.out.c9
        obtain ⟨U_0, U_1, U_2, U_3, U_4, U_5, U_6, U_7, U_8, U_l⟩ := U13.out.c9
        go_wp2_with fail
        refine ((by have := bestP_any Bw Bf (some ⟨go, 0, none⟩) (some ⟨gp, 0, none⟩) Bs dw df c3 c4 ds t.mirror w13 HSM2.out HU13.out HTB13.out HNA13.out; rw [mirror_bestOut HOK.out, HBO.out.1, HBO.out.2] at this; exact this : Calls Tryz.prog 30 #[.agg #[.int .i64 t.q.wells, .slice Bw t.q.nw dw, .slice Bf t.q.nf df, .slice (some ⟨go, 0, none⟩) t.no c3, .slice (some ⟨gp, 0, none⟩) t.np c4, .slice Bs t.ns ds, .int .i64 t.far, .int .i64 t.harm, .int .i64 t.many]] w13 fun e w' => e = .returned (.tuple #[.int .i64 b1, .int .i64 b2]) ∧ Below w13.heap.size w13 w')).mono ?_
        rintro e w14 ⟨rfl, hb⟩
        have hB14 : Below w13.heap.size w13 w14 := bTrans (Below.refl _ _) hb
        have HD14 := Lib.hid (bTrans HD13.out hB14)
        have HT14 := Lib.hid (HT13.out.mono hB14)
        have HTB14 := Lib.hid (HTB13.out.mono hB14)
        have HNA14 := Lib.hid (HNA13.out.mono hB14)
        have HRB14 := Lib.hid (HRB13.out.mono hB14)
        have HU14 := Lib.hid (HU13.out.mono hB14)
        have T14 := Lib.hid (T13.out.mono hB14)
        have U14 := Lib.hid (U13.out.mono hB14)
        clear hb hB14 HD13 HT13 HTB13 HNA13 HRB13 HU13 T13 T_0 T_1 T_2 T_3 T_4 T_5 T_6 T_7 T_8 T_l U13 U_0 U_1 U_2 U_3 U_4 U_5 U_6 U_7 U_8 U_l
        obtain ⟨T_0, T_1, T_2, T_3, T_4, T_5, T_6, T_7, T_8, T_l⟩ := T14.out.c9
        obtain ⟨U_0, U_1, U_2, U_3, U_4, U_5, U_6, U_7, U_8, U_l⟩ := U14.out.c9
        go_wp2_with fail
        refine (sameInts_t none none 0 0 0 (fun _ => 0) _ (by omega) (.inl rfl) (.inl rfl)).mono ?_
        rintro e w15 ⟨rfl, hb⟩
        have hB15 : Below w14.heap.size w14 w15 := bTrans (Below.refl _ _) hb
        have HD15 := Lib.hid (bTrans HD14.out hB15)
        have HT15 := Lib.hid (HT14.out.mono hB15)
        have HTB15 := Lib.hid (HTB14.out.mono hB15)
        have HNA15 := Lib.hid (HNA14.out.mono hB15)
        have HRB15 := Lib.hid (HRB14.out.mono hB15)
        have HU15 := Lib.hid (HU14.out.mono hB15)
        have T15 := Lib.hid (T14.out.mono hB15)
        have U15 := Lib.hid (U14.out.mono hB15)
        clear hb hB15 HD14 HT14 HTB14 HNA14 HRB14 HU14 T14 T_0 T_1 T_2 T_3 T_4 T_5 T_6 T_7 T_8 T_l U14 U_0 U_1 U_2 U_3 U_4 U_5 U_6 U_7 U_8 U_l
        obtain ⟨T_0, T_1, T_2, T_3, T_4, T_5, T_6, T_7, T_8, T_l⟩ := T15.out.c9
        obtain ⟨U_0, U_1, U_2, U_3, U_4, U_5, U_6, U_7, U_8, U_l⟩ := U15.out.c9
        go_wp2_with fail
        refine ((by have := cheapestOutP_any Aw Af Ao Ap As cw cf co cp cs t w15 HSM.out HT15.out HTB15.out HNA15.out; rw [HCH.out.1, HCH.out.2] at this; exact this : Calls Tryz.prog 31 #[.agg #[.int .i64 t.q.wells, .slice Aw t.q.nw cw, .slice Af t.q.nf cf, .slice Ao t.no co, .slice Ap t.np cp, .slice As t.ns cs, .int .i64 t.far, .int .i64 t.harm, .int .i64 t.many]] w15 fun e w' => e = .returned (.tuple #[.int .i64 h1, .int .i64 h2]) ∧ Below w15.heap.size w15 w')).mono ?_
        rintro e w16 ⟨rfl, hb⟩
        have hB16 : Below w15.heap.size w15 w16 := bTrans (Below.refl _ _) hb
        have HD16 := Lib.hid (bTrans HD15.out hB16)
        have HT16 := Lib.hid (HT15.out.mono hB16)
        have HTB16 := Lib.hid (HTB15.out.mono hB16)
        have HNA16 := Lib.hid (HNA15.out.mono hB16)
        have HRB16 := Lib.hid (HRB15.out.mono hB16)
        have HU16 := Lib.hid (HU15.out.mono hB16)
        have T16 := Lib.hid (T15.out.mono hB16)
        have U16 := Lib.hid (U15.out.mono hB16)
        clear hb hB16 HD15 HT15 HTB15 HNA15 HRB15 HU15 T15 T_0 T_1 T_2 T_3 T_4 T_5 T_6 T_7 T_8 T_l U15 U_0 U_1 U_2 U_3 U_4 U_5 U_6 U_7 U_8 U_l
        obtain ⟨T_0, T_1, T_2, T_3, T_4, T_5, T_6, T_7, T_8, T_l⟩ := T16.out.c9
        obtain ⟨U_0, U_1, U_2, U_3, U_4, U_5, U_6, U_7, U_8, U_l⟩ := U16.out.c9
        go_wp2_with fail
        refine ((by have := cheapestOutP_any Bw Bf (some ⟨go, 0, none⟩) (some ⟨gp, 0, none⟩) Bs dw df c3 c4 ds t.mirror w16 HSM2.out HU16.out HTB16.out HNA16.out; rw [mirror_cheapestOut HOK.out, HCH.out.1, HCH.out.2] at this; exact this : Calls Tryz.prog 31 #[.agg #[.int .i64 t.q.wells, .slice Bw t.q.nw dw, .slice Bf t.q.nf df, .slice (some ⟨go, 0, none⟩) t.no c3, .slice (some ⟨gp, 0, none⟩) t.np c4, .slice Bs t.ns ds, .int .i64 t.far, .int .i64 t.harm, .int .i64 t.many]] w16 fun e w' => e = .returned (.tuple #[.int .i64 h1, .int .i64 h2]) ∧ Below w16.heap.size w16 w')).mono ?_
        rintro e w17 ⟨rfl, hb⟩
        have hB17 : Below w16.heap.size w16 w17 := bTrans (Below.refl _ _) hb
        have HD17 := Lib.hid (bTrans HD16.out hB17)
        have HT17 := Lib.hid (HT16.out.mono hB17)
        have HTB17 := Lib.hid (HTB16.out.mono hB17)
        have HNA17 := Lib.hid (HNA16.out.mono hB17)
        have HRB17 := Lib.hid (HRB16.out.mono hB17)
        have HU17 := Lib.hid (HU16.out.mono hB17)
        have T17 := Lib.hid (T16.out.mono hB17)
        have U17 := Lib.hid (U16.out.mono hB17)
        clear hb hB17 HD16 HT16 HTB16 HNA16 HRB16 HU16 T16 T_0 T_1 T_2 T_3 T_4 T_5 T_6 T_7 T_8 T_l U16 U_0 U_1 U_2 U_3 U_4 U_5 U_6 U_7 U_8 U_l
        obtain ⟨T_0, T_1, T_2, T_3, T_4, T_5, T_6, T_7, T_8, T_l⟩ := T17.out.c9
        obtain ⟨U_0, U_1, U_2, U_3, U_4, U_5, U_6, U_7, U_8, U_l⟩ := U17.out.c9
        go_wp2_with fail
        refine ((by have := pairP_any Aw Af Ao Ap As cw cf co cp cs t w17 HSM.out HT17.out HTB17.out HNA17.out; rw [HPO.out.1, HPO.out.2.1, HPO.out.2.2] at this; exact this : Calls Tryz.prog 32 #[.agg #[.int .i64 t.q.wells, .slice Aw t.q.nw cw, .slice Af t.q.nf cf, .slice Ao t.no co, .slice Ap t.np cp, .slice As t.ns cs, .int .i64 t.far, .int .i64 t.harm, .int .i64 t.many]] w17 fun e w' => e = .returned (.tuple #[.int .i64 p1, .int .i64 p2, .int .i64 p3]) ∧ Below w17.heap.size w17 w')).mono ?_
        rintro e w18 ⟨rfl, hb⟩
        have hB18 : Below w17.heap.size w17 w18 := bTrans (Below.refl _ _) hb
        have HD18 := Lib.hid (bTrans HD17.out hB18)
        have HT18 := Lib.hid (HT17.out.mono hB18)
        have HTB18 := Lib.hid (HTB17.out.mono hB18)
        have HNA18 := Lib.hid (HNA17.out.mono hB18)
        have HRB18 := Lib.hid (HRB17.out.mono hB18)
        have HU18 := Lib.hid (HU17.out.mono hB18)
        have T18 := Lib.hid (T17.out.mono hB18)
        have U18 := Lib.hid (U17.out.mono hB18)
        clear hb hB18 HD17 HT17 HTB17 HNA17 HRB17 HU17 T17 T_0 T_1 T_2 T_3 T_4 T_5 T_6 T_7 T_8 T_l U17 U_0 U_1 U_2 U_3 U_4 U_5 U_6 U_7 U_8 U_l
        obtain ⟨T_0, T_1, T_2, T_3, T_4, T_5, T_6, T_7, T_8, T_l⟩ := T18.out.c9
        obtain ⟨U_0, U_1, U_2, U_3, U_4, U_5, U_6, U_7, U_8, U_l⟩ := U18.out.c9
        go_wp2_with fail
        refine ((by have := pairP_any Bw Bf (some ⟨go, 0, none⟩) (some ⟨gp, 0, none⟩) Bs dw df c3 c4 ds t.mirror w18 HSM2.out HU18.out HTB18.out HNA18.out; rw [mirror_pairOut HOK.out, HPO.out.1, HPO.out.2.1, HPO.out.2.2] at this; exact this : Calls Tryz.prog 32 #[.agg #[.int .i64 t.q.wells, .slice Bw t.q.nw dw, .slice Bf t.q.nf df, .slice (some ⟨go, 0, none⟩) t.no c3, .slice (some ⟨gp, 0, none⟩) t.np c4, .slice Bs t.ns ds, .int .i64 t.far, .int .i64 t.harm, .int .i64 t.many]] w18 fun e w' => e = .returned (.tuple #[.int .i64 p1, .int .i64 p2, .int .i64 p3]) ∧ Below w18.heap.size w18 w')).mono ?_
        rintro e w19 ⟨rfl, hb⟩
        have hB19 : Below w18.heap.size w18 w19 := bTrans (Below.refl _ _) hb
        have HD19 := Lib.hid (bTrans HD18.out hB19)
        have HT19 := Lib.hid (HT18.out.mono hB19)
        have HTB19 := Lib.hid (HTB18.out.mono hB19)
        have HNA19 := Lib.hid (HNA18.out.mono hB19)
        have HRB19 := Lib.hid (HRB18.out.mono hB19)
        have HU19 := Lib.hid (HU18.out.mono hB19)
        have T19 := Lib.hid (T18.out.mono hB19)
        have U19 := Lib.hid (U18.out.mono hB19)
        clear hb hB19 HD18 HT18 HTB18 HNA18 HRB18 HU18 T18 T_0 T_1 T_2 T_3 T_4 T_5 T_6 T_7 T_8 T_l U18 U_0 U_1 U_2 U_3 U_4 U_5 U_6 U_7 U_8 U_l
        obtain ⟨T_0, T_1, T_2, T_3, T_4, T_5, T_6, T_7, T_8, T_l⟩ := T19.out.c9
        obtain ⟨U_0, U_1, U_2, U_3, U_4, U_5, U_6, U_7, U_8, U_l⟩ := U19.out.c9
        go_wp2_with fail
        refine (works9_any _ HTB19.out HNA19.out).mono ?_
        rintro e w20 ⟨rfl, hb⟩
        have hB20 : Below w19.heap.size w19 w20 := bTrans (Below.refl _ _) hb
        have HD20 := Lib.hid (bTrans HD19.out hB20)
        have HT20 := Lib.hid (HT19.out.mono hB20)
        have HTB20 := Lib.hid (HTB19.out.mono hB20)
        have HNA20 := Lib.hid (HNA19.out.mono hB20)
        have HRB20 := Lib.hid (HRB19.out.mono hB20)
        have HU20 := Lib.hid (HU19.out.mono hB20)
        have T20 := Lib.hid (T19.out.mono hB20)
        have U20 := Lib.hid (U19.out.mono hB20)
        clear hb hB20 HD19 HT19 HTB19 HNA19 HRB19 HU19 T19 T_0 T_1 T_2 T_3 T_4 T_5 T_6 T_7 T_8 T_l U19 U_0 U_1 U_2 U_3 U_4 U_5 U_6 U_7 U_8 U_l
        obtain ⟨T_0, T_1, T_2, T_3, T_4, T_5, T_6, T_7, T_8, T_l⟩ := T20.out.c9
        obtain ⟨U_0, U_1, U_2, U_3, U_4, U_5, U_6, U_7, U_8, U_l⟩ := U20.out.c9
        go_wp2_with fail
        go_ret
        exact ⟨rfl, HD20.out⟩
      case pos =>
        subst he
        refine ((by have := nearP_any Aw Af Ao Ap As cw cf co cp cs t (i : Int) wr HSM.out HT5.out HTB5.out; rw [HX.out.1, HX.out.2] at this; exact this : Calls Tryz.prog 26 #[.agg #[.int .i64 t.q.wells, .slice Aw t.q.nw cw, .slice Af t.q.nf cf, .slice Ao t.no co, .slice Ap t.np cp, .slice As t.ns cs, .int .i64 t.far, .int .i64 t.harm, .int .i64 t.many], .int .i64 (i : Int)] wr fun e w' => e = .returned (.tuple #[.int .i64 x1, .int .i64 x2]) ∧ Below wr.heap.size wr w')).mono ?_
        rintro e w6 ⟨rfl, hb⟩
        have hB6 : Below wr.heap.size wr w6 := bTrans (Below.refl _ _) hb
        have HD6 := Lib.hid (bTrans HD5.out hB6)
        have HT6 := Lib.hid (HT5.out.mono hB6)
        have HTB6 := Lib.hid (HTB5.out.mono hB6)
        have HNA6 := Lib.hid (HNA5.out.mono hB6)
        have HRB6 := Lib.hid (HRB5.out.mono hB6)
        have HU6 := Lib.hid (HU5.out.mono hB6)
        have T6 := Lib.hid (T5.out.mono hB6)
        have U6 := Lib.hid (U5.out.mono hB6)
        clear hb hB6 HD5 HT5 HTB5 HNA5 HRB5 HU5 T5 T_0 T_1 T_2 T_3 T_4 T_5 T_6 T_7 T_8 T_l U5 U_0 U_1 U_2 U_3 U_4 U_5 U_6 U_7 U_8 U_l
        obtain ⟨T_0, T_1, T_2, T_3, T_4, T_5, T_6, T_7, T_8, T_l⟩ := T6.out.c9
        obtain ⟨U_0, U_1, U_2, U_3, U_4, U_5, U_6, U_7, U_8, U_l⟩ := U6.out.c9
        go_wp2_with fail
        refine ((by have := nearP_any Bw Bf (some ⟨go, 0, none⟩) (some ⟨gp, 0, none⟩) Bs dw df c3 c4 ds t.mirror (i : Int) w6 HSM2.out HU6.out HTB6.out; rw [mirror_nearOut HOK.out, HX.out.1, HX.out.2] at this; exact this : Calls Tryz.prog 26 #[.agg #[.int .i64 t.q.wells, .slice Bw t.q.nw dw, .slice Bf t.q.nf df, .slice (some ⟨go, 0, none⟩) t.no c3, .slice (some ⟨gp, 0, none⟩) t.np c4, .slice Bs t.ns ds, .int .i64 t.far, .int .i64 t.harm, .int .i64 t.many], .int .i64 (i : Int)] w6 fun e w' => e = .returned (.tuple #[.int .i64 x1, .int .i64 x2]) ∧ Below w6.heap.size w6 w')).mono ?_
        rintro e w7 ⟨rfl, hb⟩
        have hB7 : Below w6.heap.size w6 w7 := bTrans (Below.refl _ _) hb
        have HD7 := Lib.hid (bTrans HD6.out hB7)
        have HT7 := Lib.hid (HT6.out.mono hB7)
        have HTB7 := Lib.hid (HTB6.out.mono hB7)
        have HNA7 := Lib.hid (HNA6.out.mono hB7)
        have HRB7 := Lib.hid (HRB6.out.mono hB7)
        have HU7 := Lib.hid (HU6.out.mono hB7)
        have T7 := Lib.hid (T6.out.mono hB7)
        have U7 := Lib.hid (U6.out.mono hB7)
        clear hb hB7 HD6 HT6 HTB6 HNA6 HRB6 HU6 T6 T_0 T_1 T_2 T_3 T_4 T_5 T_6 T_7 T_8 T_l U6 U_0 U_1 U_2 U_3 U_4 U_5 U_6 U_7 U_8 U_l
        obtain ⟨T_0, T_1, T_2, T_3, T_4, T_5, T_6, T_7, T_8, T_l⟩ := T7.out.c9
        obtain ⟨U_0, U_1, U_2, U_3, U_4, U_5, U_6, U_7, U_8, U_l⟩ := U7.out.c9
        go_wp2_with fail
        refine ((by have := whoOutP_any Aw Af Ao Ap As cw cf co cp cs t (i : Int) w7 HSM.out HT7.out HTB7.out; rw [hasB_in HI.out, HER.out] at this; exact this : Calls Tryz.prog 27 #[.agg #[.int .i64 t.q.wells, .slice Aw t.q.nw cw, .slice Af t.q.nf cf, .slice Ao t.no co, .slice Ap t.np cp, .slice As t.ns cs, .int .i64 t.far, .int .i64 t.harm, .int .i64 t.many], .int .i64 (i : Int)] w7 fun e w' => NumsOut w' w7.heap.size 0 (t.who i) e ∧ Below w7.heap.size w7 w')).mono ?_
        rintro e w8 ⟨ho, hb⟩
        obtain ⟨v, rfl, hv⟩ := ho.1 rfl
        obtain ⟨A6, c6, rfl, hi6⟩ := hv.lst
        rw [HZ.out] at hi6 ⊢
        have hB8 : Below w7.heap.size w7 w8 := bTrans (Below.refl _ _) hb
        have HD8 := Lib.hid (bTrans HD7.out hB8)
        have HT8 := Lib.hid (HT7.out.mono hB8)
        have HTB8 := Lib.hid (HTB7.out.mono hB8)
        have HNA8 := Lib.hid (HNA7.out.mono hB8)
        have HRB8 := Lib.hid (HRB7.out.mono hB8)
        have HU8 := Lib.hid (HU7.out.mono hB8)
        have HW8 := Lib.hid (hi6)
        have T8 := Lib.hid (T7.out.mono hB8)
        have U8 := Lib.hid (U7.out.mono hB8)
        clear hb hB8 HD7 HT7 HTB7 HNA7 HRB7 HU7 T7 T_0 T_1 T_2 T_3 T_4 T_5 T_6 T_7 T_8 T_l U7 U_0 U_1 U_2 U_3 U_4 U_5 U_6 U_7 U_8 U_l
        obtain ⟨T_0, T_1, T_2, T_3, T_4, T_5, T_6, T_7, T_8, T_l⟩ := T8.out.c9
        obtain ⟨U_0, U_1, U_2, U_3, U_4, U_5, U_6, U_7, U_8, U_l⟩ := U8.out.c9
        clear ho hv hi6
        go_wp2_with fail
        refine ((by have := whoOutP_any Bw Bf (some ⟨go, 0, none⟩) (some ⟨gp, 0, none⟩) Bs dw df c3 c4 ds t.mirror (i : Int) w8 HSM2.out HU8.out HTB8.out; rw [mirror_know HOK.out, show t.mirror.hasB (i : Int) = t.hasB (i : Int) from rfl, hasB_in HI.out, HER.out, show t.mirror.who (i : Int).toNat = t.who i from mirror_who t HI.out] at this; exact this : Calls Tryz.prog 27 #[.agg #[.int .i64 t.q.wells, .slice Bw t.q.nw dw, .slice Bf t.q.nf df, .slice (some ⟨go, 0, none⟩) t.no c3, .slice (some ⟨gp, 0, none⟩) t.np c4, .slice Bs t.ns ds, .int .i64 t.far, .int .i64 t.harm, .int .i64 t.many], .int .i64 (i : Int)] w8 fun e w' => NumsOut w' w8.heap.size 0 (t.who i) e ∧ Below w8.heap.size w8 w')).mono ?_
        rintro e w9 ⟨ho, hb⟩
        obtain ⟨v, rfl, hv⟩ := ho.1 rfl
        obtain ⟨A7, c7, rfl, hi6⟩ := hv.lst
        rw [HZ.out] at hi6 ⊢
        have hB9 : Below w8.heap.size w8 w9 := bTrans (Below.refl _ _) hb
        have HD9 := Lib.hid (bTrans HD8.out hB9)
        have HT9 := Lib.hid (HT8.out.mono hB9)
        have HTB9 := Lib.hid (HTB8.out.mono hB9)
        have HNA9 := Lib.hid (HNA8.out.mono hB9)
        have HRB9 := Lib.hid (HRB8.out.mono hB9)
        have HU9 := Lib.hid (HU8.out.mono hB9)
        have HW9 := Lib.hid (HW8.out.mono hB9)
        have HV99 := Lib.hid (hi6)
        have T9 := Lib.hid (T8.out.mono hB9)
        have U9 := Lib.hid (U8.out.mono hB9)
        clear hb hB9 HD8 HT8 HTB8 HNA8 HRB8 HU8 HW8 T8 T_0 T_1 T_2 T_3 T_4 T_5 T_6 T_7 T_8 T_l U8 U_0 U_1 U_2 U_3 U_4 U_5 U_6 U_7 U_8 U_l
        obtain ⟨T_0, T_1, T_2, T_3, T_4, T_5, T_6, T_7, T_8, T_l⟩ := T9.out.c9
        obtain ⟨U_0, U_1, U_2, U_3, U_4, U_5, U_6, U_7, U_8, U_l⟩ := U9.out.c9
        clear ho hv hi6
        go_wp2_with fail
        refine (sameInts_t A6 A7 z c6 c7 _ _ HZL.out HW9.out HV99.out).mono ?_
        rintro e w10 ⟨rfl, hb⟩
        have hB10 : Below w9.heap.size w9 w10 := bTrans (Below.refl _ _) hb
        have HD10 := Lib.hid (bTrans HD9.out hB10)
        have HT10 := Lib.hid (HT9.out.mono hB10)
        have HTB10 := Lib.hid (HTB9.out.mono hB10)
        have HNA10 := Lib.hid (HNA9.out.mono hB10)
        have HRB10 := Lib.hid (HRB9.out.mono hB10)
        have HU10 := Lib.hid (HU9.out.mono hB10)
        have HW10 := Lib.hid (HW9.out.mono hB10)
        have HV910 := Lib.hid (HV99.out.mono hB10)
        have T10 := Lib.hid (T9.out.mono hB10)
        have U10 := Lib.hid (U9.out.mono hB10)
        clear hb hB10 HD9 HT9 HTB9 HNA9 HRB9 HU9 HW9 HV99 T9 T_0 T_1 T_2 T_3 T_4 T_5 T_6 T_7 T_8 T_l U9 U_0 U_1 U_2 U_3 U_4 U_5 U_6 U_7 U_8 U_l
        obtain ⟨T_0, T_1, T_2, T_3, T_4, T_5, T_6, T_7, T_8, T_l⟩ := T10.out.c9
        obtain ⟨U_0, U_1, U_2, U_3, U_4, U_5, U_6, U_7, U_8, U_l⟩ := U10.out.c9
        go_wp2_with fail
        refine ((by have := freeP_any Aw Af Ao Ap As cw cf co cp cs t w10 HSM.out HT10.out HTB10.out HNA10.out; rw [HER.out] at this; exact this : Calls Tryz.prog 29 #[.agg #[.int .i64 t.q.wells, .slice Aw t.q.nw cw, .slice Af t.q.nf cf, .slice Ao t.no co, .slice Ap t.np cp, .slice As t.ns cs, .int .i64 t.far, .int .i64 t.harm, .int .i64 t.many]] w10 fun e w' => NumsOut w' w10.heap.size 0 (t.frees) e ∧ Below w10.heap.size w10 w')).mono ?_
        rintro e w11 ⟨ho, hb⟩
        obtain ⟨v, rfl, hv⟩ := ho.1 rfl
        obtain ⟨A8, c8, rfl, hi6⟩ := hv.lst
        rw [HZF.out] at hi6 ⊢
        have hB11 : Below w10.heap.size w10 w11 := bTrans (Below.refl _ _) hb
        have HD11 := Lib.hid (bTrans HD10.out hB11)
        have HT11 := Lib.hid (HT10.out.mono hB11)
        have HTB11 := Lib.hid (HTB10.out.mono hB11)
        have HNA11 := Lib.hid (HNA10.out.mono hB11)
        have HRB11 := Lib.hid (HRB10.out.mono hB11)
        have HU11 := Lib.hid (HU10.out.mono hB11)
        have HW11 := Lib.hid (HW10.out.mono hB11)
        have HV911 := Lib.hid (HV910.out.mono hB11)
        have HW811 := Lib.hid (hi6)
        have T11 := Lib.hid (T10.out.mono hB11)
        have U11 := Lib.hid (U10.out.mono hB11)
        clear hb hB11 HD10 HT10 HTB10 HNA10 HRB10 HU10 HW10 HV910 T10 T_0 T_1 T_2 T_3 T_4 T_5 T_6 T_7 T_8 T_l U10 U_0 U_1 U_2 U_3 U_4 U_5 U_6 U_7 U_8 U_l
        obtain ⟨T_0, T_1, T_2, T_3, T_4, T_5, T_6, T_7, T_8, T_l⟩ := T11.out.c9
        obtain ⟨U_0, U_1, U_2, U_3, U_4, U_5, U_6, U_7, U_8, U_l⟩ := U11.out.c9
        clear ho hv hi6
        go_wp2_with fail
        refine ((by have := freeP_any Bw Bf (some ⟨go, 0, none⟩) (some ⟨gp, 0, none⟩) Bs dw df c3 c4 ds t.mirror w11 HSM2.out HU11.out HTB11.out HNA11.out; rw [mirror_know HOK.out, HER.out, mirror_frees] at this; exact this : Calls Tryz.prog 29 #[.agg #[.int .i64 t.q.wells, .slice Bw t.q.nw dw, .slice Bf t.q.nf df, .slice (some ⟨go, 0, none⟩) t.no c3, .slice (some ⟨gp, 0, none⟩) t.np c4, .slice Bs t.ns ds, .int .i64 t.far, .int .i64 t.harm, .int .i64 t.many]] w11 fun e w' => NumsOut w' w11.heap.size 0 (t.frees) e ∧ Below w11.heap.size w11 w')).mono ?_
        rintro e w12 ⟨ho, hb⟩
        obtain ⟨v, rfl, hv⟩ := ho.1 rfl
        obtain ⟨A9, c9, rfl, hi6⟩ := hv.lst
        rw [HZF.out] at hi6 ⊢
        have hB12 : Below w11.heap.size w11 w12 := bTrans (Below.refl _ _) hb
        have HD12 := Lib.hid (bTrans HD11.out hB12)
        have HT12 := Lib.hid (HT11.out.mono hB12)
        have HTB12 := Lib.hid (HTB11.out.mono hB12)
        have HNA12 := Lib.hid (HNA11.out.mono hB12)
        have HRB12 := Lib.hid (HRB11.out.mono hB12)
        have HU12 := Lib.hid (HU11.out.mono hB12)
        have HW12 := Lib.hid (HW11.out.mono hB12)
        have HV912 := Lib.hid (HV911.out.mono hB12)
        have HW812 := Lib.hid (HW811.out.mono hB12)
        have HW912 := Lib.hid (hi6)
        have T12 := Lib.hid (T11.out.mono hB12)
        have U12 := Lib.hid (U11.out.mono hB12)
        clear hb hB12 HD11 HT11 HTB11 HNA11 HRB11 HU11 HW11 HV911 HW811 T11 T_0 T_1 T_2 T_3 T_4 T_5 T_6 T_7 T_8 T_l U11 U_0 U_1 U_2 U_3 U_4 U_5 U_6 U_7 U_8 U_l
        obtain ⟨T_0, T_1, T_2, T_3, T_4, T_5, T_6, T_7, T_8, T_l⟩ := T12.out.c9
        obtain ⟨U_0, U_1, U_2, U_3, U_4, U_5, U_6, U_7, U_8, U_l⟩ := U12.out.c9
        clear ho hv hi6
        go_wp2_with fail
        refine ((by have := bestP_any Aw Af Ao Ap As cw cf co cp cs t w12 HSM.out HT12.out HTB12.out HNA12.out; rw [HBO.out.1, HBO.out.2] at this; exact this : Calls Tryz.prog 30 #[.agg #[.int .i64 t.q.wells, .slice Aw t.q.nw cw, .slice Af t.q.nf cf, .slice Ao t.no co, .slice Ap t.np cp, .slice As t.ns cs, .int .i64 t.far, .int .i64 t.harm, .int .i64 t.many]] w12 fun e w' => e = .returned (.tuple #[.int .i64 b1, .int .i64 b2]) ∧ Below w12.heap.size w12 w')).mono ?_
        rintro e w13 ⟨rfl, hb⟩
        have hB13 : Below w12.heap.size w12 w13 := bTrans (Below.refl _ _) hb
        have HD13 := Lib.hid (bTrans HD12.out hB13)
        have HT13 := Lib.hid (HT12.out.mono hB13)
        have HTB13 := Lib.hid (HTB12.out.mono hB13)
        have HNA13 := Lib.hid (HNA12.out.mono hB13)
        have HRB13 := Lib.hid (HRB12.out.mono hB13)
        have HU13 := Lib.hid (HU12.out.mono hB13)
        have HW13 := Lib.hid (HW12.out.mono hB13)
        have HV913 := Lib.hid (HV912.out.mono hB13)
        have HW813 := Lib.hid (HW812.out.mono hB13)
        have HW913 := Lib.hid (HW912.out.mono hB13)
        have T13 := Lib.hid (T12.out.mono hB13)
        have U13 := Lib.hid (U12.out.mono hB13)
        clear hb hB13 HD12 HT12 HTB12 HNA12 HRB12 HU12 HW12 HV912 HW812 HW912 T12 T_0 T_1 T_2 T_3 T_4 T_5 T_6 T_7 T_8 T_l U12 U_0 U_1 U_2 U_3 U_4 U_5 U_6 U_7 U_8 U_l
        obtain ⟨T_0, T_1, T_2, T_3, T_4, T_5, T_6, T_7, T_8, T_l⟩ := T13.out.c9
        obtain ⟨U_0, U_1, U_2, U_3, U_4, U_5, U_6, U_7, U_8, U_l⟩ := U13.out.c9
        go_wp2_with fail
        refine ((by have := bestP_any Bw Bf (some ⟨go, 0, none⟩) (some ⟨gp, 0, none⟩) Bs dw df c3 c4 ds t.mirror w13 HSM2.out HU13.out HTB13.out HNA13.out; rw [mirror_bestOut HOK.out, HBO.out.1, HBO.out.2] at this; exact this : Calls Tryz.prog 30 #[.agg #[.int .i64 t.q.wells, .slice Bw t.q.nw dw, .slice Bf t.q.nf df, .slice (some ⟨go, 0, none⟩) t.no c3, .slice (some ⟨gp, 0, none⟩) t.np c4, .slice Bs t.ns ds, .int .i64 t.far, .int .i64 t.harm, .int .i64 t.many]] w13 fun e w' => e = .returned (.tuple #[.int .i64 b1, .int .i64 b2]) ∧ Below w13.heap.size w13 w')).mono ?_
        rintro e w14 ⟨rfl, hb⟩
        have hB14 : Below w13.heap.size w13 w14 := bTrans (Below.refl _ _) hb
        have HD14 := Lib.hid (bTrans HD13.out hB14)
        have HT14 := Lib.hid (HT13.out.mono hB14)
        have HTB14 := Lib.hid (HTB13.out.mono hB14)
        have HNA14 := Lib.hid (HNA13.out.mono hB14)
        have HRB14 := Lib.hid (HRB13.out.mono hB14)
        have HU14 := Lib.hid (HU13.out.mono hB14)
        have HW14 := Lib.hid (HW13.out.mono hB14)
        have HV914 := Lib.hid (HV913.out.mono hB14)
        have HW814 := Lib.hid (HW813.out.mono hB14)
        have HW914 := Lib.hid (HW913.out.mono hB14)
        have T14 := Lib.hid (T13.out.mono hB14)
        have U14 := Lib.hid (U13.out.mono hB14)
        clear hb hB14 HD13 HT13 HTB13 HNA13 HRB13 HU13 HW13 HV913 HW813 HW913 T13 T_0 T_1 T_2 T_3 T_4 T_5 T_6 T_7 T_8 T_l U13 U_0 U_1 U_2 U_3 U_4 U_5 U_6 U_7 U_8 U_l
        obtain ⟨T_0, T_1, T_2, T_3, T_4, T_5, T_6, T_7, T_8, T_l⟩ := T14.out.c9
        obtain ⟨U_0, U_1, U_2, U_3, U_4, U_5, U_6, U_7, U_8, U_l⟩ := U14.out.c9
        go_wp2_with fail
        refine (sameInts_t A8 A9 zf c8 c9 _ _ HZFL.out HW814.out HW914.out).mono ?_
        rintro e w15 ⟨rfl, hb⟩
        have hB15 : Below w14.heap.size w14 w15 := bTrans (Below.refl _ _) hb
        have HD15 := Lib.hid (bTrans HD14.out hB15)
        have HT15 := Lib.hid (HT14.out.mono hB15)
        have HTB15 := Lib.hid (HTB14.out.mono hB15)
        have HNA15 := Lib.hid (HNA14.out.mono hB15)
        have HRB15 := Lib.hid (HRB14.out.mono hB15)
        have HU15 := Lib.hid (HU14.out.mono hB15)
        have HW15 := Lib.hid (HW14.out.mono hB15)
        have HV915 := Lib.hid (HV914.out.mono hB15)
        have HW815 := Lib.hid (HW814.out.mono hB15)
        have HW915 := Lib.hid (HW914.out.mono hB15)
        have T15 := Lib.hid (T14.out.mono hB15)
        have U15 := Lib.hid (U14.out.mono hB15)
        clear hb hB15 HD14 HT14 HTB14 HNA14 HRB14 HU14 HW14 HV914 HW814 HW914 T14 T_0 T_1 T_2 T_3 T_4 T_5 T_6 T_7 T_8 T_l U14 U_0 U_1 U_2 U_3 U_4 U_5 U_6 U_7 U_8 U_l
        obtain ⟨T_0, T_1, T_2, T_3, T_4, T_5, T_6, T_7, T_8, T_l⟩ := T15.out.c9
        obtain ⟨U_0, U_1, U_2, U_3, U_4, U_5, U_6, U_7, U_8, U_l⟩ := U15.out.c9
        go_wp2_with fail
        refine ((by have := cheapestOutP_any Aw Af Ao Ap As cw cf co cp cs t w15 HSM.out HT15.out HTB15.out HNA15.out; rw [HCH.out.1, HCH.out.2] at this; exact this : Calls Tryz.prog 31 #[.agg #[.int .i64 t.q.wells, .slice Aw t.q.nw cw, .slice Af t.q.nf cf, .slice Ao t.no co, .slice Ap t.np cp, .slice As t.ns cs, .int .i64 t.far, .int .i64 t.harm, .int .i64 t.many]] w15 fun e w' => e = .returned (.tuple #[.int .i64 h1, .int .i64 h2]) ∧ Below w15.heap.size w15 w')).mono ?_
        rintro e w16 ⟨rfl, hb⟩
        have hB16 : Below w15.heap.size w15 w16 := bTrans (Below.refl _ _) hb
        have HD16 := Lib.hid (bTrans HD15.out hB16)
        have HT16 := Lib.hid (HT15.out.mono hB16)
        have HTB16 := Lib.hid (HTB15.out.mono hB16)
        have HNA16 := Lib.hid (HNA15.out.mono hB16)
        have HRB16 := Lib.hid (HRB15.out.mono hB16)
        have HU16 := Lib.hid (HU15.out.mono hB16)
        have HW16 := Lib.hid (HW15.out.mono hB16)
        have HV916 := Lib.hid (HV915.out.mono hB16)
        have HW816 := Lib.hid (HW815.out.mono hB16)
        have HW916 := Lib.hid (HW915.out.mono hB16)
        have T16 := Lib.hid (T15.out.mono hB16)
        have U16 := Lib.hid (U15.out.mono hB16)
        clear hb hB16 HD15 HT15 HTB15 HNA15 HRB15 HU15 HW15 HV915 HW815 HW915 T15 T_0 T_1 T_2 T_3 T_4 T_5 T_6 T_7 T_8 T_l U15 U_0 U_1 U_2 U_3 U_4 U_5 U_6 U_7 U_8 U_l
        obtain ⟨T_0, T_1, T_2, T_3, T_4, T_5, T_6, T_7, T_8, T_l⟩ := T16.out.c9
        obtain ⟨U_0, U_1, U_2, U_3, U_4, U_5, U_6, U_7, U_8, U_l⟩ := U16.out.c9
        go_wp2_with fail
        refine ((by have := cheapestOutP_any Bw Bf (some ⟨go, 0, none⟩) (some ⟨gp, 0, none⟩) Bs dw df c3 c4 ds t.mirror w16 HSM2.out HU16.out HTB16.out HNA16.out; rw [mirror_cheapestOut HOK.out, HCH.out.1, HCH.out.2] at this; exact this : Calls Tryz.prog 31 #[.agg #[.int .i64 t.q.wells, .slice Bw t.q.nw dw, .slice Bf t.q.nf df, .slice (some ⟨go, 0, none⟩) t.no c3, .slice (some ⟨gp, 0, none⟩) t.np c4, .slice Bs t.ns ds, .int .i64 t.far, .int .i64 t.harm, .int .i64 t.many]] w16 fun e w' => e = .returned (.tuple #[.int .i64 h1, .int .i64 h2]) ∧ Below w16.heap.size w16 w')).mono ?_
        rintro e w17 ⟨rfl, hb⟩
        have hB17 : Below w16.heap.size w16 w17 := bTrans (Below.refl _ _) hb
        have HD17 := Lib.hid (bTrans HD16.out hB17)
        have HT17 := Lib.hid (HT16.out.mono hB17)
        have HTB17 := Lib.hid (HTB16.out.mono hB17)
        have HNA17 := Lib.hid (HNA16.out.mono hB17)
        have HRB17 := Lib.hid (HRB16.out.mono hB17)
        have HU17 := Lib.hid (HU16.out.mono hB17)
        have HW17 := Lib.hid (HW16.out.mono hB17)
        have HV917 := Lib.hid (HV916.out.mono hB17)
        have HW817 := Lib.hid (HW816.out.mono hB17)
        have HW917 := Lib.hid (HW916.out.mono hB17)
        have T17 := Lib.hid (T16.out.mono hB17)
        have U17 := Lib.hid (U16.out.mono hB17)
        clear hb hB17 HD16 HT16 HTB16 HNA16 HRB16 HU16 HW16 HV916 HW816 HW916 T16 T_0 T_1 T_2 T_3 T_4 T_5 T_6 T_7 T_8 T_l U16 U_0 U_1 U_2 U_3 U_4 U_5 U_6 U_7 U_8 U_l
        obtain ⟨T_0, T_1, T_2, T_3, T_4, T_5, T_6, T_7, T_8, T_l⟩ := T17.out.c9
        obtain ⟨U_0, U_1, U_2, U_3, U_4, U_5, U_6, U_7, U_8, U_l⟩ := U17.out.c9
        go_wp2_with fail
        refine ((by have := pairP_any Aw Af Ao Ap As cw cf co cp cs t w17 HSM.out HT17.out HTB17.out HNA17.out; rw [HPO.out.1, HPO.out.2.1, HPO.out.2.2] at this; exact this : Calls Tryz.prog 32 #[.agg #[.int .i64 t.q.wells, .slice Aw t.q.nw cw, .slice Af t.q.nf cf, .slice Ao t.no co, .slice Ap t.np cp, .slice As t.ns cs, .int .i64 t.far, .int .i64 t.harm, .int .i64 t.many]] w17 fun e w' => e = .returned (.tuple #[.int .i64 p1, .int .i64 p2, .int .i64 p3]) ∧ Below w17.heap.size w17 w')).mono ?_
        rintro e w18 ⟨rfl, hb⟩
        have hB18 : Below w17.heap.size w17 w18 := bTrans (Below.refl _ _) hb
        have HD18 := Lib.hid (bTrans HD17.out hB18)
        have HT18 := Lib.hid (HT17.out.mono hB18)
        have HTB18 := Lib.hid (HTB17.out.mono hB18)
        have HNA18 := Lib.hid (HNA17.out.mono hB18)
        have HRB18 := Lib.hid (HRB17.out.mono hB18)
        have HU18 := Lib.hid (HU17.out.mono hB18)
        have HW18 := Lib.hid (HW17.out.mono hB18)
        have HV918 := Lib.hid (HV917.out.mono hB18)
        have HW818 := Lib.hid (HW817.out.mono hB18)
        have HW918 := Lib.hid (HW917.out.mono hB18)
        have T18 := Lib.hid (T17.out.mono hB18)
        have U18 := Lib.hid (U17.out.mono hB18)
        clear hb hB18 HD17 HT17 HTB17 HNA17 HRB17 HU17 HW17 HV917 HW817 HW917 T17 T_0 T_1 T_2 T_3 T_4 T_5 T_6 T_7 T_8 T_l U17 U_0 U_1 U_2 U_3 U_4 U_5 U_6 U_7 U_8 U_l
        obtain ⟨T_0, T_1, T_2, T_3, T_4, T_5, T_6, T_7, T_8, T_l⟩ := T18.out.c9
        obtain ⟨U_0, U_1, U_2, U_3, U_4, U_5, U_6, U_7, U_8, U_l⟩ := U18.out.c9
        go_wp2_with fail
        refine ((by have := pairP_any Bw Bf (some ⟨go, 0, none⟩) (some ⟨gp, 0, none⟩) Bs dw df c3 c4 ds t.mirror w18 HSM2.out HU18.out HTB18.out HNA18.out; rw [mirror_pairOut HOK.out, HPO.out.1, HPO.out.2.1, HPO.out.2.2] at this; exact this : Calls Tryz.prog 32 #[.agg #[.int .i64 t.q.wells, .slice Bw t.q.nw dw, .slice Bf t.q.nf df, .slice (some ⟨go, 0, none⟩) t.no c3, .slice (some ⟨gp, 0, none⟩) t.np c4, .slice Bs t.ns ds, .int .i64 t.far, .int .i64 t.harm, .int .i64 t.many]] w18 fun e w' => e = .returned (.tuple #[.int .i64 p1, .int .i64 p2, .int .i64 p3]) ∧ Below w18.heap.size w18 w')).mono ?_
        rintro e w19 ⟨rfl, hb⟩
        have hB19 : Below w18.heap.size w18 w19 := bTrans (Below.refl _ _) hb
        have HD19 := Lib.hid (bTrans HD18.out hB19)
        have HT19 := Lib.hid (HT18.out.mono hB19)
        have HTB19 := Lib.hid (HTB18.out.mono hB19)
        have HNA19 := Lib.hid (HNA18.out.mono hB19)
        have HRB19 := Lib.hid (HRB18.out.mono hB19)
        have HU19 := Lib.hid (HU18.out.mono hB19)
        have HW19 := Lib.hid (HW18.out.mono hB19)
        have HV919 := Lib.hid (HV918.out.mono hB19)
        have HW819 := Lib.hid (HW818.out.mono hB19)
        have HW919 := Lib.hid (HW918.out.mono hB19)
        have T19 := Lib.hid (T18.out.mono hB19)
        have U19 := Lib.hid (U18.out.mono hB19)
        clear hb hB19 HD18 HT18 HTB18 HNA18 HRB18 HU18 HW18 HV918 HW818 HW918 T18 T_0 T_1 T_2 T_3 T_4 T_5 T_6 T_7 T_8 T_l U18 U_0 U_1 U_2 U_3 U_4 U_5 U_6 U_7 U_8 U_l
        obtain ⟨T_0, T_1, T_2, T_3, T_4, T_5, T_6, T_7, T_8, T_l⟩ := T19.out.c9
        obtain ⟨U_0, U_1, U_2, U_3, U_4, U_5, U_6, U_7, U_8, U_l⟩ := U19.out.c9
        go_wp2_with fail
        refine (works9_any _ HTB19.out HNA19.out).mono ?_
        rintro e w20 ⟨rfl, hb⟩
        have hB20 : Below w19.heap.size w19 w20 := bTrans (Below.refl _ _) hb
        have HD20 := Lib.hid (bTrans HD19.out hB20)
        have HT20 := Lib.hid (HT19.out.mono hB20)
        have HTB20 := Lib.hid (HTB19.out.mono hB20)
        have HNA20 := Lib.hid (HNA19.out.mono hB20)
        have HRB20 := Lib.hid (HRB19.out.mono hB20)
        have HU20 := Lib.hid (HU19.out.mono hB20)
        have HW20 := Lib.hid (HW19.out.mono hB20)
        have HV920 := Lib.hid (HV919.out.mono hB20)
        have HW820 := Lib.hid (HW819.out.mono hB20)
        have HW920 := Lib.hid (HW919.out.mono hB20)
        have T20 := Lib.hid (T19.out.mono hB20)
        have U20 := Lib.hid (U19.out.mono hB20)
        clear hb hB20 HD19 HT19 HTB19 HNA19 HRB19 HU19 HW19 HV919 HW819 HW919 T19 T_0 T_1 T_2 T_3 T_4 T_5 T_6 T_7 T_8 T_l U19 U_0 U_1 U_2 U_3 U_4 U_5 U_6 U_7 U_8 U_l
        obtain ⟨T_0, T_1, T_2, T_3, T_4, T_5, T_6, T_7, T_8, T_l⟩ := T20.out.c9
        obtain ⟨U_0, U_1, U_2, U_3, U_4, U_5, U_6, U_7, U_8, U_l⟩ := U20.out.c9
        go_wp2_with fail
        go_ret
        exact ⟨rfl, HD20.out⟩
end Go.Proofs.YthnojgdckkdcgaaGreatDoor

