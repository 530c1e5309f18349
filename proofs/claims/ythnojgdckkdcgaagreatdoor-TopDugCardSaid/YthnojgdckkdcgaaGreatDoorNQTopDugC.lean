/- Parts joined: what the claim TopDug needs beyond the others. -/
import Derived.Test.YthnojgdckkdcgaaGreatDoorNQTopDugB
set_option linter.unusedSimpArgs false
set_option linter.unusedVariables false
namespace Go.Proofs.YthnojgdckkdcgaaGreatDoor
open Go.RowKit Go.Sort
theorem Next_at9 {S : Sh} {r x y : Int} (h : S.nextOut r = (x, y)) (Ar Af : Option Addr) (cr cf : Nat) (w : World) (hr : S.nr ≤ 9223372036854775807) (hf : S.nf ≤ 9223372036854775807) (hcap : S.nf ≤ cf) (hcf : cf ≤ 9223372036854775807) (hnil : Af = none → S.nf = 0 ∧ cf = 0) (hS : ShAt w Ar Af S) (hN : NoneAt w) :
    Calls Tryz.prog 38 #[.agg #[.slice Ar S.nr cr, .slice Af S.nf cf, .int .i64 S.deep, .int .i64 S.haul, .int .i64 S.rest], .int .i64 r] w fun e w' => e = .returned (.tuple #[.int .i64 x, .int .i64 y]) ∧ Below w.heap.size w w' := by
  have := Next_any Ar Af cr cf S r w hr hf hcap hcf hnil hS hN
  rw [h] at this
  exact this
theorem told_chain9 {w : World} {N : Nat} {u : Pt} {A1 A2 A3 A4 A5 : Option Addr} {c1 c2 c3 c4 c5 : Nat} (h : CopyAt9 w N (.slice A1 u.q.nw c1) (.slice A2 u.q.nf c2) (.slice A3 u.no c3) (.slice A4 u.np c4) (.slice A5 u.ns c5) u) : PAt w A1 A2 A3 A4 A5 u := by
  obtain ⟨a1, d1, a2, d2, a3, d3, a4, d4, a5, d5, e1, e2, e3, e4, e5, hU⟩ := h.pat
  simp only [Value.slice.injEq, true_and] at e1 e2 e3 e4 e5
  obtain ⟨rfl, rfl⟩ := e1
  obtain ⟨rfl, rfl⟩ := e2
  obtain ⟨rfl, rfl⟩ := e3
  obtain ⟨rfl, rfl⟩ := e4
  obtain ⟨rfl, rfl⟩ := e5
  exact hU
set_option maxHeartbeats 40000000 in
set_option maxRecDepth 100000 in
theorem topDug_any (Aw Af Ao Ap As : Option Addr) (cw cf co cp cs : Nat) (t : Pt) (sp rk : Int) (w : World) (hs : t.Fits) (hT : PAt w Aw Af Ao Ap As t) (hB : TabAt w) (hN : NoneAt w) (hFe : FeetAt w As t.ns) :
    Calls Tryz.prog 5 #[.agg #[.int .i64 t.q.wells, .slice Aw t.q.nw cw, .slice Af t.q.nf cf, .slice Ao t.no co, .slice Ap t.np cp, .slice As t.ns cs, .int .i64 t.far, .int .i64 t.harm, .int .i64 t.many], .int .i64 sp, .int .i64 rk] w fun e w' => e = .returned (.bool true) ∧ Below w.heap.size w w' := by
  have HD0 := Lib.hid (Below.refl w.heap.size w)
  have HFI := Lib.hid hs
  have HT0 := Lib.hid hT
  have HTB0 := Lib.hid hB
  have HNA0 := Lib.hid hN
  have HFE0 := Lib.hid hFe
  clear hs hT hB hN hFe
  go_enter Tryz.func5, Tryz.ntmps5
  have HSM := Lib.hid HFI.out.small
  go_wp2_with fail
  refine (far9_any Aw Af Ao Ap As cw cf co cp cs t _ HSM.out (HT0.out.mono (bAlloc (Below.refl _ _) (.cells #[.int .i64 t.q.wells, .slice Aw t.q.nw cw, .slice Af t.q.nf cf, .slice Ao t.no co, .slice Ap t.np cp, .slice As t.ns cs, .int .i64 t.far, .int .i64 t.harm, .int .i64 t.many] 62)))).mono ?_
  rintro e w1 ⟨⟨bf, rfl⟩, hb⟩
  have hB1 : Below w.heap.size w w1 := bTrans (bAlloc (Below.refl _ _) (.cells #[.int .i64 t.q.wells, .slice Aw t.q.nw cw, .slice Af t.q.nf cf, .slice Ao t.no co, .slice Ap t.np cp, .slice As t.ns cs, .int .i64 t.far, .int .i64 t.harm, .int .i64 t.many] 62)) hb
  have HD1 := Lib.hid (bTrans HD0.out hB1)
  have HT1 := Lib.hid (HT0.out.mono hB1)
  have HTB1 := Lib.hid (HTB0.out.mono hB1)
  have HNA1 := Lib.hid (HNA0.out.mono hB1)
  have HFE1 := Lib.hid (HFE0.out.mono hB1)
  have T1 := Lib.hid (show TBox w1 w.heap.size 62 #[.int .i64 t.q.wells, .slice Aw t.q.nw cw, .slice Af t.q.nf cf, .slice Ao t.no co, .slice Ap t.np cp, .slice As t.ns cs, .int .i64 t.far, .int .i64 t.harm, .int .i64 t.many] from by have := ((TBox.new w #[.int .i64 t.q.wells, .slice Aw t.q.nw cw, .slice Af t.q.nf cf, .slice Ao t.no co, .slice Ap t.np cp, .slice As t.ns cs, .int .i64 t.far, .int .i64 t.harm, .int .i64 t.many] 62).mono (Below.refl _ _)).mono hb; simpa using this)
  clear hb hB1 HD0 HT0 HTB0 HNA0 HFE0
  obtain ⟨T_0, T_1, T_2, T_3, T_4, T_5, T_6, T_7, T_8, T_l⟩ := T1.out.c9
  cases bf
  case true =>
    go_wp2_with fail
    refine (dug_any _ HTB1.out HNA1.out).mono ?_
    rintro e w2 ⟨rfl, hb⟩
    have hB2 : Below w1.heap.size w1 w2 := bTrans (Below.refl _ _) hb
    have HD2 := Lib.hid (bTrans HD1.out hB2)
    have HT2 := Lib.hid (HT1.out.mono hB2)
    have HTB2 := Lib.hid (HTB1.out.mono hB2)
    have HNA2 := Lib.hid (HNA1.out.mono hB2)
    have HFE2 := Lib.hid (HFE1.out.mono hB2)
    have T2 := Lib.hid (T1.out.mono hB2)
    clear hb hB2 HD1 HT1 HTB1 HNA1 HFE1 T1 T_0 T_1 T_2 T_3 T_4 T_5 T_6 T_7 T_8 T_l
    obtain ⟨T_0, T_1, T_2, T_3, T_4, T_5, T_6, T_7, T_8, T_l⟩ := T2.out.c9
    go_wp2_with fail
    go_ret
    exact ⟨rfl, HD2.out⟩
  go_wp2_with fail
  refine (check9_any Aw Af Ao Ap As cw cf co cp cs t _ HSM.out HT1.out).mono ?_
  rintro e w2 ⟨rfl, hb⟩
  have hB2 : Below w1.heap.size w1 w2 := bTrans (Below.refl _ _) hb
  have HD2 := Lib.hid (bTrans HD1.out hB2)
  have HT2 := Lib.hid (HT1.out.mono hB2)
  have HTB2 := Lib.hid (HTB1.out.mono hB2)
  have HNA2 := Lib.hid (HNA1.out.mono hB2)
  have HFE2 := Lib.hid (HFE1.out.mono hB2)
  have T2 := Lib.hid (T1.out.mono hB2)
  clear hb hB2 HD1 HT1 HTB1 HNA1 HFE1 T1 T_0 T_1 T_2 T_3 T_4 T_5 T_6 T_7 T_8 T_l
  obtain ⟨T_0, T_1, T_2, T_3, T_4, T_5, T_6, T_7, T_8, T_l⟩ := T2.out.c9
  by_cases hok : t.Ok
  case neg =>
    rw [Pt.err_bad hok]
    clear hok
    go_wp2_with fail
    refine (dug_any _ HTB2.out HNA2.out).mono ?_
    rintro e w3 ⟨rfl, hb⟩
    have hB3 : Below w2.heap.size w2 w3 := bTrans (Below.refl _ _) hb
    have HD3 := Lib.hid (bTrans HD2.out hB3)
    have HT3 := Lib.hid (HT2.out.mono hB3)
    have HTB3 := Lib.hid (HTB2.out.mono hB3)
    have HNA3 := Lib.hid (HNA2.out.mono hB3)
    have HFE3 := Lib.hid (HFE2.out.mono hB3)
    have T3 := Lib.hid (T2.out.mono hB3)
    clear hb hB3 HD2 HT2 HTB2 HNA2 HFE2 T2 T_0 T_1 T_2 T_3 T_4 T_5 T_6 T_7 T_8 T_l
    obtain ⟨T_0, T_1, T_2, T_3, T_4, T_5, T_6, T_7, T_8, T_l⟩ := T3.out.c9
    go_wp2_with fail
    go_ret
    exact ⟨rfl, HD3.out⟩
  rw [Pt.err_ok hok]
  have HOK := Lib.hid hok
  clear hok
  go_wp2_with fail
  obtain ⟨bb, hbb⟩ : ∃ b, t.hasB sp = b := ⟨_, rfl⟩
  refine (hbb ▸ isSpotN9_any Aw Af Ao Ap As cw cf co cp cs t sp _ HSM.out.ns).mono ?_
  rintro e w3 ⟨rfl, hb⟩
  have hB3 : Below w2.heap.size w2 w3 := bTrans (Below.refl _ _) hb
  have HD3 := Lib.hid (bTrans HD2.out hB3)
  have HT3 := Lib.hid (HT2.out.mono hB3)
  have HTB3 := Lib.hid (HTB2.out.mono hB3)
  have HNA3 := Lib.hid (HNA2.out.mono hB3)
  have HFE3 := Lib.hid (HFE2.out.mono hB3)
  have T3 := Lib.hid (T2.out.mono hB3)
  clear hb hB3 HD2 HT2 HTB2 HNA2 HFE2 T2 T_0 T_1 T_2 T_3 T_4 T_5 T_6 T_7 T_8 T_l
  obtain ⟨T_0, T_1, T_2, T_3, T_4, T_5, T_6, T_7, T_8, T_l⟩ := T3.out.c9
  cases bb
  case false =>
    clear hbb
    go_wp2_with fail
    refine (dug_any _ HTB3.out HNA3.out).mono ?_
    rintro e w4 ⟨rfl, hb⟩
    have hB4 : Below w3.heap.size w3 w4 := bTrans (Below.refl _ _) hb
    have HD4 := Lib.hid (bTrans HD3.out hB4)
    have HT4 := Lib.hid (HT3.out.mono hB4)
    have HTB4 := Lib.hid (HTB3.out.mono hB4)
    have HNA4 := Lib.hid (HNA3.out.mono hB4)
    have HFE4 := Lib.hid (HFE3.out.mono hB4)
    have T4 := Lib.hid (T3.out.mono hB4)
    clear hb hB4 HD3 HT3 HTB3 HNA3 HFE3 T3 T_0 T_1 T_2 T_3 T_4 T_5 T_6 T_7 T_8 T_l
    obtain ⟨T_0, T_1, T_2, T_3, T_4, T_5, T_6, T_7, T_8, T_l⟩ := T4.out.c9
    go_wp2_with fail
    go_ret
    exact ⟨rfl, HD4.out⟩
  have hn := hasB_iff.1 hbb
  obtain ⟨i, rfl⟩ : ∃ i : Nat, sp = (i : Int) := ⟨sp.toNat, by omega⟩
  have HI := Lib.hid (show i < t.ns by omega)
  clear hn hbb
  obtain ⟨b, o, Ar, Af2, Ax, cr, cf2, cx, hA, hb7, hsh, _, s0, s1, s2, s3, s4, s5, s6⟩ := HT3.out.spots.get HI.out
  obtain ⟨x, hxx⟩ : ∃ x, t.spot i = x := ⟨_, rfl⟩
  have HXX := Lib.hid hxx
  have HXF := Lib.hid (show x.Fits from hxx ▸ HFI.out.spot i HI.out)
  have HXS := Lib.hid (show x.sh.Ok from hxx ▸ (HOK.out.spot i HI.out).sh)
  rw [hxx] at s0 s1 s2 s3 s4 s5 s6 hsh
  have HSC3 := Lib.hid (show SpotC w3 b (o + i * 7) Ar Af2 Ax cr cf2 cx x from ⟨hb7, hsh, s0, s1, s2, s3, s4, s5, s6⟩)
  have HFT3 := Lib.hid (show SliceIn Af2 x.sh.nf cf2 by
    obtain ⟨A9, n9, c9, h1, h2⟩ := HFE3.out b o hA i HI.out
    rw [s2] at h1
    injection h1 with h1
    injection h1 with q1 q2 q3
    subst q1 q2 q3
    exact h2)
  subst hA
  clear hsh hxx
  have HFT := Lib.hid HFT3.out
  clear HFT3
  go_wp2_with fail
  obtain ⟨rb, hrb⟩ : ∃ b, inR rk 0 ((x.sh.nr : Int) - 1) = b := ⟨_, rfl⟩
  have HRB := Lib.hid hrb
  clear hrb
  refine (isRock_b Ar Af2 cr cf2 x.sh rk rb HRB.out _ (by have := HXF.out.nr; omega)).mono ?_
  rintro e w4 ⟨rfl, hb⟩
  have hB4 : Below w3.heap.size w3 w4 := bTrans (Below.refl _ _) hb
  have HD4 := Lib.hid (bTrans HD3.out hB4)
  have HT4 := Lib.hid (HT3.out.mono hB4)
  have HTB4 := Lib.hid (HTB3.out.mono hB4)
  have HNA4 := Lib.hid (HNA3.out.mono hB4)
  have HFE4 := Lib.hid (HFE3.out.mono hB4)
  have HSC4 := Lib.hid (HSC3.out.mono hB4)
  have T4 := Lib.hid (T3.out.mono hB4)
  clear hb hB4 HD3 HT3 HTB3 HNA3 HFE3 HSC3 T3 T_0 T_1 T_2 T_3 T_4 T_5 T_6 T_7 T_8 T_l
  obtain ⟨T_0, T_1, T_2, T_3, T_4, T_5, T_6, T_7, T_8, T_l⟩ := T4.out.c9
  clear hb7 s0 s1 s2 s3 s4 s5 s6
  cases rb
  case false =>
    go_wp2_with fail
    refine (dug_any _ HTB4.out HNA4.out).mono ?_
    rintro e w5 ⟨rfl, hb⟩
    have hB5 : Below w4.heap.size w4 w5 := bTrans (Below.refl _ _) hb
    have HD5 := Lib.hid (bTrans HD4.out hB5)
    have HT5 := Lib.hid (HT4.out.mono hB5)
    have HTB5 := Lib.hid (HTB4.out.mono hB5)
    have HNA5 := Lib.hid (HNA4.out.mono hB5)
    have HFE5 := Lib.hid (HFE4.out.mono hB5)
    have HSC5 := Lib.hid (HSC4.out.mono hB5)
    have T5 := Lib.hid (T4.out.mono hB5)
    clear hb hB5 HD4 HT4 HTB4 HNA4 HFE4 HSC4 T4 T_0 T_1 T_2 T_3 T_4 T_5 T_6 T_7 T_8 T_l
    obtain ⟨T_0, T_1, T_2, T_3, T_4, T_5, T_6, T_7, T_8, T_l⟩ := T5.out.c9
    go_wp2_with fail
    go_ret
    exact ⟨rfl, HD5.out⟩
  obtain ⟨hb7, _, s0, s1, s2, s3, s4, s5, s6⟩ := HSC4.out
  by_cases hnf : 5 < x.sh.nf
  case pos =>
    have hn1 : (5 : Int) < (x.sh.nf : Int) := by omega
    have hn2 : decide ((x.sh.nf : Int) > 5) = true := by simp; omega
    go_wp2_with fail
    clear hb7 s0 s1 s2 s3 s4 s5 s6
    refine (dug_any _ HTB4.out HNA4.out).mono ?_
    rintro e w5 ⟨rfl, hb⟩
    have hB5 : Below w4.heap.size w4 w5 := bTrans (Below.refl _ _) hb
    have HD5 := Lib.hid (bTrans HD4.out hB5)
    have HT5 := Lib.hid (HT4.out.mono hB5)
    have HTB5 := Lib.hid (HTB4.out.mono hB5)
    have HNA5 := Lib.hid (HNA4.out.mono hB5)
    have HFE5 := Lib.hid (HFE4.out.mono hB5)
    have HSC5 := Lib.hid (HSC4.out.mono hB5)
    have T5 := Lib.hid (T4.out.mono hB5)
    clear hb hB5 HD4 HT4 HTB4 HNA4 HFE4 HSC4 T4 T_0 T_1 T_2 T_3 T_4 T_5 T_6 T_7 T_8 T_l
    obtain ⟨T_0, T_1, T_2, T_3, T_4, T_5, T_6, T_7, T_8, T_l⟩ := T5.out.c9
    go_wp2_with fail
    go_ret
    exact ⟨rfl, HD5.out⟩
  have H5 := Lib.hid (show x.sh.nf ≤ 5 by omega)
  have hn1 : ¬ (5 : Int) < (x.sh.nf : Int) := by omega
  have hn2 : decide ((x.sh.nf : Int) > 5) = false := by simp; omega
  have hn3 : decide ((5 : Int) < (x.sh.nf : Int)) = false := by simp; omega
  go_wp2_with fail
  clear hn1 hn2 hn3 hnf
  refine (copy9_any Aw Af Ao Ap (some ⟨b, o, none⟩) cw cf co cp cs t _ HFI.out HT4.out).mono ?_
  rintro e w5 ⟨ho, hb⟩
  have hcb := hb
  obtain ⟨_, _, _, _, _, rfl, hc⟩ := ho
  obtain ⟨Bw, dw, Bf, df, Bo, do_, Bp, dp, Bs, ds, rfl, rfl, rfl, rfl, rfl, hU⟩ := hc.pat
  obtain ⟨us, hown, hrows⟩ := hc.spots
  obtain ⟨g, Br, Bf2, Bx, dr, df2, dx, hG, hg1, ⟨cur, hg2⟩, hsk, u0, u1, u2, u3, u4, u5, u6⟩ := own_spot hown hrows HI.out
  rw [HXX.out] at hsk u0 u1 u2 u3 u4 u5 u6
  subst hG
  have hB5 : Below w4.heap.size w4 w5 := bTrans (Below.refl _ _) hb
  have HD5 := Lib.hid (bTrans HD4.out hB5)
  have HT5 := Lib.hid (HT4.out.mono hB5)
  have HTB5 := Lib.hid (HTB4.out.mono hB5)
  have HNA5 := Lib.hid (HNA4.out.mono hB5)
  have HFE5 := Lib.hid (HFE4.out.mono hB5)
  have HSC5 := Lib.hid (HSC4.out.mono hB5)
  have HC5 := Lib.hid (hc)
  have HSK5 := Lib.hid (hsk)
  have HGT5 := Lib.hid (hg2)
  have HRB5 := Lib.hid ((show Upto w4 w5 from hcb))
  have T5 := Lib.hid (T4.out.mono hB5)
  clear hb hB5 T_0 T_1 T_2 T_3 T_4 T_5 T_6 T_7 T_8 T_l
  obtain ⟨T_0, T_1, T_2, T_3, T_4, T_5, T_6, T_7, T_8, T_l⟩ := T5.out.c9
  have HV5 := Lib.hid hown
  have HR5 := Lib.hid hrows
  have HG1 := Lib.hid hg1
  have hgl : g < w5.heap.size := hg2.lt
  clear hown hrows hsk hg1 hc hU hg2 hcb
  clear hb7 s0 s1 s2 s3 s4 s5 s6
  go_wp2_with fail
  have hshB : ShAt ((w5.alloc (.cells #[.int .i64 t.q.wells, .slice Bw t.q.nw dw, .slice Bf t.q.nf df, .slice Bo t.no do_, .slice Bp t.np dp, .slice (some ⟨g, 0, none⟩) t.ns ds, .int .i64 t.far, .int .i64 t.harm, .int .i64 t.many] 62)).alloc (.cells #[.int .i64 x.at_, .slice Br x.sh.nr dr, .slice Bf2 x.sh.nf df2, .int .i64 x.sh.deep, .int .i64 x.sh.haul, .int .i64 x.sh.rest, .slice Bx x.fl.n dx] 71)) Br Bf2 x.sh := by obtain ⟨_, _, _, _, _, e, h1, h2, _⟩ := (HSK5.out.mono (bAlloc (bAlloc (Below.refl _ _) (.cells #[.int .i64 t.q.wells, .slice Bw t.q.nw dw, .slice Bf t.q.nf df, .slice Bo t.no do_, .slice Bp t.np dp, .slice (some ⟨g, 0, none⟩) t.ns ds, .int .i64 t.far, .int .i64 t.harm, .int .i64 t.many] 62)) (.cells #[.int .i64 x.at_, .slice Br x.sh.nr dr, .slice Bf2 x.sh.nf df2, .int .i64 x.sh.deep, .int .i64 x.sh.haul, .int .i64 x.sh.rest, .slice Bx x.fl.n dx] 71))); simp only [List.cons.injEq, Value.slice.injEq, true_and, and_true] at e; obtain ⟨⟨rfl, rfl⟩, ⟨rfl, rfl⟩, rfl⟩ := e; exact ⟨rocksAt_row.2 h1.row, intsAt_row.2 h2.row⟩
  have HSB5 := Lib.hid hshB
  clear hshB
  have HGL9 := Lib.hid hgl
  obtain ⟨S2, hS2⟩ : ∃ y, x.sh.more rk = y := ⟨_, rfl⟩
  have HS2 := Lib.hid hS2
  clear hS2
  refine ((by have := moreSh_any Br Bf2 dr df2 x.sh rk ((w5.alloc (.cells #[.int .i64 t.q.wells, .slice Bw t.q.nw dw, .slice Bf t.q.nf df, .slice Bo t.no do_, .slice Bp t.np dp, .slice (some ⟨g, 0, none⟩) t.ns ds, .int .i64 t.far, .int .i64 t.harm, .int .i64 t.many] 62)).alloc (.cells #[.int .i64 x.at_, .slice Br x.sh.nr dr, .slice Bf2 x.sh.nf df2, .int .i64 x.sh.deep, .int .i64 x.sh.haul, .int .i64 x.sh.rest, .slice Bx x.fl.n dx] 71)) HXF.out.nr HXF.out.nf HSB5.out; rw [HS2.out] at this; exact this : Calls Tryz.prog 37 #[.agg #[.slice Br x.sh.nr dr, .slice Bf2 x.sh.nf df2, .int .i64 x.sh.deep, .int .i64 x.sh.haul, .int .i64 x.sh.rest], .int .i64 rk] ((w5.alloc (.cells #[.int .i64 t.q.wells, .slice Bw t.q.nw dw, .slice Bf t.q.nf df, .slice Bo t.no do_, .slice Bp t.np dp, .slice (some ⟨g, 0, none⟩) t.ns ds, .int .i64 t.far, .int .i64 t.harm, .int .i64 t.many] 62)).alloc (.cells #[.int .i64 x.at_, .slice Br x.sh.nr dr, .slice Bf2 x.sh.nf df2, .int .i64 x.sh.deep, .int .i64 x.sh.haul, .int .i64 x.sh.rest, .slice Bx x.fl.n dx] 71)) fun e w' => ShMore w' S2 e ∧ Below ((w5.alloc (.cells #[.int .i64 t.q.wells, .slice Bw t.q.nw dw, .slice Bf t.q.nf df, .slice Bo t.no do_, .slice Bp t.np dp, .slice (some ⟨g, 0, none⟩) t.ns ds, .int .i64 t.far, .int .i64 t.harm, .int .i64 t.many] 62)).alloc (.cells #[.int .i64 x.at_, .slice Br x.sh.nr dr, .slice Bf2 x.sh.nf df2, .int .i64 x.sh.deep, .int .i64 x.sh.haul, .int .i64 x.sh.rest, .slice Bx x.fl.n dx] 71)).heap.size ((w5.alloc (.cells #[.int .i64 t.q.wells, .slice Bw t.q.nw dw, .slice Bf t.q.nf df, .slice Bo t.no do_, .slice Bp t.np dp, .slice (some ⟨g, 0, none⟩) t.ns ds, .int .i64 t.far, .int .i64 t.harm, .int .i64 t.many] 62)).alloc (.cells #[.int .i64 x.at_, .slice Br x.sh.nr dr, .slice Bf2 x.sh.nf df2, .int .i64 x.sh.deep, .int .i64 x.sh.haul, .int .i64 x.sh.rest, .slice Bx x.fl.n dx] 71)) w')).mono ?_
  rintro e w6 ⟨⟨Cr, Cf, er, ef, rfl, hcr, hcf⟩, hb⟩
  have hbm := bTrans (bAlloc (Below.refl (w5.alloc (.cells #[.int .i64 t.q.wells, .slice Bw t.q.nw dw, .slice Bf t.q.nf df, .slice Bo t.no do_, .slice Bp t.np dp, .slice (some ⟨g, 0, none⟩) t.ns ds, .int .i64 t.far, .int .i64 t.harm, .int .i64 t.many] 62)).heap.size (w5.alloc (.cells #[.int .i64 t.q.wells, .slice Bw t.q.nw dw, .slice Bf t.q.nf df, .slice Bo t.no do_, .slice Bp t.np dp, .slice (some ⟨g, 0, none⟩) t.ns ds, .int .i64 t.far, .int .i64 t.harm, .int .i64 t.many] 62))) (.cells #[.int .i64 x.at_, .slice Br x.sh.nr dr, .slice Bf2 x.sh.nf df2, .int .i64 x.sh.deep, .int .i64 x.sh.haul, .int .i64 x.sh.rest, .slice Bx x.fl.n dx] 71)) hb
  have HBM := Lib.hid (show Below (w5.alloc (.cells #[.int .i64 t.q.wells, .slice Bw t.q.nw dw, .slice Bf t.q.nf df, .slice Bo t.no do_, .slice Bp t.np dp, .slice (some ⟨g, 0, none⟩) t.ns ds, .int .i64 t.far, .int .i64 t.harm, .int .i64 t.many] 62)).heap.size (w5.alloc (.cells #[.int .i64 t.q.wells, .slice Bw t.q.nw dw, .slice Bf t.q.nf df, .slice Bo t.no do_, .slice Bp t.np dp, .slice (some ⟨g, 0, none⟩) t.ns ds, .int .i64 t.far, .int .i64 t.harm, .int .i64 t.many] 62)) w6 from hbm)
  clear hbm
  have hB6 : Below w5.heap.size w5 w6 := bTrans (bAlloc (bAlloc (Below.refl _ _) (.cells #[.int .i64 t.q.wells, .slice Bw t.q.nw dw, .slice Bf t.q.nf df, .slice Bo t.no do_, .slice Bp t.np dp, .slice (some ⟨g, 0, none⟩) t.ns ds, .int .i64 t.far, .int .i64 t.harm, .int .i64 t.many] 62)) (.cells #[.int .i64 x.at_, .slice Br x.sh.nr dr, .slice Bf2 x.sh.nf df2, .int .i64 x.sh.deep, .int .i64 x.sh.haul, .int .i64 x.sh.rest, .slice Bx x.fl.n dx] 71)) hb
  have HD6 := Lib.hid (bTrans HD5.out hB6)
  have HT6 := Lib.hid (HT5.out.mono hB6)
  have HTB6 := Lib.hid (HTB5.out.mono hB6)
  have HNA6 := Lib.hid (HNA5.out.mono hB6)
  have HFE6 := Lib.hid (HFE5.out.mono hB6)
  have HSC6 := Lib.hid (HSC5.out.mono hB6)
  have HC6 := Lib.hid (HC5.out.mono hB6)
  have HSK6 := Lib.hid (HSK5.out.mono hB6)
  have HGT6 := Lib.hid (HGT5.out.mono hB6)
  have HRB6 := Lib.hid (HRB5.out.mono hB6)
  have HCR6 := Lib.hid (hcr)
  have HCF6 := Lib.hid (hcf)
  have T6 := Lib.hid (T5.out.mono hB6)
  have U6 := Lib.hid (show TBox w6 w5.heap.size 62 #[.int .i64 t.q.wells, .slice Bw t.q.nw dw, .slice Bf t.q.nf df, .slice Bo t.no do_, .slice Bp t.np dp, .slice (some ⟨g, 0, none⟩) t.ns ds, .int .i64 t.far, .int .i64 t.harm, .int .i64 t.many] from by have := ((TBox.new w5 #[.int .i64 t.q.wells, .slice Bw t.q.nw dw, .slice Bf t.q.nf df, .slice Bo t.no do_, .slice Bp t.np dp, .slice (some ⟨g, 0, none⟩) t.ns ds, .int .i64 t.far, .int .i64 t.harm, .int .i64 t.many] 62).mono (bAlloc (Below.refl _ _) (.cells #[.int .i64 x.at_, .slice Br x.sh.nr dr, .slice Bf2 x.sh.nf df2, .int .i64 x.sh.deep, .int .i64 x.sh.haul, .int .i64 x.sh.rest, .slice Bx x.fl.n dx] 71))).mono hb; simpa using this)
  have S6 := Lib.hid (show TBox w6 (w5.heap.size + 1) 71 #[.int .i64 x.at_, .slice Br x.sh.nr dr, .slice Bf2 x.sh.nf df2, .int .i64 x.sh.deep, .int .i64 x.sh.haul, .int .i64 x.sh.rest, .slice Bx x.fl.n dx] from by have := ((TBox.new (w5.alloc (.cells #[.int .i64 t.q.wells, .slice Bw t.q.nw dw, .slice Bf t.q.nf df, .slice Bo t.no do_, .slice Bp t.np dp, .slice (some ⟨g, 0, none⟩) t.ns ds, .int .i64 t.far, .int .i64 t.harm, .int .i64 t.many] 62)) #[.int .i64 x.at_, .slice Br x.sh.nr dr, .slice Bf2 x.sh.nf df2, .int .i64 x.sh.deep, .int .i64 x.sh.haul, .int .i64 x.sh.rest, .slice Bx x.fl.n dx] 71).mono (Below.refl _ _)).mono hb; simpa using this)
  clear hb hB6 T_0 T_1 T_2 T_3 T_4 T_5 T_6 T_7 T_8 T_l
  obtain ⟨T_0, T_1, T_2, T_3, T_4, T_5, T_6, T_7, T_8, T_l⟩ := T6.out.c9
  obtain ⟨U_0, U_1, U_2, U_3, U_4, U_5, U_6, U_7, U_8, U_l⟩ := U6.out.c9
  obtain ⟨S_0, S_1, S_2, S_3, S_4, S_5, S_6, S_l⟩ := S6.out.c7
  clear hcr hcf hgl u0 u1 u2 u3 u4 u5 u6
  have y1 := S6.out.frozen 1
  have y2 := S6.out.frozen 2
  have y3 := S6.out.frozen 3
  have y4 := S6.out.frozen 4
  have y5 := S6.out.frozen 5
  go_wp2_with (with_reducible refine halt_store ?_)
  refine Halt9.mk ?_
  obtain ⟨w7, hw6⟩ : ∃ y, (((((w6.setCell ⟨(w5.heap.size + 1), 1, none⟩ (.slice Cr S2.nr er)).setCell ⟨(w5.heap.size + 1), 2, none⟩ (.slice Cf S2.nf ef)).setCell ⟨(w5.heap.size + 1), 3, none⟩ (.int .i64 S2.deep)).setCell ⟨(w5.heap.size + 1), 4, none⟩ (.int .i64 S2.haul)).setCell ⟨(w5.heap.size + 1), 5, none⟩ (.int .i64 S2.rest)) = y := ⟨_, rfl⟩
  have htb6 : TBox w7 (w5.heap.size + 1) 71 #[.int .i64 x.at_, .slice Cr S2.nr er, .slice Cf S2.nf ef, .int .i64 S2.deep, .int .i64 S2.haul, .int .i64 S2.rest, .slice Bx x.fl.n dx] := by rw [← hw6]; have := (((((S6.out.set 1 (.slice Cr S2.nr er)).set 2 (.slice Cf S2.nf ef)).set 3 (.int .i64 S2.deep)).set 4 (.int .i64 S2.haul)).set 5 (.int .i64 S2.rest)); exact this
  have hb6 : Below (w5.alloc (.cells #[.int .i64 t.q.wells, .slice Bw t.q.nw dw, .slice Bf t.q.nf df, .slice Bo t.no do_, .slice Bp t.np dp, .slice (some ⟨g, 0, none⟩) t.ns ds, .int .i64 t.far, .int .i64 t.harm, .int .i64 t.many] 62)).heap.size (w5.alloc (.cells #[.int .i64 t.q.wells, .slice Bw t.q.nw dw, .slice Bf t.q.nf df, .slice Bo t.no do_, .slice Bp t.np dp, .slice (some ⟨g, 0, none⟩) t.ns ds, .int .i64 t.far, .int .i64 t.harm, .int .i64 t.many] 62)) w7 := by rw [← hw6]; exact (Below.setCell (p := ⟨(w5.heap.size + 1), 5, none⟩) (Below.setCell (p := ⟨(w5.heap.size + 1), 4, none⟩) (Below.setCell (p := ⟨(w5.heap.size + 1), 3, none⟩) (Below.setCell (p := ⟨(w5.heap.size + 1), 2, none⟩) (Below.setCell (p := ⟨(w5.heap.size + 1), 1, none⟩) HBM.out (by simp) (.slice Cr S2.nr er)) (by simp) (.slice Cf S2.nf ef)) (by simp) (.int .i64 S2.deep)) (by simp) (.int .i64 S2.haul)) (by simp) (.int .i64 S2.rest))
  have ty6 : ∃ cs, TBox w6 (w5.heap.size + 1) 71 cs := ⟨_, S6.out⟩
  have hcr6 : RowK w7 Cr 190 (rockL S2.rock S2.nr) := by
    rw [← hw6]
    repeat with_reducible refine RowK.setTy (t := 71) ?_ ?_ (by decide) _ _
    · with_reducible exact HCR6.out
    all_goals repeat (first | with_reducible refine TyB.set ?_ _ _ _ | with_reducible exact ty6)
  have hcf6 : RowK w7 Cf 3 (intL S2.foot S2.nf) := by
    rw [← hw6]
    repeat with_reducible refine RowK.setTy (t := 71) ?_ ?_ (by decide) _ _
    · with_reducible exact HCF6.out
    all_goals repeat (first | with_reducible refine TyB.set ?_ _ _ _ | with_reducible exact ty6)
  have HW6 := Lib.hid hw6
  clear hw6 ty6
  refine wpList_skip rfl rfl (w'' := w7) (by rw [← HW6.out]; go_simp) ?_
  clear y1 y2 y3 y4 y5 S_0 S_1 S_2 S_3 S_4 S_5 S_6 S_l U_0 U_1 U_2 U_3 U_4 U_5 U_6 U_7 U_8 U_l T_0 T_1 T_2 T_3 T_4 T_5 T_6 T_7 T_8 T_l
  have hb := hb6
  have HB67 := Lib.hid hb6
  clear hb6
  have hB7 : Below w5.heap.size w5 w7 := bTrans (bAlloc (Below.refl _ _) (.cells #[.int .i64 t.q.wells, .slice Bw t.q.nw dw, .slice Bf t.q.nf df, .slice Bo t.no do_, .slice Bp t.np dp, .slice (some ⟨g, 0, none⟩) t.ns ds, .int .i64 t.far, .int .i64 t.harm, .int .i64 t.many] 62)) hb
  have HD7 := Lib.hid (bTrans HD5.out hB7)
  have HT7 := Lib.hid (HT5.out.mono hB7)
  have HTB7 := Lib.hid (HTB5.out.mono hB7)
  have HNA7 := Lib.hid (HNA5.out.mono hB7)
  have HFE7 := Lib.hid (HFE5.out.mono hB7)
  have HSC7 := Lib.hid (HSC5.out.mono hB7)
  have HC7 := Lib.hid (HC5.out.mono hB7)
  have HSK7 := Lib.hid (HSK5.out.mono hB7)
  have HGT7 := Lib.hid (HGT5.out.mono hB7)
  have HRB7 := Lib.hid (HRB5.out.mono hB7)
  have HCR7 := Lib.hid (hcr6)
  have HCF7 := Lib.hid (hcf6)
  have T7 := Lib.hid (T5.out.mono hB7)
  have U7 := Lib.hid (show TBox w7 w5.heap.size 62 #[.int .i64 t.q.wells, .slice Bw t.q.nw dw, .slice Bf t.q.nf df, .slice Bo t.no do_, .slice Bp t.np dp, .slice (some ⟨g, 0, none⟩) t.ns ds, .int .i64 t.far, .int .i64 t.harm, .int .i64 t.many] from by have := ((TBox.new w5 #[.int .i64 t.q.wells, .slice Bw t.q.nw dw, .slice Bf t.q.nf df, .slice Bo t.no do_, .slice Bp t.np dp, .slice (some ⟨g, 0, none⟩) t.ns ds, .int .i64 t.far, .int .i64 t.harm, .int .i64 t.many] 62).mono (Below.refl _ _)).mono hb; simpa using this)
  clear hb hB7
  obtain ⟨T_0, T_1, T_2, T_3, T_4, T_5, T_6, T_7, T_8, T_l⟩ := T7.out.c9
  obtain ⟨U_0, U_1, U_2, U_3, U_4, U_5, U_6, U_7, U_8, U_l⟩ := U7.out.c9
  clear hcr6 hcf6
  have S7 := Lib.hid htb6
  clear htb6
  obtain ⟨S_0, S_1, S_2, S_3, S_4, S_5, S_6, S_l⟩ := S7.out.c7
  have hgt : TBox w7 g 71 cur := HGT7.out
  have hgl : g < w7.heap.size := hgt.lt
  have hgv : g < w5.heap.size := HGL9.out
  obtain ⟨g2, Br2, Bf3, Bx2, dr2, df3, dx2, hG, hq1, hq2, hsk2, u0, u1, u2, u3, u4, u5, u6⟩ := own_spot (owns_below HV5.out (show Below w5.heap.size w5 w7 from bTrans (bAlloc (Below.refl _ _) _) HB67.out)) (HR5.out.mono (bTrans (bAlloc (Below.refl _ _) _) HB67.out)) HI.out
  obtain rfl : g = g2 := by injection hG with hG; injection hG
  rw [HXX.out] at u0 u1 u2 u3 u4 u5 u6
  clear hG hq1 hq2 hsk2
  have z0 := hgt.frozen (i * 7)
  have z1 := hgt.frozen (i * 7 + 1)
  have z2 := hgt.frozen (i * 7 + 2)
  have z3 := hgt.frozen (i * 7 + 3)
  have z4 := hgt.frozen (i * 7 + 4)
  have z5 := hgt.frozen (i * 7 + 5)
  have z6 := hgt.frozen (i * 7 + 6)
  go_wp2_with (with_reducible refine halt_store ?_)
  refine Halt9.mk ?_
  obtain ⟨w20, hw20⟩ : ∃ y, set7 w7 g (i * 7) (.int .i64 x.at_) (.slice Cr S2.nr er) (.slice Cf S2.nf ef) (.int .i64 S2.deep) (.int .i64 S2.haul) (.int .i64 S2.rest) (.slice Bx x.fl.n dx) = y := ⟨_, rfl⟩
  have hsk2 := HSK7.out
  have hsk3 : SpK w7 [.int .i64 x.at_, .slice Cr S2.nr er, .slice Cf S2.nf ef, .int .i64 S2.deep, .int .i64 S2.haul, .int .i64 S2.rest, .slice Bx x.fl.n dx] { t.spot i with sh := S2 } := by
    obtain ⟨_, _, _, _, _, e, _, _, h9⟩ := hsk2
    simp only [List.cons.injEq, Value.slice.injEq, true_and, and_true] at e
    obtain ⟨_, _, rfl⟩ := e
    rw [HXX.out]
    exact ⟨Cr, Cf, er, ef, _, rfl, HCR7.out, HCF7.out, h9⟩
  have hc20 : CopyAt9 w20 w4.heap.size (.slice Bw t.q.nw dw) (.slice Bf t.q.nf df) (.slice Bo t.no do_) (.slice Bp t.np dp) (.slice (some ⟨g, 0, none⟩) t.ns ds) (t.setSh i S2) := by
    rw [← hw20]
    exact CopyAt9.set7 HC7.out (owns_below HV5.out (show Below w5.heap.size w5 w7 from bTrans (bAlloc (Below.refl _ _) _) HB67.out)) (HR5.out.mono (bTrans (bAlloc (Below.refl _ _) _) HB67.out)) HI.out hsk3
  have hu20 : TBox w20 w5.heap.size 62 #[.int .i64 t.q.wells, .slice Bw t.q.nw dw, .slice Bf t.q.nf df, .slice Bo t.no do_, .slice Bp t.np dp, .slice (some ⟨g, 0, none⟩) t.ns ds, .int .i64 t.far, .int .i64 t.harm, .int .i64 t.many] := by
    rw [← hw20]
    exact set7_other U7.out (by have := HGL9.out; omega) _ _ _ _ _ _ _ _
  have hb20 : Below w4.heap.size w4 w20 := by
    rw [← hw20]
    exact set7_below HRB7.out HG1.out _ _ _ _ _ _ _ _
  have HW20 := Lib.hid hw20
  clear hw20 hsk2 hsk3
  refine wpList_skip rfl rfl (w'' := w20) (by rw [← HW20.out]; unfold set7; go_simp) ?_
  clear hgt hgl hgv u0 u1 u2 u3 u4 u5 u6 z0 z1 z2 z3 z4 z5 z6 T_0 T_1 T_2 T_3 T_4 T_5 T_6 T_7 T_8 T_l U_0 U_1 U_2 U_3 U_4 U_5 U_6 U_7 U_8 U_l S_0 S_1 S_2 S_3 S_4 S_5 S_6 S_l
  have hb := hb20
  clear hb20
  have hB20 : Below w4.heap.size w4 w20 := bTrans (Below.refl _ _) hb
  have HD20 := Lib.hid (bTrans HD4.out hB20)
  have HT20 := Lib.hid (HT4.out.mono hB20)
  have HTB20 := Lib.hid (HTB4.out.mono hB20)
  have HNA20 := Lib.hid (HNA4.out.mono hB20)
  have HFE20 := Lib.hid (HFE4.out.mono hB20)
  have HSC20 := Lib.hid (HSC4.out.mono hB20)
  have HU20 := Lib.hid (told_chain9 (u := t.setSh i S2) hc20)
  have T20 := Lib.hid (T4.out.mono hB20)
  clear hb hB20
  obtain ⟨T_0, T_1, T_2, T_3, T_4, T_5, T_6, T_7, T_8, T_l⟩ := T20.out.c9
  clear hc20
  have U20 := Lib.hid hu20
  clear hu20
  obtain ⟨U_0, U_1, U_2, U_3, U_4, U_5, U_6, U_7, U_8, U_l⟩ := U20.out.c9
  obtain ⟨n1, e1, n2, e2, nb, ne, wp, wh, wq, wi, hp1, hp2, hnx, hw1, hw2, a1, b1, a2, b2, hc⟩ := more_cases HOK.out HI.out (r := rk) (by rw [HXX.out]; exact HRB.out) (by rw [HXX.out]; exact H5.out)
  rw [HXX.out, HS2.out] at hp2 hw2
  rw [HXX.out] at hnx
  have HP1 := Lib.hid hp1
  have HP2 := Lib.hid hp2
  have HNX := Lib.hid hnx
  have HW1 := Lib.hid hw1
  have HW2 := Lib.hid hw2
  have HPC := Lib.hid hc
  have HBD := Lib.hid (And.intro a1 (And.intro b1 (And.intro a2 b2)))
  clear hp1 hp2 hnx hw1 hw2 a1 b1 a2 b2 hc
  have HSM2 := Lib.hid (show (t.setSh i S2).Small from setSh_small HSM.out HI.out (by have := HXF.out.nr; rw [← HS2.out]; show x.sh.nr ≤ _; omega) (by have := HXF.out.nf; rw [← HS2.out]; show x.sh.nf + 1 ≤ _; omega))
  have HOK2 := Lib.hid (show (t.setSh i S2).Ok from setSh_ok HOK.out HI.out (by rw [← HS2.out]; have h := inR_iff.1 HRB.out; exact HXS.out.more h.1 (by have := h.2; omega) (by have := H5.out; omega)))
  have HKE := Lib.hid (show (t.setSh i S2).knowErr ((t.setSh i S2).hasB (i : Int)) = t.knowErr (t.hasB (i : Int)) by
    rw [hasB_in (t := t) HI.out, hasB_in (t := t.setSh i S2) HI.out]
    unfold Pt.knowErr
    rw [Pt.askErr_ok HOK.out, Pt.askErr_ok HOK2.out]
    rfl)
  obtain ⟨hb7, _, s0, s1, s2, s3, s4, s5, s6⟩ := HSC20.out
  go_wp2_with fail
  refine ((Next_at9 HNX.out Ar Af2 cr cf2 w20 (by have := HXF.out.nr; omega) (by have := HXF.out.nf; omega) HFT.out.1 HFT.out.2.1 HFT.out.2.2 (by obtain ⟨_, h, _⟩ := HSC20.out; exact h) HNA20.out : Calls Tryz.prog 38 #[.agg #[.slice Ar x.sh.nr cr, .slice Af2 x.sh.nf cf2, .int .i64 x.sh.deep, .int .i64 x.sh.haul, .int .i64 x.sh.rest], .int .i64 rk] w20 fun e w' => e = .returned (.tuple #[.int .i64 nb, .int .i64 ne]) ∧ Below w20.heap.size w20 w')).mono ?_
  rintro e w21 ⟨rfl, hb⟩
  have hB21 : Below w20.heap.size w20 w21 := bTrans (Below.refl _ _) hb
  have HD21 := Lib.hid (bTrans HD20.out hB21)
  have HT21 := Lib.hid (HT20.out.mono hB21)
  have HTB21 := Lib.hid (HTB20.out.mono hB21)
  have HNA21 := Lib.hid (HNA20.out.mono hB21)
  have HFE21 := Lib.hid (HFE20.out.mono hB21)
  have HSC21 := Lib.hid (HSC20.out.mono hB21)
  have HU21 := Lib.hid (HU20.out.mono hB21)
  have T21 := Lib.hid (T20.out.mono hB21)
  have U21 := Lib.hid (U20.out.mono hB21)
  clear hb hB21 HD20 HT20 HTB20 HNA20 HFE20 HSC20 HU20 T20 T_0 T_1 T_2 T_3 T_4 T_5 T_6 T_7 T_8 T_l U20 U_0 U_1 U_2 U_3 U_4 U_5 U_6 U_7 U_8 U_l
  obtain ⟨T_0, T_1, T_2, T_3, T_4, T_5, T_6, T_7, T_8, T_l⟩ := T21.out.c9
  obtain ⟨U_0, U_1, U_2, U_3, U_4, U_5, U_6, U_7, U_8, U_l⟩ := U21.out.c9
  clear hb7 s0 s1 s2 s3 s4 s5 s6
  go_wp2_with fail
  refine ((by have := pricesP_any Aw Af Ao Ap (some ⟨b, o, none⟩) cw cf co cp cs t (i : Int) w21 HSM.out HT21.out HTB21.out HNA21.out; rw [HP1.out] at this; exact this : Calls Tryz.prog 39 #[.agg #[.int .i64 t.q.wells, .slice Aw t.q.nw cw, .slice Af t.q.nf cf, .slice Ao t.no co, .slice Ap t.np cp, .slice (some ⟨b, o, none⟩) t.ns cs, .int .i64 t.far, .int .i64 t.harm, .int .i64 t.many], .int .i64 (i : Int)] w21 fun e w' => e = .returned (.tuple #[.int .i64 n1, .int .i64 e1]) ∧ Below w21.heap.size w21 w')).mono ?_
  rintro e w22 ⟨rfl, hb⟩
  have hB22 : Below w21.heap.size w21 w22 := bTrans (Below.refl _ _) hb
  have HD22 := Lib.hid (bTrans HD21.out hB22)
  have HT22 := Lib.hid (HT21.out.mono hB22)
  have HTB22 := Lib.hid (HTB21.out.mono hB22)
  have HNA22 := Lib.hid (HNA21.out.mono hB22)
  have HFE22 := Lib.hid (HFE21.out.mono hB22)
  have HSC22 := Lib.hid (HSC21.out.mono hB22)
  have HU22 := Lib.hid (HU21.out.mono hB22)
  have T22 := Lib.hid (T21.out.mono hB22)
  have U22 := Lib.hid (U21.out.mono hB22)
  clear hb hB22 HD21 HT21 HTB21 HNA21 HFE21 HSC21 HU21 T21 T_0 T_1 T_2 T_3 T_4 T_5 T_6 T_7 T_8 T_l U21 U_0 U_1 U_2 U_3 U_4 U_5 U_6 U_7 U_8 U_l
  obtain ⟨T_0, T_1, T_2, T_3, T_4, T_5, T_6, T_7, T_8, T_l⟩ := T22.out.c9
  obtain ⟨U_0, U_1, U_2, U_3, U_4, U_5, U_6, U_7, U_8, U_l⟩ := U22.out.c9
  go_wp2_with fail
  refine ((by have := pricesP_any Bw Bf Bo Bp (some ⟨g, 0, none⟩) dw df do_ dp ds (t.setSh i S2) (i : Int) w22 HSM2.out HU22.out HTB22.out HNA22.out; rw [HP2.out] at this; exact this : Calls Tryz.prog 39 #[.agg #[.int .i64 t.q.wells, .slice Bw t.q.nw dw, .slice Bf t.q.nf df, .slice Bo t.no do_, .slice Bp t.np dp, .slice (some ⟨g, 0, none⟩) t.ns ds, .int .i64 t.far, .int .i64 t.harm, .int .i64 t.many], .int .i64 (i : Int)] w22 fun e w' => e = .returned (.tuple #[.int .i64 n2, .int .i64 e2]) ∧ Below w22.heap.size w22 w')).mono ?_
  rintro e w23 ⟨rfl, hb⟩
  have hB23 : Below w22.heap.size w22 w23 := bTrans (Below.refl _ _) hb
  have HD23 := Lib.hid (bTrans HD22.out hB23)
  have HT23 := Lib.hid (HT22.out.mono hB23)
  have HTB23 := Lib.hid (HTB22.out.mono hB23)
  have HNA23 := Lib.hid (HNA22.out.mono hB23)
  have HFE23 := Lib.hid (HFE22.out.mono hB23)
  have HSC23 := Lib.hid (HSC22.out.mono hB23)
  have HU23 := Lib.hid (HU22.out.mono hB23)
  have T23 := Lib.hid (T22.out.mono hB23)
  have U23 := Lib.hid (U22.out.mono hB23)
  clear hb hB23 HD22 HT22 HTB22 HNA22 HFE22 HSC22 HU22 T22 T_0 T_1 T_2 T_3 T_4 T_5 T_6 T_7 T_8 T_l U22 U_0 U_1 U_2 U_3 U_4 U_5 U_6 U_7 U_8 U_l
  obtain ⟨T_0, T_1, T_2, T_3, T_4, T_5, T_6, T_7, T_8, T_l⟩ := T23.out.c9
  obtain ⟨U_0, U_1, U_2, U_3, U_4, U_5, U_6, U_7, U_8, U_l⟩ := U23.out.c9
  obtain ⟨er, her⟩ : ∃ y, t.knowErr (t.hasB (i : Int)) = y := ⟨_, rfl⟩
  have HER := Lib.hid her
  clear her
  obtain ⟨z, hz⟩ : ∃ y, (t.who i).length = y := ⟨_, rfl⟩
  have HZ := Lib.hid hz
  clear hz
  have HZL := Lib.hid (show z ≤ 9223372036854775807 by have := selTo_len (t.whoB i) t.no; have h2 := HZ.out; have h3 := HSM.out.no; have h4 := Pt.m_no HOK.out; have h5 : (t.who i).length ≤ t.m := selTo_len _ _; omega)
  rcases HPC.out with ⟨rfl, rfl⟩ | ⟨rfl, rfl, rfl⟩ | ⟨rfl, rfl, rfl, hnb, rfl, hwb⟩
  · clear HPC
    go_wp2_with fail
    by_cases he : er = 0
    case neg =>
      have HNZ := Lib.hid he
      clear he
      refine ((by have := whoOutP_any Aw Af Ao Ap (some ⟨b, o, none⟩) cw cf co cp cs t (i : Int) w23 HSM.out HT23.out HTB23.out; rw [HER.out] at this; exact this : Calls Tryz.prog 27 #[.agg #[.int .i64 t.q.wells, .slice Aw t.q.nw cw, .slice Af t.q.nf cf, .slice Ao t.no co, .slice Ap t.np cp, .slice (some ⟨b, o, none⟩) t.ns cs, .int .i64 t.far, .int .i64 t.harm, .int .i64 t.many], .int .i64 (i : Int)] w23 fun e w' => NumsOut w' w23.heap.size er (t.who i) e ∧ Below w23.heap.size w23 w')).mono ?_
      rintro e w24 ⟨ho, hb⟩
      obtain rfl := ho.2 HNZ.out
      have hB24 : Below w23.heap.size w23 w24 := bTrans (Below.refl _ _) hb
      have HD24 := Lib.hid (bTrans HD23.out hB24)
      have HT24 := Lib.hid (HT23.out.mono hB24)
      have HTB24 := Lib.hid (HTB23.out.mono hB24)
      have HNA24 := Lib.hid (HNA23.out.mono hB24)
      have HFE24 := Lib.hid (HFE23.out.mono hB24)
      have HSC24 := Lib.hid (HSC23.out.mono hB24)
      have HU24 := Lib.hid (HU23.out.mono hB24)
      have T24 := Lib.hid (T23.out.mono hB24)
      have U24 := Lib.hid (U23.out.mono hB24)
      clear hb hB24 HD23 HT23 HTB23 HNA23 HFE23 HSC23 HU23 T23 T_0 T_1 T_2 T_3 T_4 T_5 T_6 T_7 T_8 T_l U23 U_0 U_1 U_2 U_3 U_4 U_5 U_6 U_7 U_8 U_l
      obtain ⟨T_0, T_1, T_2, T_3, T_4, T_5, T_6, T_7, T_8, T_l⟩ := T24.out.c9
      obtain ⟨U_0, U_1, U_2, U_3, U_4, U_5, U_6, U_7, U_8, U_l⟩ := U24.out.c9
      clear ho
      go_wp2_with fail
      refine ((by have := whoOutP_any Bw Bf Bo Bp (some ⟨g, 0, none⟩) dw df do_ dp ds (t.setSh i S2) (i : Int) w24 HSM2.out HU24.out HTB24.out; rw [HKE.out, HER.out, setSh_who] at this; exact this : Calls Tryz.prog 27 #[.agg #[.int .i64 t.q.wells, .slice Bw t.q.nw dw, .slice Bf t.q.nf df, .slice Bo t.no do_, .slice Bp t.np dp, .slice (some ⟨g, 0, none⟩) t.ns ds, .int .i64 t.far, .int .i64 t.harm, .int .i64 t.many], .int .i64 (i : Int)] w24 fun e w' => NumsOut w' w24.heap.size er (t.who i) e ∧ Below w24.heap.size w24 w')).mono ?_
      rintro e w25 ⟨ho, hb⟩
      obtain rfl := ho.2 HNZ.out
      have hB25 : Below w24.heap.size w24 w25 := bTrans (Below.refl _ _) hb
      have HD25 := Lib.hid (bTrans HD24.out hB25)
      have HT25 := Lib.hid (HT24.out.mono hB25)
      have HTB25 := Lib.hid (HTB24.out.mono hB25)
      have HNA25 := Lib.hid (HNA24.out.mono hB25)
      have HFE25 := Lib.hid (HFE24.out.mono hB25)
      have HSC25 := Lib.hid (HSC24.out.mono hB25)
      have HU25 := Lib.hid (HU24.out.mono hB25)
      have T25 := Lib.hid (T24.out.mono hB25)
      have U25 := Lib.hid (U24.out.mono hB25)
      clear hb hB25 HD24 HT24 HTB24 HNA24 HFE24 HSC24 HU24 T24 T_0 T_1 T_2 T_3 T_4 T_5 T_6 T_7 T_8 T_l U24 U_0 U_1 U_2 U_3 U_4 U_5 U_6 U_7 U_8 U_l
      obtain ⟨T_0, T_1, T_2, T_3, T_4, T_5, T_6, T_7, T_8, T_l⟩ := T25.out.c9
      obtain ⟨U_0, U_1, U_2, U_3, U_4, U_5, U_6, U_7, U_8, U_l⟩ := U25.out.c9
      clear ho
      go_wp2_with fail
      refine (sameInts_t none none 0 0 0 (fun _ => 0) _ (by omega) (.inl rfl) (.inl rfl)).mono ?_
      rintro e w26 ⟨rfl, hb⟩
      have hB26 : Below w25.heap.size w25 w26 := bTrans (Below.refl _ _) hb
      have HD26 := Lib.hid (bTrans HD25.out hB26)
      have HT26 := Lib.hid (HT25.out.mono hB26)
      have HTB26 := Lib.hid (HTB25.out.mono hB26)
      have HNA26 := Lib.hid (HNA25.out.mono hB26)
      have HFE26 := Lib.hid (HFE25.out.mono hB26)
      have HSC26 := Lib.hid (HSC25.out.mono hB26)
      have HU26 := Lib.hid (HU25.out.mono hB26)
      have T26 := Lib.hid (T25.out.mono hB26)
      have U26 := Lib.hid (U25.out.mono hB26)
      clear hb hB26 HD25 HT25 HTB25 HNA25 HFE25 HSC25 HU25 T25 T_0 T_1 T_2 T_3 T_4 T_5 T_6 T_7 T_8 T_l U25 U_0 U_1 U_2 U_3 U_4 U_5 U_6 U_7 U_8 U_l
      obtain ⟨T_0, T_1, T_2, T_3, T_4, T_5, T_6, T_7, T_8, T_l⟩ := T26.out.c9
      obtain ⟨U_0, U_1, U_2, U_3, U_4, U_5, U_6, U_7, U_8, U_l⟩ := U26.out.c9
      go_wp2_with fail
      refine ((by have := wholeP_any Aw Af Ao Ap (some ⟨b, o, none⟩) cw cf co cp cs t (i : Int) w26 HSM.out HT26.out HTB26.out HNA26.out; rw [HW1.out] at this; exact this : Calls Tryz.prog 40 #[.agg #[.int .i64 t.q.wells, .slice Aw t.q.nw cw, .slice Af t.q.nf cf, .slice Ao t.no co, .slice Ap t.np cp, .slice (some ⟨b, o, none⟩) t.ns cs, .int .i64 t.far, .int .i64 t.harm, .int .i64 t.many], .int .i64 (i : Int)] w26 fun e w' => e = .returned (.tuple #[.int .i64 wp, .int .i64 wh]) ∧ Below w26.heap.size w26 w')).mono ?_
      rintro e w27 ⟨rfl, hb⟩
      have hB27 : Below w26.heap.size w26 w27 := bTrans (Below.refl _ _) hb
      have HD27 := Lib.hid (bTrans HD26.out hB27)
      have HT27 := Lib.hid (HT26.out.mono hB27)
      have HTB27 := Lib.hid (HTB26.out.mono hB27)
      have HNA27 := Lib.hid (HNA26.out.mono hB27)
      have HFE27 := Lib.hid (HFE26.out.mono hB27)
      have HSC27 := Lib.hid (HSC26.out.mono hB27)
      have HU27 := Lib.hid (HU26.out.mono hB27)
      have T27 := Lib.hid (T26.out.mono hB27)
      have U27 := Lib.hid (U26.out.mono hB27)
      clear hb hB27 HD26 HT26 HTB26 HNA26 HFE26 HSC26 HU26 T26 T_0 T_1 T_2 T_3 T_4 T_5 T_6 T_7 T_8 T_l U26 U_0 U_1 U_2 U_3 U_4 U_5 U_6 U_7 U_8 U_l
      obtain ⟨T_0, T_1, T_2, T_3, T_4, T_5, T_6, T_7, T_8, T_l⟩ := T27.out.c9
      obtain ⟨U_0, U_1, U_2, U_3, U_4, U_5, U_6, U_7, U_8, U_l⟩ := U27.out.c9
      go_wp2_with fail
      refine ((by have := wholeP_any Bw Bf Bo Bp (some ⟨g, 0, none⟩) dw df do_ dp ds (t.setSh i S2) (i : Int) w27 HSM2.out HU27.out HTB27.out HNA27.out; rw [HW2.out] at this; exact this : Calls Tryz.prog 40 #[.agg #[.int .i64 t.q.wells, .slice Bw t.q.nw dw, .slice Bf t.q.nf df, .slice Bo t.no do_, .slice Bp t.np dp, .slice (some ⟨g, 0, none⟩) t.ns ds, .int .i64 t.far, .int .i64 t.harm, .int .i64 t.many], .int .i64 (i : Int)] w27 fun e w' => e = .returned (.tuple #[.int .i64 wq, .int .i64 wi]) ∧ Below w27.heap.size w27 w')).mono ?_
      rintro e w28 ⟨rfl, hb⟩
      have hB28 : Below w27.heap.size w27 w28 := bTrans (Below.refl _ _) hb
      have HD28 := Lib.hid (bTrans HD27.out hB28)
      have HT28 := Lib.hid (HT27.out.mono hB28)
      have HTB28 := Lib.hid (HTB27.out.mono hB28)
      have HNA28 := Lib.hid (HNA27.out.mono hB28)
      have HFE28 := Lib.hid (HFE27.out.mono hB28)
      have HSC28 := Lib.hid (HSC27.out.mono hB28)
      have HU28 := Lib.hid (HU27.out.mono hB28)
      have T28 := Lib.hid (T27.out.mono hB28)
      have U28 := Lib.hid (U27.out.mono hB28)
      clear hb hB28 HD27 HT27 HTB27 HNA27 HFE27 HSC27 HU27 T27 T_0 T_1 T_2 T_3 T_4 T_5 T_6 T_7 T_8 T_l U27 U_0 U_1 U_2 U_3 U_4 U_5 U_6 U_7 U_8 U_l
      obtain ⟨T_0, T_1, T_2, T_3, T_4, T_5, T_6, T_7, T_8, T_l⟩ := T28.out.c9
      obtain ⟨U_0, U_1, U_2, U_3, U_4, U_5, U_6, U_7, U_8, U_l⟩ := U28.out.c9
      go_wp2_with fail
      refine (dug_any _ HTB28.out HNA28.out).mono ?_
      rintro e w29 ⟨rfl, hb⟩
      have hB29 : Below w28.heap.size w28 w29 := bTrans (Below.refl _ _) hb
      have HD29 := Lib.hid (bTrans HD28.out hB29)
      have HT29 := Lib.hid (HT28.out.mono hB29)
      have HTB29 := Lib.hid (HTB28.out.mono hB29)
      have HNA29 := Lib.hid (HNA28.out.mono hB29)
      have HFE29 := Lib.hid (HFE28.out.mono hB29)
      have HSC29 := Lib.hid (HSC28.out.mono hB29)
      have HU29 := Lib.hid (HU28.out.mono hB29)
      have T29 := Lib.hid (T28.out.mono hB29)
      have U29 := Lib.hid (U28.out.mono hB29)
      clear hb hB29 HD28 HT28 HTB28 HNA28 HFE28 HSC28 HU28 T28 T_0 T_1 T_2 T_3 T_4 T_5 T_6 T_7 T_8 T_l U28 U_0 U_1 U_2 U_3 U_4 U_5 U_6 U_7 U_8 U_l
      obtain ⟨T_0, T_1, T_2, T_3, T_4, T_5, T_6, T_7, T_8, T_l⟩ := T29.out.c9
      obtain ⟨U_0, U_1, U_2, U_3, U_4, U_5, U_6, U_7, U_8, U_l⟩ := U29.out.c9
      go_wp2_with fail
      go_ret
      exact ⟨rfl, HD29.out⟩
    case pos =>
      subst he
      refine ((by have := whoOutP_any Aw Af Ao Ap (some ⟨b, o, none⟩) cw cf co cp cs t (i : Int) w23 HSM.out HT23.out HTB23.out; rw [HER.out] at this; exact this : Calls Tryz.prog 27 #[.agg #[.int .i64 t.q.wells, .slice Aw t.q.nw cw, .slice Af t.q.nf cf, .slice Ao t.no co, .slice Ap t.np cp, .slice (some ⟨b, o, none⟩) t.ns cs, .int .i64 t.far, .int .i64 t.harm, .int .i64 t.many], .int .i64 (i : Int)] w23 fun e w' => NumsOut w' w23.heap.size 0 (t.who i) e ∧ Below w23.heap.size w23 w')).mono ?_
      rintro e w24 ⟨ho, hb⟩
      obtain ⟨v, rfl, hv⟩ := ho.1 rfl
      obtain ⟨A6, c6, rfl, hi6⟩ := hv.lst
      rw [HZ.out] at hi6 ⊢
      have hB24 : Below w23.heap.size w23 w24 := bTrans (Below.refl _ _) hb
      have HD24 := Lib.hid (bTrans HD23.out hB24)
      have HT24 := Lib.hid (HT23.out.mono hB24)
      have HTB24 := Lib.hid (HTB23.out.mono hB24)
      have HNA24 := Lib.hid (HNA23.out.mono hB24)
      have HFE24 := Lib.hid (HFE23.out.mono hB24)
      have HSC24 := Lib.hid (HSC23.out.mono hB24)
      have HU24 := Lib.hid (HU23.out.mono hB24)
      have HW24 := Lib.hid (hi6)
      have T24 := Lib.hid (T23.out.mono hB24)
      have U24 := Lib.hid (U23.out.mono hB24)
      clear hb hB24 HD23 HT23 HTB23 HNA23 HFE23 HSC23 HU23 T23 T_0 T_1 T_2 T_3 T_4 T_5 T_6 T_7 T_8 T_l U23 U_0 U_1 U_2 U_3 U_4 U_5 U_6 U_7 U_8 U_l
      obtain ⟨T_0, T_1, T_2, T_3, T_4, T_5, T_6, T_7, T_8, T_l⟩ := T24.out.c9
      obtain ⟨U_0, U_1, U_2, U_3, U_4, U_5, U_6, U_7, U_8, U_l⟩ := U24.out.c9
      clear ho hv hi6
      go_wp2_with fail
      refine ((by have := whoOutP_any Bw Bf Bo Bp (some ⟨g, 0, none⟩) dw df do_ dp ds (t.setSh i S2) (i : Int) w24 HSM2.out HU24.out HTB24.out; rw [HKE.out, HER.out, setSh_who] at this; exact this : Calls Tryz.prog 27 #[.agg #[.int .i64 t.q.wells, .slice Bw t.q.nw dw, .slice Bf t.q.nf df, .slice Bo t.no do_, .slice Bp t.np dp, .slice (some ⟨g, 0, none⟩) t.ns ds, .int .i64 t.far, .int .i64 t.harm, .int .i64 t.many], .int .i64 (i : Int)] w24 fun e w' => NumsOut w' w24.heap.size 0 (t.who i) e ∧ Below w24.heap.size w24 w')).mono ?_
      rintro e w25 ⟨ho, hb⟩
      obtain ⟨v, rfl, hv⟩ := ho.1 rfl
      obtain ⟨A7, c7, rfl, hi6⟩ := hv.lst
      rw [HZ.out] at hi6 ⊢
      have hB25 : Below w24.heap.size w24 w25 := bTrans (Below.refl _ _) hb
      have HD25 := Lib.hid (bTrans HD24.out hB25)
      have HT25 := Lib.hid (HT24.out.mono hB25)
      have HTB25 := Lib.hid (HTB24.out.mono hB25)
      have HNA25 := Lib.hid (HNA24.out.mono hB25)
      have HFE25 := Lib.hid (HFE24.out.mono hB25)
      have HSC25 := Lib.hid (HSC24.out.mono hB25)
      have HU25 := Lib.hid (HU24.out.mono hB25)
      have HW25 := Lib.hid (HW24.out.mono hB25)
      have HV925 := Lib.hid (hi6)
      have T25 := Lib.hid (T24.out.mono hB25)
      have U25 := Lib.hid (U24.out.mono hB25)
      clear hb hB25 HD24 HT24 HTB24 HNA24 HFE24 HSC24 HU24 HW24 T24 T_0 T_1 T_2 T_3 T_4 T_5 T_6 T_7 T_8 T_l U24 U_0 U_1 U_2 U_3 U_4 U_5 U_6 U_7 U_8 U_l
      obtain ⟨T_0, T_1, T_2, T_3, T_4, T_5, T_6, T_7, T_8, T_l⟩ := T25.out.c9
      obtain ⟨U_0, U_1, U_2, U_3, U_4, U_5, U_6, U_7, U_8, U_l⟩ := U25.out.c9
      clear ho hv hi6
      go_wp2_with fail
      refine (sameInts_t A6 A7 z c6 c7 _ _ HZL.out HW25.out HV925.out).mono ?_
      rintro e w26 ⟨rfl, hb⟩
      have hB26 : Below w25.heap.size w25 w26 := bTrans (Below.refl _ _) hb
      have HD26 := Lib.hid (bTrans HD25.out hB26)
      have HT26 := Lib.hid (HT25.out.mono hB26)
      have HTB26 := Lib.hid (HTB25.out.mono hB26)
      have HNA26 := Lib.hid (HNA25.out.mono hB26)
      have HFE26 := Lib.hid (HFE25.out.mono hB26)
      have HSC26 := Lib.hid (HSC25.out.mono hB26)
      have HU26 := Lib.hid (HU25.out.mono hB26)
      have HW26 := Lib.hid (HW25.out.mono hB26)
      have HV926 := Lib.hid (HV925.out.mono hB26)
      have T26 := Lib.hid (T25.out.mono hB26)
      have U26 := Lib.hid (U25.out.mono hB26)
      clear hb hB26 HD25 HT25 HTB25 HNA25 HFE25 HSC25 HU25 HW25 HV925 T25 T_0 T_1 T_2 T_3 T_4 T_5 T_6 T_7 T_8 T_l U25 U_0 U_1 U_2 U_3 U_4 U_5 U_6 U_7 U_8 U_l
      obtain ⟨T_0, T_1, T_2, T_3, T_4, T_5, T_6, T_7, T_8, T_l⟩ := T26.out.c9
      obtain ⟨U_0, U_1, U_2, U_3, U_4, U_5, U_6, U_7, U_8, U_l⟩ := U26.out.c9
      go_wp2_with fail
      refine ((by have := wholeP_any Aw Af Ao Ap (some ⟨b, o, none⟩) cw cf co cp cs t (i : Int) w26 HSM.out HT26.out HTB26.out HNA26.out; rw [HW1.out] at this; exact this : Calls Tryz.prog 40 #[.agg #[.int .i64 t.q.wells, .slice Aw t.q.nw cw, .slice Af t.q.nf cf, .slice Ao t.no co, .slice Ap t.np cp, .slice (some ⟨b, o, none⟩) t.ns cs, .int .i64 t.far, .int .i64 t.harm, .int .i64 t.many], .int .i64 (i : Int)] w26 fun e w' => e = .returned (.tuple #[.int .i64 wp, .int .i64 wh]) ∧ Below w26.heap.size w26 w')).mono ?_
      rintro e w27 ⟨rfl, hb⟩
      have hB27 : Below w26.heap.size w26 w27 := bTrans (Below.refl _ _) hb
      have HD27 := Lib.hid (bTrans HD26.out hB27)
      have HT27 := Lib.hid (HT26.out.mono hB27)
      have HTB27 := Lib.hid (HTB26.out.mono hB27)
      have HNA27 := Lib.hid (HNA26.out.mono hB27)
      have HFE27 := Lib.hid (HFE26.out.mono hB27)
      have HSC27 := Lib.hid (HSC26.out.mono hB27)
      have HU27 := Lib.hid (HU26.out.mono hB27)
      have HW27 := Lib.hid (HW26.out.mono hB27)
      have HV927 := Lib.hid (HV926.out.mono hB27)
      have T27 := Lib.hid (T26.out.mono hB27)
      have U27 := Lib.hid (U26.out.mono hB27)
      clear hb hB27 HD26 HT26 HTB26 HNA26 HFE26 HSC26 HU26 HW26 HV926 T26 T_0 T_1 T_2 T_3 T_4 T_5 T_6 T_7 T_8 T_l U26 U_0 U_1 U_2 U_3 U_4 U_5 U_6 U_7 U_8 U_l
      obtain ⟨T_0, T_1, T_2, T_3, T_4, T_5, T_6, T_7, T_8, T_l⟩ := T27.out.c9
      obtain ⟨U_0, U_1, U_2, U_3, U_4, U_5, U_6, U_7, U_8, U_l⟩ := U27.out.c9
      go_wp2_with fail
      refine ((by have := wholeP_any Bw Bf Bo Bp (some ⟨g, 0, none⟩) dw df do_ dp ds (t.setSh i S2) (i : Int) w27 HSM2.out HU27.out HTB27.out HNA27.out; rw [HW2.out] at this; exact this : Calls Tryz.prog 40 #[.agg #[.int .i64 t.q.wells, .slice Bw t.q.nw dw, .slice Bf t.q.nf df, .slice Bo t.no do_, .slice Bp t.np dp, .slice (some ⟨g, 0, none⟩) t.ns ds, .int .i64 t.far, .int .i64 t.harm, .int .i64 t.many], .int .i64 (i : Int)] w27 fun e w' => e = .returned (.tuple #[.int .i64 wq, .int .i64 wi]) ∧ Below w27.heap.size w27 w')).mono ?_
      rintro e w28 ⟨rfl, hb⟩
      have hB28 : Below w27.heap.size w27 w28 := bTrans (Below.refl _ _) hb
      have HD28 := Lib.hid (bTrans HD27.out hB28)
      have HT28 := Lib.hid (HT27.out.mono hB28)
      have HTB28 := Lib.hid (HTB27.out.mono hB28)
      have HNA28 := Lib.hid (HNA27.out.mono hB28)
      have HFE28 := Lib.hid (HFE27.out.mono hB28)
      have HSC28 := Lib.hid (HSC27.out.mono hB28)
      have HU28 := Lib.hid (HU27.out.mono hB28)
      have HW28 := Lib.hid (HW27.out.mono hB28)
      have HV928 := Lib.hid (HV927.out.mono hB28)
      have T28 := Lib.hid (T27.out.mono hB28)
      have U28 := Lib.hid (U27.out.mono hB28)
      clear hb hB28 HD27 HT27 HTB27 HNA27 HFE27 HSC27 HU27 HW27 HV927 T27 T_0 T_1 T_2 T_3 T_4 T_5 T_6 T_7 T_8 T_l U27 U_0 U_1 U_2 U_3 U_4 U_5 U_6 U_7 U_8 U_l
      obtain ⟨T_0, T_1, T_2, T_3, T_4, T_5, T_6, T_7, T_8, T_l⟩ := T28.out.c9
      obtain ⟨U_0, U_1, U_2, U_3, U_4, U_5, U_6, U_7, U_8, U_l⟩ := U28.out.c9
      go_wp2_with fail
      refine (dug_any _ HTB28.out HNA28.out).mono ?_
      rintro e w29 ⟨rfl, hb⟩
      have hB29 : Below w28.heap.size w28 w29 := bTrans (Below.refl _ _) hb
      have HD29 := Lib.hid (bTrans HD28.out hB29)
      have HT29 := Lib.hid (HT28.out.mono hB29)
      have HTB29 := Lib.hid (HTB28.out.mono hB29)
      have HNA29 := Lib.hid (HNA28.out.mono hB29)
      have HFE29 := Lib.hid (HFE28.out.mono hB29)
      have HSC29 := Lib.hid (HSC28.out.mono hB29)
      have HU29 := Lib.hid (HU28.out.mono hB29)
      have HW29 := Lib.hid (HW28.out.mono hB29)
      have HV929 := Lib.hid (HV928.out.mono hB29)
      have T29 := Lib.hid (T28.out.mono hB29)
      have U29 := Lib.hid (U28.out.mono hB29)
      clear hb hB29 HD28 HT28 HTB28 HNA28 HFE28 HSC28 HU28 HW28 HV928 T28 T_0 T_1 T_2 T_3 T_4 T_5 T_6 T_7 T_8 T_l U28 U_0 U_1 U_2 U_3 U_4 U_5 U_6 U_7 U_8 U_l
      obtain ⟨T_0, T_1, T_2, T_3, T_4, T_5, T_6, T_7, T_8, T_l⟩ := T29.out.c9
      obtain ⟨U_0, U_1, U_2, U_3, U_4, U_5, U_6, U_7, U_8, U_l⟩ := U29.out.c9
      go_wp2_with fail
      go_ret
      exact ⟨rfl, HD29.out⟩
  · clear HPC
    go_wp2_with fail
    by_cases he : er = 0
    case neg =>
      have HNZ := Lib.hid he
      clear he
      refine ((by have := whoOutP_any Aw Af Ao Ap (some ⟨b, o, none⟩) cw cf co cp cs t (i : Int) w23 HSM.out HT23.out HTB23.out; rw [HER.out] at this; exact this : Calls Tryz.prog 27 #[.agg #[.int .i64 t.q.wells, .slice Aw t.q.nw cw, .slice Af t.q.nf cf, .slice Ao t.no co, .slice Ap t.np cp, .slice (some ⟨b, o, none⟩) t.ns cs, .int .i64 t.far, .int .i64 t.harm, .int .i64 t.many], .int .i64 (i : Int)] w23 fun e w' => NumsOut w' w23.heap.size er (t.who i) e ∧ Below w23.heap.size w23 w')).mono ?_
      rintro e w24 ⟨ho, hb⟩
      obtain rfl := ho.2 HNZ.out
      have hB24 : Below w23.heap.size w23 w24 := bTrans (Below.refl _ _) hb
      have HD24 := Lib.hid (bTrans HD23.out hB24)
      have HT24 := Lib.hid (HT23.out.mono hB24)
      have HTB24 := Lib.hid (HTB23.out.mono hB24)
      have HNA24 := Lib.hid (HNA23.out.mono hB24)
      have HFE24 := Lib.hid (HFE23.out.mono hB24)
      have HSC24 := Lib.hid (HSC23.out.mono hB24)
      have HU24 := Lib.hid (HU23.out.mono hB24)
      have T24 := Lib.hid (T23.out.mono hB24)
      have U24 := Lib.hid (U23.out.mono hB24)
      clear hb hB24 HD23 HT23 HTB23 HNA23 HFE23 HSC23 HU23 T23 T_0 T_1 T_2 T_3 T_4 T_5 T_6 T_7 T_8 T_l U23 U_0 U_1 U_2 U_3 U_4 U_5 U_6 U_7 U_8 U_l
      obtain ⟨T_0, T_1, T_2, T_3, T_4, T_5, T_6, T_7, T_8, T_l⟩ := T24.out.c9
      obtain ⟨U_0, U_1, U_2, U_3, U_4, U_5, U_6, U_7, U_8, U_l⟩ := U24.out.c9
      clear ho
      go_wp2_with fail
      refine ((by have := whoOutP_any Bw Bf Bo Bp (some ⟨g, 0, none⟩) dw df do_ dp ds (t.setSh i S2) (i : Int) w24 HSM2.out HU24.out HTB24.out; rw [HKE.out, HER.out, setSh_who] at this; exact this : Calls Tryz.prog 27 #[.agg #[.int .i64 t.q.wells, .slice Bw t.q.nw dw, .slice Bf t.q.nf df, .slice Bo t.no do_, .slice Bp t.np dp, .slice (some ⟨g, 0, none⟩) t.ns ds, .int .i64 t.far, .int .i64 t.harm, .int .i64 t.many], .int .i64 (i : Int)] w24 fun e w' => NumsOut w' w24.heap.size er (t.who i) e ∧ Below w24.heap.size w24 w')).mono ?_
      rintro e w25 ⟨ho, hb⟩
      obtain rfl := ho.2 HNZ.out
      have hB25 : Below w24.heap.size w24 w25 := bTrans (Below.refl _ _) hb
      have HD25 := Lib.hid (bTrans HD24.out hB25)
      have HT25 := Lib.hid (HT24.out.mono hB25)
      have HTB25 := Lib.hid (HTB24.out.mono hB25)
      have HNA25 := Lib.hid (HNA24.out.mono hB25)
      have HFE25 := Lib.hid (HFE24.out.mono hB25)
      have HSC25 := Lib.hid (HSC24.out.mono hB25)
      have HU25 := Lib.hid (HU24.out.mono hB25)
      have T25 := Lib.hid (T24.out.mono hB25)
      have U25 := Lib.hid (U24.out.mono hB25)
      clear hb hB25 HD24 HT24 HTB24 HNA24 HFE24 HSC24 HU24 T24 T_0 T_1 T_2 T_3 T_4 T_5 T_6 T_7 T_8 T_l U24 U_0 U_1 U_2 U_3 U_4 U_5 U_6 U_7 U_8 U_l
      obtain ⟨T_0, T_1, T_2, T_3, T_4, T_5, T_6, T_7, T_8, T_l⟩ := T25.out.c9
      obtain ⟨U_0, U_1, U_2, U_3, U_4, U_5, U_6, U_7, U_8, U_l⟩ := U25.out.c9
      clear ho
      go_wp2_with fail
      refine (sameInts_t none none 0 0 0 (fun _ => 0) _ (by omega) (.inl rfl) (.inl rfl)).mono ?_
      rintro e w26 ⟨rfl, hb⟩
      have hB26 : Below w25.heap.size w25 w26 := bTrans (Below.refl _ _) hb
      have HD26 := Lib.hid (bTrans HD25.out hB26)
      have HT26 := Lib.hid (HT25.out.mono hB26)
      have HTB26 := Lib.hid (HTB25.out.mono hB26)
      have HNA26 := Lib.hid (HNA25.out.mono hB26)
      have HFE26 := Lib.hid (HFE25.out.mono hB26)
      have HSC26 := Lib.hid (HSC25.out.mono hB26)
      have HU26 := Lib.hid (HU25.out.mono hB26)
      have T26 := Lib.hid (T25.out.mono hB26)
      have U26 := Lib.hid (U25.out.mono hB26)
      clear hb hB26 HD25 HT25 HTB25 HNA25 HFE25 HSC25 HU25 T25 T_0 T_1 T_2 T_3 T_4 T_5 T_6 T_7 T_8 T_l U25 U_0 U_1 U_2 U_3 U_4 U_5 U_6 U_7 U_8 U_l
      obtain ⟨T_0, T_1, T_2, T_3, T_4, T_5, T_6, T_7, T_8, T_l⟩ := T26.out.c9
      obtain ⟨U_0, U_1, U_2, U_3, U_4, U_5, U_6, U_7, U_8, U_l⟩ := U26.out.c9
      go_wp2_with fail
      refine ((by have := wholeP_any Aw Af Ao Ap (some ⟨b, o, none⟩) cw cf co cp cs t (i : Int) w26 HSM.out HT26.out HTB26.out HNA26.out; rw [HW1.out] at this; exact this : Calls Tryz.prog 40 #[.agg #[.int .i64 t.q.wells, .slice Aw t.q.nw cw, .slice Af t.q.nf cf, .slice Ao t.no co, .slice Ap t.np cp, .slice (some ⟨b, o, none⟩) t.ns cs, .int .i64 t.far, .int .i64 t.harm, .int .i64 t.many], .int .i64 (i : Int)] w26 fun e w' => e = .returned (.tuple #[.int .i64 wp, .int .i64 wh]) ∧ Below w26.heap.size w26 w')).mono ?_
      rintro e w27 ⟨rfl, hb⟩
      have hB27 : Below w26.heap.size w26 w27 := bTrans (Below.refl _ _) hb
      have HD27 := Lib.hid (bTrans HD26.out hB27)
      have HT27 := Lib.hid (HT26.out.mono hB27)
      have HTB27 := Lib.hid (HTB26.out.mono hB27)
      have HNA27 := Lib.hid (HNA26.out.mono hB27)
      have HFE27 := Lib.hid (HFE26.out.mono hB27)
      have HSC27 := Lib.hid (HSC26.out.mono hB27)
      have HU27 := Lib.hid (HU26.out.mono hB27)
      have T27 := Lib.hid (T26.out.mono hB27)
      have U27 := Lib.hid (U26.out.mono hB27)
      clear hb hB27 HD26 HT26 HTB26 HNA26 HFE26 HSC26 HU26 T26 T_0 T_1 T_2 T_3 T_4 T_5 T_6 T_7 T_8 T_l U26 U_0 U_1 U_2 U_3 U_4 U_5 U_6 U_7 U_8 U_l
      obtain ⟨T_0, T_1, T_2, T_3, T_4, T_5, T_6, T_7, T_8, T_l⟩ := T27.out.c9
      obtain ⟨U_0, U_1, U_2, U_3, U_4, U_5, U_6, U_7, U_8, U_l⟩ := U27.out.c9
      go_wp2_with fail
      refine ((by have := wholeP_any Bw Bf Bo Bp (some ⟨g, 0, none⟩) dw df do_ dp ds (t.setSh i S2) (i : Int) w27 HSM2.out HU27.out HTB27.out HNA27.out; rw [HW2.out] at this; exact this : Calls Tryz.prog 40 #[.agg #[.int .i64 t.q.wells, .slice Bw t.q.nw dw, .slice Bf t.q.nf df, .slice Bo t.no do_, .slice Bp t.np dp, .slice (some ⟨g, 0, none⟩) t.ns ds, .int .i64 t.far, .int .i64 t.harm, .int .i64 t.many], .int .i64 (i : Int)] w27 fun e w' => e = .returned (.tuple #[.int .i64 wq, .int .i64 wi]) ∧ Below w27.heap.size w27 w')).mono ?_
      rintro e w28 ⟨rfl, hb⟩
      have hB28 : Below w27.heap.size w27 w28 := bTrans (Below.refl _ _) hb
      have HD28 := Lib.hid (bTrans HD27.out hB28)
      have HT28 := Lib.hid (HT27.out.mono hB28)
      have HTB28 := Lib.hid (HTB27.out.mono hB28)
      have HNA28 := Lib.hid (HNA27.out.mono hB28)
      have HFE28 := Lib.hid (HFE27.out.mono hB28)
      have HSC28 := Lib.hid (HSC27.out.mono hB28)
      have HU28 := Lib.hid (HU27.out.mono hB28)
      have T28 := Lib.hid (T27.out.mono hB28)
      have U28 := Lib.hid (U27.out.mono hB28)
      clear hb hB28 HD27 HT27 HTB27 HNA27 HFE27 HSC27 HU27 T27 T_0 T_1 T_2 T_3 T_4 T_5 T_6 T_7 T_8 T_l U27 U_0 U_1 U_2 U_3 U_4 U_5 U_6 U_7 U_8 U_l
      obtain ⟨T_0, T_1, T_2, T_3, T_4, T_5, T_6, T_7, T_8, T_l⟩ := T28.out.c9
      obtain ⟨U_0, U_1, U_2, U_3, U_4, U_5, U_6, U_7, U_8, U_l⟩ := U28.out.c9
      go_wp2_with fail
      refine (dug_any _ HTB28.out HNA28.out).mono ?_
      rintro e w29 ⟨rfl, hb⟩
      have hB29 : Below w28.heap.size w28 w29 := bTrans (Below.refl _ _) hb
      have HD29 := Lib.hid (bTrans HD28.out hB29)
      have HT29 := Lib.hid (HT28.out.mono hB29)
      have HTB29 := Lib.hid (HTB28.out.mono hB29)
      have HNA29 := Lib.hid (HNA28.out.mono hB29)
      have HFE29 := Lib.hid (HFE28.out.mono hB29)
      have HSC29 := Lib.hid (HSC28.out.mono hB29)
      have HU29 := Lib.hid (HU28.out.mono hB29)
      have T29 := Lib.hid (T28.out.mono hB29)
      have U29 := Lib.hid (U28.out.mono hB29)
      clear hb hB29 HD28 HT28 HTB28 HNA28 HFE28 HSC28 HU28 T28 T_0 T_1 T_2 T_3 T_4 T_5 T_6 T_7 T_8 T_l U28 U_0 U_1 U_2 U_3 U_4 U_5 U_6 U_7 U_8 U_l
      obtain ⟨T_0, T_1, T_2, T_3, T_4, T_5, T_6, T_7, T_8, T_l⟩ := T29.out.c9
      obtain ⟨U_0, U_1, U_2, U_3, U_4, U_5, U_6, U_7, U_8, U_l⟩ := U29.out.c9
      go_wp2_with fail
      go_ret
      exact ⟨rfl, HD29.out⟩
    case pos =>
      subst he
      refine ((by have := whoOutP_any Aw Af Ao Ap (some ⟨b, o, none⟩) cw cf co cp cs t (i : Int) w23 HSM.out HT23.out HTB23.out; rw [HER.out] at this; exact this : Calls Tryz.prog 27 #[.agg #[.int .i64 t.q.wells, .slice Aw t.q.nw cw, .slice Af t.q.nf cf, .slice Ao t.no co, .slice Ap t.np cp, .slice (some ⟨b, o, none⟩) t.ns cs, .int .i64 t.far, .int .i64 t.harm, .int .i64 t.many], .int .i64 (i : Int)] w23 fun e w' => NumsOut w' w23.heap.size 0 (t.who i) e ∧ Below w23.heap.size w23 w')).mono ?_
      rintro e w24 ⟨ho, hb⟩
      obtain ⟨v, rfl, hv⟩ := ho.1 rfl
      obtain ⟨A6, c6, rfl, hi6⟩ := hv.lst
      rw [HZ.out] at hi6 ⊢
      have hB24 : Below w23.heap.size w23 w24 := bTrans (Below.refl _ _) hb
      have HD24 := Lib.hid (bTrans HD23.out hB24)
      have HT24 := Lib.hid (HT23.out.mono hB24)
      have HTB24 := Lib.hid (HTB23.out.mono hB24)
      have HNA24 := Lib.hid (HNA23.out.mono hB24)
      have HFE24 := Lib.hid (HFE23.out.mono hB24)
      have HSC24 := Lib.hid (HSC23.out.mono hB24)
      have HU24 := Lib.hid (HU23.out.mono hB24)
      have HW24 := Lib.hid (hi6)
      have T24 := Lib.hid (T23.out.mono hB24)
      have U24 := Lib.hid (U23.out.mono hB24)
      clear hb hB24 HD23 HT23 HTB23 HNA23 HFE23 HSC23 HU23 T23 T_0 T_1 T_2 T_3 T_4 T_5 T_6 T_7 T_8 T_l U23 U_0 U_1 U_2 U_3 U_4 U_5 U_6 U_7 U_8 U_l
      obtain ⟨T_0, T_1, T_2, T_3, T_4, T_5, T_6, T_7, T_8, T_l⟩ := T24.out.c9
      obtain ⟨U_0, U_1, U_2, U_3, U_4, U_5, U_6, U_7, U_8, U_l⟩ := U24.out.c9
      clear ho hv hi6
      go_wp2_with fail
      refine ((by have := whoOutP_any Bw Bf Bo Bp (some ⟨g, 0, none⟩) dw df do_ dp ds (t.setSh i S2) (i : Int) w24 HSM2.out HU24.out HTB24.out; rw [HKE.out, HER.out, setSh_who] at this; exact this : Calls Tryz.prog 27 #[.agg #[.int .i64 t.q.wells, .slice Bw t.q.nw dw, .slice Bf t.q.nf df, .slice Bo t.no do_, .slice Bp t.np dp, .slice (some ⟨g, 0, none⟩) t.ns ds, .int .i64 t.far, .int .i64 t.harm, .int .i64 t.many], .int .i64 (i : Int)] w24 fun e w' => NumsOut w' w24.heap.size 0 (t.who i) e ∧ Below w24.heap.size w24 w')).mono ?_
      rintro e w25 ⟨ho, hb⟩
      obtain ⟨v, rfl, hv⟩ := ho.1 rfl
      obtain ⟨A7, c7, rfl, hi6⟩ := hv.lst
      rw [HZ.out] at hi6 ⊢
      have hB25 : Below w24.heap.size w24 w25 := bTrans (Below.refl _ _) hb
      have HD25 := Lib.hid (bTrans HD24.out hB25)
      have HT25 := Lib.hid (HT24.out.mono hB25)
      have HTB25 := Lib.hid (HTB24.out.mono hB25)
      have HNA25 := Lib.hid (HNA24.out.mono hB25)
      have HFE25 := Lib.hid (HFE24.out.mono hB25)
      have HSC25 := Lib.hid (HSC24.out.mono hB25)
      have HU25 := Lib.hid (HU24.out.mono hB25)
      have HW25 := Lib.hid (HW24.out.mono hB25)
      have HV925 := Lib.hid (hi6)
      have T25 := Lib.hid (T24.out.mono hB25)
      have U25 := Lib.hid (U24.out.mono hB25)
      clear hb hB25 HD24 HT24 HTB24 HNA24 HFE24 HSC24 HU24 HW24 T24 T_0 T_1 T_2 T_3 T_4 T_5 T_6 T_7 T_8 T_l U24 U_0 U_1 U_2 U_3 U_4 U_5 U_6 U_7 U_8 U_l
      obtain ⟨T_0, T_1, T_2, T_3, T_4, T_5, T_6, T_7, T_8, T_l⟩ := T25.out.c9
      obtain ⟨U_0, U_1, U_2, U_3, U_4, U_5, U_6, U_7, U_8, U_l⟩ := U25.out.c9
      clear ho hv hi6
      go_wp2_with fail
      refine (sameInts_t A6 A7 z c6 c7 _ _ HZL.out HW25.out HV925.out).mono ?_
      rintro e w26 ⟨rfl, hb⟩
      have hB26 : Below w25.heap.size w25 w26 := bTrans (Below.refl _ _) hb
      have HD26 := Lib.hid (bTrans HD25.out hB26)
      have HT26 := Lib.hid (HT25.out.mono hB26)
      have HTB26 := Lib.hid (HTB25.out.mono hB26)
      have HNA26 := Lib.hid (HNA25.out.mono hB26)
      have HFE26 := Lib.hid (HFE25.out.mono hB26)
      have HSC26 := Lib.hid (HSC25.out.mono hB26)
      have HU26 := Lib.hid (HU25.out.mono hB26)
      have HW26 := Lib.hid (HW25.out.mono hB26)
      have HV926 := Lib.hid (HV925.out.mono hB26)
      have T26 := Lib.hid (T25.out.mono hB26)
      have U26 := Lib.hid (U25.out.mono hB26)
      clear hb hB26 HD25 HT25 HTB25 HNA25 HFE25 HSC25 HU25 HW25 HV925 T25 T_0 T_1 T_2 T_3 T_4 T_5 T_6 T_7 T_8 T_l U25 U_0 U_1 U_2 U_3 U_4 U_5 U_6 U_7 U_8 U_l
      obtain ⟨T_0, T_1, T_2, T_3, T_4, T_5, T_6, T_7, T_8, T_l⟩ := T26.out.c9
      obtain ⟨U_0, U_1, U_2, U_3, U_4, U_5, U_6, U_7, U_8, U_l⟩ := U26.out.c9
      go_wp2_with fail
      refine ((by have := wholeP_any Aw Af Ao Ap (some ⟨b, o, none⟩) cw cf co cp cs t (i : Int) w26 HSM.out HT26.out HTB26.out HNA26.out; rw [HW1.out] at this; exact this : Calls Tryz.prog 40 #[.agg #[.int .i64 t.q.wells, .slice Aw t.q.nw cw, .slice Af t.q.nf cf, .slice Ao t.no co, .slice Ap t.np cp, .slice (some ⟨b, o, none⟩) t.ns cs, .int .i64 t.far, .int .i64 t.harm, .int .i64 t.many], .int .i64 (i : Int)] w26 fun e w' => e = .returned (.tuple #[.int .i64 wp, .int .i64 wh]) ∧ Below w26.heap.size w26 w')).mono ?_
      rintro e w27 ⟨rfl, hb⟩
      have hB27 : Below w26.heap.size w26 w27 := bTrans (Below.refl _ _) hb
      have HD27 := Lib.hid (bTrans HD26.out hB27)
      have HT27 := Lib.hid (HT26.out.mono hB27)
      have HTB27 := Lib.hid (HTB26.out.mono hB27)
      have HNA27 := Lib.hid (HNA26.out.mono hB27)
      have HFE27 := Lib.hid (HFE26.out.mono hB27)
      have HSC27 := Lib.hid (HSC26.out.mono hB27)
      have HU27 := Lib.hid (HU26.out.mono hB27)
      have HW27 := Lib.hid (HW26.out.mono hB27)
      have HV927 := Lib.hid (HV926.out.mono hB27)
      have T27 := Lib.hid (T26.out.mono hB27)
      have U27 := Lib.hid (U26.out.mono hB27)
      clear hb hB27 HD26 HT26 HTB26 HNA26 HFE26 HSC26 HU26 HW26 HV926 T26 T_0 T_1 T_2 T_3 T_4 T_5 T_6 T_7 T_8 T_l U26 U_0 U_1 U_2 U_3 U_4 U_5 U_6 U_7 U_8 U_l
      obtain ⟨T_0, T_1, T_2, T_3, T_4, T_5, T_6, T_7, T_8, T_l⟩ := T27.out.c9
      obtain ⟨U_0, U_1, U_2, U_3, U_4, U_5, U_6, U_7, U_8, U_l⟩ := U27.out.c9
      go_wp2_with fail
      refine ((by have := wholeP_any Bw Bf Bo Bp (some ⟨g, 0, none⟩) dw df do_ dp ds (t.setSh i S2) (i : Int) w27 HSM2.out HU27.out HTB27.out HNA27.out; rw [HW2.out] at this; exact this : Calls Tryz.prog 40 #[.agg #[.int .i64 t.q.wells, .slice Bw t.q.nw dw, .slice Bf t.q.nf df, .slice Bo t.no do_, .slice Bp t.np dp, .slice (some ⟨g, 0, none⟩) t.ns ds, .int .i64 t.far, .int .i64 t.harm, .int .i64 t.many], .int .i64 (i : Int)] w27 fun e w' => e = .returned (.tuple #[.int .i64 wq, .int .i64 wi]) ∧ Below w27.heap.size w27 w')).mono ?_
      rintro e w28 ⟨rfl, hb⟩
      have hB28 : Below w27.heap.size w27 w28 := bTrans (Below.refl _ _) hb
      have HD28 := Lib.hid (bTrans HD27.out hB28)
      have HT28 := Lib.hid (HT27.out.mono hB28)
      have HTB28 := Lib.hid (HTB27.out.mono hB28)
      have HNA28 := Lib.hid (HNA27.out.mono hB28)
      have HFE28 := Lib.hid (HFE27.out.mono hB28)
      have HSC28 := Lib.hid (HSC27.out.mono hB28)
      have HU28 := Lib.hid (HU27.out.mono hB28)
      have HW28 := Lib.hid (HW27.out.mono hB28)
      have HV928 := Lib.hid (HV927.out.mono hB28)
      have T28 := Lib.hid (T27.out.mono hB28)
      have U28 := Lib.hid (U27.out.mono hB28)
      clear hb hB28 HD27 HT27 HTB27 HNA27 HFE27 HSC27 HU27 HW27 HV927 T27 T_0 T_1 T_2 T_3 T_4 T_5 T_6 T_7 T_8 T_l U27 U_0 U_1 U_2 U_3 U_4 U_5 U_6 U_7 U_8 U_l
      obtain ⟨T_0, T_1, T_2, T_3, T_4, T_5, T_6, T_7, T_8, T_l⟩ := T28.out.c9
      obtain ⟨U_0, U_1, U_2, U_3, U_4, U_5, U_6, U_7, U_8, U_l⟩ := U28.out.c9
      go_wp2_with fail
      refine (dug_any _ HTB28.out HNA28.out).mono ?_
      rintro e w29 ⟨rfl, hb⟩
      have hB29 : Below w28.heap.size w28 w29 := bTrans (Below.refl _ _) hb
      have HD29 := Lib.hid (bTrans HD28.out hB29)
      have HT29 := Lib.hid (HT28.out.mono hB29)
      have HTB29 := Lib.hid (HTB28.out.mono hB29)
      have HNA29 := Lib.hid (HNA28.out.mono hB29)
      have HFE29 := Lib.hid (HFE28.out.mono hB29)
      have HSC29 := Lib.hid (HSC28.out.mono hB29)
      have HU29 := Lib.hid (HU28.out.mono hB29)
      have HW29 := Lib.hid (HW28.out.mono hB29)
      have HV929 := Lib.hid (HV928.out.mono hB29)
      have T29 := Lib.hid (T28.out.mono hB29)
      have U29 := Lib.hid (U28.out.mono hB29)
      clear hb hB29 HD28 HT28 HTB28 HNA28 HFE28 HSC28 HU28 HW28 HV928 T28 T_0 T_1 T_2 T_3 T_4 T_5 T_6 T_7 T_8 T_l U28 U_0 U_1 U_2 U_3 U_4 U_5 U_6 U_7 U_8 U_l
      obtain ⟨T_0, T_1, T_2, T_3, T_4, T_5, T_6, T_7, T_8, T_l⟩ := T29.out.c9
      obtain ⟨U_0, U_1, U_2, U_3, U_4, U_5, U_6, U_7, U_8, U_l⟩ := U29.out.c9
      go_wp2_with fail
      go_ret
      exact ⟨rfl, HD29.out⟩
  · clear HPC
    obtain ⟨d1, d2, d3, d4⟩ := HBD.out
    have HWB := Lib.hid hwb
    have hwn : IntKind.i64.wrap (n2 - n1) = nb := by rw [hnb]; exact IntWalk.i64_in _ (by omega)
    obtain ⟨lo, hlo⟩ : ∃ lo, (if n2 < n1 then n2 else n1) = lo := ⟨_, rfl⟩
    obtain ⟨hi, hhi⟩ : ∃ hi, (if n1 < n2 then n2 else n1) = hi := ⟨_, rfl⟩
    have l0 : ¬ lo < 0 := by rw [← hlo]; split <;> omega
    have l1 : decide (lo < 0) = false := by simp; omega
    have h0 : ¬ hi > 100000 := by rw [← hhi]; split <;> omega
    have h1 : ¬ 100000 < hi := h0
    have h2 : decide (hi > 100000) = false := by simp; omega
    have h3 : decide (100000 < hi) = false := by simp; omega
    have HNB := Lib.hid hnb
    clear hnb hwb d1 d2 d3 d4
    go_wp2_with fail
    clear hwn hlo hhi l0 l1 h0 h1 h2 h3
    by_cases he : er = 0
    case neg =>
      have HNZ := Lib.hid he
      clear he
      refine ((by have := whoOutP_any Aw Af Ao Ap (some ⟨b, o, none⟩) cw cf co cp cs t (i : Int) w23 HSM.out HT23.out HTB23.out; rw [HER.out] at this; exact this : Calls Tryz.prog 27 #[.agg #[.int .i64 t.q.wells, .slice Aw t.q.nw cw, .slice Af t.q.nf cf, .slice Ao t.no co, .slice Ap t.np cp, .slice (some ⟨b, o, none⟩) t.ns cs, .int .i64 t.far, .int .i64 t.harm, .int .i64 t.many], .int .i64 (i : Int)] w23 fun e w' => NumsOut w' w23.heap.size er (t.who i) e ∧ Below w23.heap.size w23 w')).mono ?_
      rintro e w24 ⟨ho, hb⟩
      obtain rfl := ho.2 HNZ.out
      have hB24 : Below w23.heap.size w23 w24 := bTrans (Below.refl _ _) hb
      have HD24 := Lib.hid (bTrans HD23.out hB24)
      have HT24 := Lib.hid (HT23.out.mono hB24)
      have HTB24 := Lib.hid (HTB23.out.mono hB24)
      have HNA24 := Lib.hid (HNA23.out.mono hB24)
      have HFE24 := Lib.hid (HFE23.out.mono hB24)
      have HSC24 := Lib.hid (HSC23.out.mono hB24)
      have HU24 := Lib.hid (HU23.out.mono hB24)
      have T24 := Lib.hid (T23.out.mono hB24)
      have U24 := Lib.hid (U23.out.mono hB24)
      clear hb hB24 HD23 HT23 HTB23 HNA23 HFE23 HSC23 HU23 T23 T_0 T_1 T_2 T_3 T_4 T_5 T_6 T_7 T_8 T_l U23 U_0 U_1 U_2 U_3 U_4 U_5 U_6 U_7 U_8 U_l
      obtain ⟨T_0, T_1, T_2, T_3, T_4, T_5, T_6, T_7, T_8, T_l⟩ := T24.out.c9
      obtain ⟨U_0, U_1, U_2, U_3, U_4, U_5, U_6, U_7, U_8, U_l⟩ := U24.out.c9
      clear ho
      go_wp2_with fail
      refine ((by have := whoOutP_any Bw Bf Bo Bp (some ⟨g, 0, none⟩) dw df do_ dp ds (t.setSh i S2) (i : Int) w24 HSM2.out HU24.out HTB24.out; rw [HKE.out, HER.out, setSh_who] at this; exact this : Calls Tryz.prog 27 #[.agg #[.int .i64 t.q.wells, .slice Bw t.q.nw dw, .slice Bf t.q.nf df, .slice Bo t.no do_, .slice Bp t.np dp, .slice (some ⟨g, 0, none⟩) t.ns ds, .int .i64 t.far, .int .i64 t.harm, .int .i64 t.many], .int .i64 (i : Int)] w24 fun e w' => NumsOut w' w24.heap.size er (t.who i) e ∧ Below w24.heap.size w24 w')).mono ?_
      rintro e w25 ⟨ho, hb⟩
      obtain rfl := ho.2 HNZ.out
      have hB25 : Below w24.heap.size w24 w25 := bTrans (Below.refl _ _) hb
      have HD25 := Lib.hid (bTrans HD24.out hB25)
      have HT25 := Lib.hid (HT24.out.mono hB25)
      have HTB25 := Lib.hid (HTB24.out.mono hB25)
      have HNA25 := Lib.hid (HNA24.out.mono hB25)
      have HFE25 := Lib.hid (HFE24.out.mono hB25)
      have HSC25 := Lib.hid (HSC24.out.mono hB25)
      have HU25 := Lib.hid (HU24.out.mono hB25)
      have T25 := Lib.hid (T24.out.mono hB25)
      have U25 := Lib.hid (U24.out.mono hB25)
      clear hb hB25 HD24 HT24 HTB24 HNA24 HFE24 HSC24 HU24 T24 T_0 T_1 T_2 T_3 T_4 T_5 T_6 T_7 T_8 T_l U24 U_0 U_1 U_2 U_3 U_4 U_5 U_6 U_7 U_8 U_l
      obtain ⟨T_0, T_1, T_2, T_3, T_4, T_5, T_6, T_7, T_8, T_l⟩ := T25.out.c9
      obtain ⟨U_0, U_1, U_2, U_3, U_4, U_5, U_6, U_7, U_8, U_l⟩ := U25.out.c9
      clear ho
      go_wp2_with fail
      refine (sameInts_t none none 0 0 0 (fun _ => 0) _ (by omega) (.inl rfl) (.inl rfl)).mono ?_
      rintro e w26 ⟨rfl, hb⟩
      have hB26 : Below w25.heap.size w25 w26 := bTrans (Below.refl _ _) hb
      have HD26 := Lib.hid (bTrans HD25.out hB26)
      have HT26 := Lib.hid (HT25.out.mono hB26)
      have HTB26 := Lib.hid (HTB25.out.mono hB26)
      have HNA26 := Lib.hid (HNA25.out.mono hB26)
      have HFE26 := Lib.hid (HFE25.out.mono hB26)
      have HSC26 := Lib.hid (HSC25.out.mono hB26)
      have HU26 := Lib.hid (HU25.out.mono hB26)
      have T26 := Lib.hid (T25.out.mono hB26)
      have U26 := Lib.hid (U25.out.mono hB26)
      clear hb hB26 HD25 HT25 HTB25 HNA25 HFE25 HSC25 HU25 T25 T_0 T_1 T_2 T_3 T_4 T_5 T_6 T_7 T_8 T_l U25 U_0 U_1 U_2 U_3 U_4 U_5 U_6 U_7 U_8 U_l
      obtain ⟨T_0, T_1, T_2, T_3, T_4, T_5, T_6, T_7, T_8, T_l⟩ := T26.out.c9
      obtain ⟨U_0, U_1, U_2, U_3, U_4, U_5, U_6, U_7, U_8, U_l⟩ := U26.out.c9
      go_wp2_with fail
      refine ((by have := wholeP_any Aw Af Ao Ap (some ⟨b, o, none⟩) cw cf co cp cs t (i : Int) w26 HSM.out HT26.out HTB26.out HNA26.out; rw [HW1.out] at this; exact this : Calls Tryz.prog 40 #[.agg #[.int .i64 t.q.wells, .slice Aw t.q.nw cw, .slice Af t.q.nf cf, .slice Ao t.no co, .slice Ap t.np cp, .slice (some ⟨b, o, none⟩) t.ns cs, .int .i64 t.far, .int .i64 t.harm, .int .i64 t.many], .int .i64 (i : Int)] w26 fun e w' => e = .returned (.tuple #[.int .i64 wp, .int .i64 wh]) ∧ Below w26.heap.size w26 w')).mono ?_
      rintro e w27 ⟨rfl, hb⟩
      have hB27 : Below w26.heap.size w26 w27 := bTrans (Below.refl _ _) hb
      have HD27 := Lib.hid (bTrans HD26.out hB27)
      have HT27 := Lib.hid (HT26.out.mono hB27)
      have HTB27 := Lib.hid (HTB26.out.mono hB27)
      have HNA27 := Lib.hid (HNA26.out.mono hB27)
      have HFE27 := Lib.hid (HFE26.out.mono hB27)
      have HSC27 := Lib.hid (HSC26.out.mono hB27)
      have HU27 := Lib.hid (HU26.out.mono hB27)
      have T27 := Lib.hid (T26.out.mono hB27)
      have U27 := Lib.hid (U26.out.mono hB27)
      clear hb hB27 HD26 HT26 HTB26 HNA26 HFE26 HSC26 HU26 T26 T_0 T_1 T_2 T_3 T_4 T_5 T_6 T_7 T_8 T_l U26 U_0 U_1 U_2 U_3 U_4 U_5 U_6 U_7 U_8 U_l
      obtain ⟨T_0, T_1, T_2, T_3, T_4, T_5, T_6, T_7, T_8, T_l⟩ := T27.out.c9
      obtain ⟨U_0, U_1, U_2, U_3, U_4, U_5, U_6, U_7, U_8, U_l⟩ := U27.out.c9
      go_wp2_with fail
      refine ((by have := wholeP_any Bw Bf Bo Bp (some ⟨g, 0, none⟩) dw df do_ dp ds (t.setSh i S2) (i : Int) w27 HSM2.out HU27.out HTB27.out HNA27.out; rw [HW2.out] at this; exact this : Calls Tryz.prog 40 #[.agg #[.int .i64 t.q.wells, .slice Bw t.q.nw dw, .slice Bf t.q.nf df, .slice Bo t.no do_, .slice Bp t.np dp, .slice (some ⟨g, 0, none⟩) t.ns ds, .int .i64 t.far, .int .i64 t.harm, .int .i64 t.many], .int .i64 (i : Int)] w27 fun e w' => e = .returned (.tuple #[.int .i64 wq, .int .i64 wh]) ∧ Below w27.heap.size w27 w')).mono ?_
      rintro e w28 ⟨rfl, hb⟩
      have hB28 : Below w27.heap.size w27 w28 := bTrans (Below.refl _ _) hb
      have HD28 := Lib.hid (bTrans HD27.out hB28)
      have HT28 := Lib.hid (HT27.out.mono hB28)
      have HTB28 := Lib.hid (HTB27.out.mono hB28)
      have HNA28 := Lib.hid (HNA27.out.mono hB28)
      have HFE28 := Lib.hid (HFE27.out.mono hB28)
      have HSC28 := Lib.hid (HSC27.out.mono hB28)
      have HU28 := Lib.hid (HU27.out.mono hB28)
      have T28 := Lib.hid (T27.out.mono hB28)
      have U28 := Lib.hid (U27.out.mono hB28)
      clear hb hB28 HD27 HT27 HTB27 HNA27 HFE27 HSC27 HU27 T27 T_0 T_1 T_2 T_3 T_4 T_5 T_6 T_7 T_8 T_l U27 U_0 U_1 U_2 U_3 U_4 U_5 U_6 U_7 U_8 U_l
      obtain ⟨T_0, T_1, T_2, T_3, T_4, T_5, T_6, T_7, T_8, T_l⟩ := T28.out.c9
      obtain ⟨U_0, U_1, U_2, U_3, U_4, U_5, U_6, U_7, U_8, U_l⟩ := U28.out.c9
      by_cases hwz : wh = 0
      case neg =>
        have v1 : (wh == 0) = false := by simp; exact hwz
        have v2 : (wh != 0) = true := by simp; exact hwz
        go_wp2_with fail
        refine (dug_any _ HTB28.out HNA28.out).mono ?_
        rintro e w29 ⟨rfl, hb⟩
        have hB29 : Below w28.heap.size w28 w29 := bTrans (Below.refl _ _) hb
        have HD29 := Lib.hid (bTrans HD28.out hB29)
        have HT29 := Lib.hid (HT28.out.mono hB29)
        have HTB29 := Lib.hid (HTB28.out.mono hB29)
        have HNA29 := Lib.hid (HNA28.out.mono hB29)
        have HFE29 := Lib.hid (HFE28.out.mono hB29)
        have HSC29 := Lib.hid (HSC28.out.mono hB29)
        have HU29 := Lib.hid (HU28.out.mono hB29)
        have T29 := Lib.hid (T28.out.mono hB29)
        have U29 := Lib.hid (U28.out.mono hB29)
        clear hb hB29 HD28 HT28 HTB28 HNA28 HFE28 HSC28 HU28 T28 T_0 T_1 T_2 T_3 T_4 T_5 T_6 T_7 T_8 T_l U28 U_0 U_1 U_2 U_3 U_4 U_5 U_6 U_7 U_8 U_l
        obtain ⟨T_0, T_1, T_2, T_3, T_4, T_5, T_6, T_7, T_8, T_l⟩ := T29.out.c9
        obtain ⟨U_0, U_1, U_2, U_3, U_4, U_5, U_6, U_7, U_8, U_l⟩ := U29.out.c9
        go_wp2_with fail
        go_ret
        exact ⟨rfl, HD29.out⟩
      subst hwz
      obtain ⟨d1, d2, d3, d4, d5⟩ := HWB.out rfl
      have hwn : IntKind.i64.wrap (wq - wp) = nb := by rw [← d5]; exact IntWalk.i64_in _ (by omega)
      obtain ⟨lo, hlo⟩ : ∃ lo, (if wq < wp then wq else wp) = lo := ⟨_, rfl⟩
      obtain ⟨hi, hhi⟩ : ∃ hi, (if wp < wq then wq else wp) = hi := ⟨_, rfl⟩
      have l0 : lo ≥ 0 := by rw [← hlo]; split <;> omega
      have l1 : decide (lo ≥ 0) = true := by simp; omega
      have l2 : decide (0 ≤ lo) = true := by simp; omega
      have h0 : hi < 200000 := by rw [← hhi]; split <;> omega
      have h1 : decide (hi < 200000) = true := by simp; omega
      clear d1 d2 d3 d4 d5
      go_wp2_with fail
      clear hwn hlo hhi l0 l1 l2 h0 h1
      refine (dug_any _ HTB28.out HNA28.out).mono ?_
      rintro e w29 ⟨rfl, hb⟩
      have hB29 : Below w28.heap.size w28 w29 := bTrans (Below.refl _ _) hb
      have HD29 := Lib.hid (bTrans HD28.out hB29)
      have HT29 := Lib.hid (HT28.out.mono hB29)
      have HTB29 := Lib.hid (HTB28.out.mono hB29)
      have HNA29 := Lib.hid (HNA28.out.mono hB29)
      have HFE29 := Lib.hid (HFE28.out.mono hB29)
      have HSC29 := Lib.hid (HSC28.out.mono hB29)
      have HU29 := Lib.hid (HU28.out.mono hB29)
      have T29 := Lib.hid (T28.out.mono hB29)
      have U29 := Lib.hid (U28.out.mono hB29)
      clear hb hB29 HD28 HT28 HTB28 HNA28 HFE28 HSC28 HU28 T28 T_0 T_1 T_2 T_3 T_4 T_5 T_6 T_7 T_8 T_l U28 U_0 U_1 U_2 U_3 U_4 U_5 U_6 U_7 U_8 U_l
      obtain ⟨T_0, T_1, T_2, T_3, T_4, T_5, T_6, T_7, T_8, T_l⟩ := T29.out.c9
      obtain ⟨U_0, U_1, U_2, U_3, U_4, U_5, U_6, U_7, U_8, U_l⟩ := U29.out.c9
      go_wp2_with fail
      go_ret
      exact ⟨rfl, HD29.out⟩
    case pos =>
      subst he
      refine ((by have := whoOutP_any Aw Af Ao Ap (some ⟨b, o, none⟩) cw cf co cp cs t (i : Int) w23 HSM.out HT23.out HTB23.out; rw [HER.out] at this; exact this : Calls Tryz.prog 27 #[.agg #[.int .i64 t.q.wells, .slice Aw t.q.nw cw, .slice Af t.q.nf cf, .slice Ao t.no co, .slice Ap t.np cp, .slice (some ⟨b, o, none⟩) t.ns cs, .int .i64 t.far, .int .i64 t.harm, .int .i64 t.many], .int .i64 (i : Int)] w23 fun e w' => NumsOut w' w23.heap.size 0 (t.who i) e ∧ Below w23.heap.size w23 w')).mono ?_
      rintro e w24 ⟨ho, hb⟩
      obtain ⟨v, rfl, hv⟩ := ho.1 rfl
      obtain ⟨A6, c6, rfl, hi6⟩ := hv.lst
      rw [HZ.out] at hi6 ⊢
      have hB24 : Below w23.heap.size w23 w24 := bTrans (Below.refl _ _) hb
      have HD24 := Lib.hid (bTrans HD23.out hB24)
      have HT24 := Lib.hid (HT23.out.mono hB24)
      have HTB24 := Lib.hid (HTB23.out.mono hB24)
      have HNA24 := Lib.hid (HNA23.out.mono hB24)
      have HFE24 := Lib.hid (HFE23.out.mono hB24)
      have HSC24 := Lib.hid (HSC23.out.mono hB24)
      have HU24 := Lib.hid (HU23.out.mono hB24)
      have HW24 := Lib.hid (hi6)
      have T24 := Lib.hid (T23.out.mono hB24)
      have U24 := Lib.hid (U23.out.mono hB24)
      clear hb hB24 HD23 HT23 HTB23 HNA23 HFE23 HSC23 HU23 T23 T_0 T_1 T_2 T_3 T_4 T_5 T_6 T_7 T_8 T_l U23 U_0 U_1 U_2 U_3 U_4 U_5 U_6 U_7 U_8 U_l
      obtain ⟨T_0, T_1, T_2, T_3, T_4, T_5, T_6, T_7, T_8, T_l⟩ := T24.out.c9
      obtain ⟨U_0, U_1, U_2, U_3, U_4, U_5, U_6, U_7, U_8, U_l⟩ := U24.out.c9
      clear ho hv hi6
      go_wp2_with fail
      refine ((by have := whoOutP_any Bw Bf Bo Bp (some ⟨g, 0, none⟩) dw df do_ dp ds (t.setSh i S2) (i : Int) w24 HSM2.out HU24.out HTB24.out; rw [HKE.out, HER.out, setSh_who] at this; exact this : Calls Tryz.prog 27 #[.agg #[.int .i64 t.q.wells, .slice Bw t.q.nw dw, .slice Bf t.q.nf df, .slice Bo t.no do_, .slice Bp t.np dp, .slice (some ⟨g, 0, none⟩) t.ns ds, .int .i64 t.far, .int .i64 t.harm, .int .i64 t.many], .int .i64 (i : Int)] w24 fun e w' => NumsOut w' w24.heap.size 0 (t.who i) e ∧ Below w24.heap.size w24 w')).mono ?_
      rintro e w25 ⟨ho, hb⟩
      obtain ⟨v, rfl, hv⟩ := ho.1 rfl
      obtain ⟨A7, c7, rfl, hi6⟩ := hv.lst
      rw [HZ.out] at hi6 ⊢
      have hB25 : Below w24.heap.size w24 w25 := bTrans (Below.refl _ _) hb
      have HD25 := Lib.hid (bTrans HD24.out hB25)
      have HT25 := Lib.hid (HT24.out.mono hB25)
      have HTB25 := Lib.hid (HTB24.out.mono hB25)
      have HNA25 := Lib.hid (HNA24.out.mono hB25)
      have HFE25 := Lib.hid (HFE24.out.mono hB25)
      have HSC25 := Lib.hid (HSC24.out.mono hB25)
      have HU25 := Lib.hid (HU24.out.mono hB25)
      have HW25 := Lib.hid (HW24.out.mono hB25)
      have HV925 := Lib.hid (hi6)
      have T25 := Lib.hid (T24.out.mono hB25)
      have U25 := Lib.hid (U24.out.mono hB25)
      clear hb hB25 HD24 HT24 HTB24 HNA24 HFE24 HSC24 HU24 HW24 T24 T_0 T_1 T_2 T_3 T_4 T_5 T_6 T_7 T_8 T_l U24 U_0 U_1 U_2 U_3 U_4 U_5 U_6 U_7 U_8 U_l
      obtain ⟨T_0, T_1, T_2, T_3, T_4, T_5, T_6, T_7, T_8, T_l⟩ := T25.out.c9
      obtain ⟨U_0, U_1, U_2, U_3, U_4, U_5, U_6, U_7, U_8, U_l⟩ := U25.out.c9
      clear ho hv hi6
      go_wp2_with fail
      refine (sameInts_t A6 A7 z c6 c7 _ _ HZL.out HW25.out HV925.out).mono ?_
      rintro e w26 ⟨rfl, hb⟩
      have hB26 : Below w25.heap.size w25 w26 := bTrans (Below.refl _ _) hb
      have HD26 := Lib.hid (bTrans HD25.out hB26)
      have HT26 := Lib.hid (HT25.out.mono hB26)
      have HTB26 := Lib.hid (HTB25.out.mono hB26)
      have HNA26 := Lib.hid (HNA25.out.mono hB26)
      have HFE26 := Lib.hid (HFE25.out.mono hB26)
      have HSC26 := Lib.hid (HSC25.out.mono hB26)
      have HU26 := Lib.hid (HU25.out.mono hB26)
      have HW26 := Lib.hid (HW25.out.mono hB26)
      have HV926 := Lib.hid (HV925.out.mono hB26)
      have T26 := Lib.hid (T25.out.mono hB26)
      have U26 := Lib.hid (U25.out.mono hB26)
      clear hb hB26 HD25 HT25 HTB25 HNA25 HFE25 HSC25 HU25 HW25 HV925 T25 T_0 T_1 T_2 T_3 T_4 T_5 T_6 T_7 T_8 T_l U25 U_0 U_1 U_2 U_3 U_4 U_5 U_6 U_7 U_8 U_l
      obtain ⟨T_0, T_1, T_2, T_3, T_4, T_5, T_6, T_7, T_8, T_l⟩ := T26.out.c9
      obtain ⟨U_0, U_1, U_2, U_3, U_4, U_5, U_6, U_7, U_8, U_l⟩ := U26.out.c9
      go_wp2_with fail
      refine ((by have := wholeP_any Aw Af Ao Ap (some ⟨b, o, none⟩) cw cf co cp cs t (i : Int) w26 HSM.out HT26.out HTB26.out HNA26.out; rw [HW1.out] at this; exact this : Calls Tryz.prog 40 #[.agg #[.int .i64 t.q.wells, .slice Aw t.q.nw cw, .slice Af t.q.nf cf, .slice Ao t.no co, .slice Ap t.np cp, .slice (some ⟨b, o, none⟩) t.ns cs, .int .i64 t.far, .int .i64 t.harm, .int .i64 t.many], .int .i64 (i : Int)] w26 fun e w' => e = .returned (.tuple #[.int .i64 wp, .int .i64 wh]) ∧ Below w26.heap.size w26 w')).mono ?_
      rintro e w27 ⟨rfl, hb⟩
      have hB27 : Below w26.heap.size w26 w27 := bTrans (Below.refl _ _) hb
      have HD27 := Lib.hid (bTrans HD26.out hB27)
      have HT27 := Lib.hid (HT26.out.mono hB27)
      have HTB27 := Lib.hid (HTB26.out.mono hB27)
      have HNA27 := Lib.hid (HNA26.out.mono hB27)
      have HFE27 := Lib.hid (HFE26.out.mono hB27)
      have HSC27 := Lib.hid (HSC26.out.mono hB27)
      have HU27 := Lib.hid (HU26.out.mono hB27)
      have HW27 := Lib.hid (HW26.out.mono hB27)
      have HV927 := Lib.hid (HV926.out.mono hB27)
      have T27 := Lib.hid (T26.out.mono hB27)
      have U27 := Lib.hid (U26.out.mono hB27)
      clear hb hB27 HD26 HT26 HTB26 HNA26 HFE26 HSC26 HU26 HW26 HV926 T26 T_0 T_1 T_2 T_3 T_4 T_5 T_6 T_7 T_8 T_l U26 U_0 U_1 U_2 U_3 U_4 U_5 U_6 U_7 U_8 U_l
      obtain ⟨T_0, T_1, T_2, T_3, T_4, T_5, T_6, T_7, T_8, T_l⟩ := T27.out.c9
      obtain ⟨U_0, U_1, U_2, U_3, U_4, U_5, U_6, U_7, U_8, U_l⟩ := U27.out.c9
      go_wp2_with fail
      refine ((by have := wholeP_any Bw Bf Bo Bp (some ⟨g, 0, none⟩) dw df do_ dp ds (t.setSh i S2) (i : Int) w27 HSM2.out HU27.out HTB27.out HNA27.out; rw [HW2.out] at this; exact this : Calls Tryz.prog 40 #[.agg #[.int .i64 t.q.wells, .slice Bw t.q.nw dw, .slice Bf t.q.nf df, .slice Bo t.no do_, .slice Bp t.np dp, .slice (some ⟨g, 0, none⟩) t.ns ds, .int .i64 t.far, .int .i64 t.harm, .int .i64 t.many], .int .i64 (i : Int)] w27 fun e w' => e = .returned (.tuple #[.int .i64 wq, .int .i64 wh]) ∧ Below w27.heap.size w27 w')).mono ?_
      rintro e w28 ⟨rfl, hb⟩
      have hB28 : Below w27.heap.size w27 w28 := bTrans (Below.refl _ _) hb
      have HD28 := Lib.hid (bTrans HD27.out hB28)
      have HT28 := Lib.hid (HT27.out.mono hB28)
      have HTB28 := Lib.hid (HTB27.out.mono hB28)
      have HNA28 := Lib.hid (HNA27.out.mono hB28)
      have HFE28 := Lib.hid (HFE27.out.mono hB28)
      have HSC28 := Lib.hid (HSC27.out.mono hB28)
      have HU28 := Lib.hid (HU27.out.mono hB28)
      have HW28 := Lib.hid (HW27.out.mono hB28)
      have HV928 := Lib.hid (HV927.out.mono hB28)
      have T28 := Lib.hid (T27.out.mono hB28)
      have U28 := Lib.hid (U27.out.mono hB28)
      clear hb hB28 HD27 HT27 HTB27 HNA27 HFE27 HSC27 HU27 HW27 HV927 T27 T_0 T_1 T_2 T_3 T_4 T_5 T_6 T_7 T_8 T_l U27 U_0 U_1 U_2 U_3 U_4 U_5 U_6 U_7 U_8 U_l
      obtain ⟨T_0, T_1, T_2, T_3, T_4, T_5, T_6, T_7, T_8, T_l⟩ := T28.out.c9
      obtain ⟨U_0, U_1, U_2, U_3, U_4, U_5, U_6, U_7, U_8, U_l⟩ := U28.out.c9
      by_cases hwz : wh = 0
      case neg =>
        have v1 : (wh == 0) = false := by simp; exact hwz
        have v2 : (wh != 0) = true := by simp; exact hwz
        go_wp2_with fail
        refine (dug_any _ HTB28.out HNA28.out).mono ?_
        rintro e w29 ⟨rfl, hb⟩
        have hB29 : Below w28.heap.size w28 w29 := bTrans (Below.refl _ _) hb
        have HD29 := Lib.hid (bTrans HD28.out hB29)
        have HT29 := Lib.hid (HT28.out.mono hB29)
        have HTB29 := Lib.hid (HTB28.out.mono hB29)
        have HNA29 := Lib.hid (HNA28.out.mono hB29)
        have HFE29 := Lib.hid (HFE28.out.mono hB29)
        have HSC29 := Lib.hid (HSC28.out.mono hB29)
        have HU29 := Lib.hid (HU28.out.mono hB29)
        have HW29 := Lib.hid (HW28.out.mono hB29)
        have HV929 := Lib.hid (HV928.out.mono hB29)
        have T29 := Lib.hid (T28.out.mono hB29)
        have U29 := Lib.hid (U28.out.mono hB29)
        clear hb hB29 HD28 HT28 HTB28 HNA28 HFE28 HSC28 HU28 HW28 HV928 T28 T_0 T_1 T_2 T_3 T_4 T_5 T_6 T_7 T_8 T_l U28 U_0 U_1 U_2 U_3 U_4 U_5 U_6 U_7 U_8 U_l
        obtain ⟨T_0, T_1, T_2, T_3, T_4, T_5, T_6, T_7, T_8, T_l⟩ := T29.out.c9
        obtain ⟨U_0, U_1, U_2, U_3, U_4, U_5, U_6, U_7, U_8, U_l⟩ := U29.out.c9
        go_wp2_with fail
        go_ret
        exact ⟨rfl, HD29.out⟩
      subst hwz
      obtain ⟨d1, d2, d3, d4, d5⟩ := HWB.out rfl
      have hwn : IntKind.i64.wrap (wq - wp) = nb := by rw [← d5]; exact IntWalk.i64_in _ (by omega)
      obtain ⟨lo, hlo⟩ : ∃ lo, (if wq < wp then wq else wp) = lo := ⟨_, rfl⟩
      obtain ⟨hi, hhi⟩ : ∃ hi, (if wp < wq then wq else wp) = hi := ⟨_, rfl⟩
      have l0 : lo ≥ 0 := by rw [← hlo]; split <;> omega
      have l1 : decide (lo ≥ 0) = true := by simp; omega
      have l2 : decide (0 ≤ lo) = true := by simp; omega
      have h0 : hi < 200000 := by rw [← hhi]; split <;> omega
      have h1 : decide (hi < 200000) = true := by simp; omega
      clear d1 d2 d3 d4 d5
      go_wp2_with fail
      clear hwn hlo hhi l0 l1 l2 h0 h1
      refine (dug_any _ HTB28.out HNA28.out).mono ?_
      rintro e w29 ⟨rfl, hb⟩
      have hB29 : Below w28.heap.size w28 w29 := bTrans (Below.refl _ _) hb
      have HD29 := Lib.hid (bTrans HD28.out hB29)
      have HT29 := Lib.hid (HT28.out.mono hB29)
      have HTB29 := Lib.hid (HTB28.out.mono hB29)
      have HNA29 := Lib.hid (HNA28.out.mono hB29)
      have HFE29 := Lib.hid (HFE28.out.mono hB29)
      have HSC29 := Lib.hid (HSC28.out.mono hB29)
      have HU29 := Lib.hid (HU28.out.mono hB29)
      have HW29 := Lib.hid (HW28.out.mono hB29)
      have HV929 := Lib.hid (HV928.out.mono hB29)
      have T29 := Lib.hid (T28.out.mono hB29)
      have U29 := Lib.hid (U28.out.mono hB29)
      clear hb hB29 HD28 HT28 HTB28 HNA28 HFE28 HSC28 HU28 HW28 HV928 T28 T_0 T_1 T_2 T_3 T_4 T_5 T_6 T_7 T_8 T_l U28 U_0 U_1 U_2 U_3 U_4 U_5 U_6 U_7 U_8 U_l
      obtain ⟨T_0, T_1, T_2, T_3, T_4, T_5, T_6, T_7, T_8, T_l⟩ := T29.out.c9
      obtain ⟨U_0, U_1, U_2, U_3, U_4, U_5, U_6, U_7, U_8, U_l⟩ := U29.out.c9
      go_wp2_with fail
      go_ret
      exact ⟨rfl, HD29.out⟩
end Go.Proofs.YthnojgdckkdcgaaGreatDoor

