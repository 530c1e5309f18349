/- Parts joined: what the claim PlacesLooser needs beyond the others. -/
import Derived.Test.YtjpfdhhiofjpbaaGreatDoorNQPlacesLooserA
set_option linter.unusedSimpArgs false
set_option linter.unusedVariables false
namespace Go.Proofs.YtjpfdhhiofjpbaaGreatDoor
open Go.RowKit Go.Sort
theorem sub_any {L M : List Int} (h : ∀ x, x ∈ L → x ∈ M) : ∀ i, i < L.length → anyB (fun j => intL0 M j == intL0 L i) M.length = true := fun i hi => by
  rw [mem_anyB]
  exact decide_eq_true (h _ (intL0_mem hi))
set_option maxHeartbeats 16000000 in
set_option maxRecDepth 100000 in
theorem not9_any (Aw Af Ao Ap As : Option Addr) (cw cf co cp cs : Nat) (t : Pt) (Bw Bf Bo Bp Bs : Option Addr) (dw df do_ dp ds : Nat) (u : Pt) (w : World) (hs : t.Small) (hT : PAt w Aw Af Ao Ap As t) (hs2 : u.Small) (hU : PAt w Bw Bf Bo Bp Bs u) (hB : TabAt w) (hN : NoneAt w) (ok : t.Ok) (ok2 : u.Ok) (hne : t.q.leftL ≠ []) (hne2 : u.q.leftL ≠ []) (hl : Looser u t) :
    Calls Tryz.prog 54 #[.agg #[.int .i64 t.q.wells, .slice Aw t.q.nw cw, .slice Af t.q.nf cf, .slice Ao t.no co, .slice Ap t.np cp, .slice As t.ns cs, .int .i64 t.far, .int .i64 t.harm, .int .i64 t.many], .agg #[.int .i64 u.q.wells, .slice Bw u.q.nw dw, .slice Bf u.q.nf df, .slice Bo u.no do_, .slice Bp u.np dp, .slice Bs u.ns ds, .int .i64 u.far, .int .i64 u.harm, .int .i64 u.many]] w fun e w' => e = .returned (.bool true) ∧ Below w.heap.size w w' := by
  have HD0 := Lib.hid (Below.refl w.heap.size w)
  have HSM := Lib.hid hs
  have HSU := Lib.hid hs2
  have HOK := Lib.hid ok
  have HOK2 := Lib.hid ok2
  have HNE := Lib.hid hne
  have HNE2 := Lib.hid hne2
  have HLO := Lib.hid hl
  have HT0 := Lib.hid hT
  have HU0 := Lib.hid hU
  have HTB0 := Lib.hid hB
  have HNA0 := Lib.hid hN
  clear hs hs2 ok ok2 hne hne2 hl hT hU hB hN
  go_enter Tryz.func54, Tryz.ntmps54
  have hns5 := HOK.out.ns
  have hno4 : t.no ≤ 4 := by have := HOK.out.no; have := HOK.out.q.w1; omega
  obtain ⟨zf, hzf⟩ : ∃ y, t.frees.length = y := ⟨_, rfl⟩
  have HZF := Lib.hid hzf
  clear hzf
  obtain ⟨zg, hzg⟩ : ∃ y, u.frees.length = y := ⟨_, rfl⟩
  have HZG := Lib.hid hzg
  clear hzg
  have hz1 : zf ≤ 40 := by have := selTo_len t.freeB t.ns; have h2 := HZF.out; unfold Pt.frees at h2; omega
  have hz2 : zg ≤ 40 := by have := selTo_len u.freeB u.ns; have h2 := HZG.out; have h3 := HLO.out.ns; unfold Pt.frees at h2; omega
  have HSB := Lib.hid (show ∀ i, i < zf → anyB (fun j => intL0 u.frees j == intL0 t.frees i) zg = true by have := sub_any HLO.out.frees_sub; rw [HZF.out, HZG.out] at this; exact this)
  go_wp2_with fail
  refine ((by have := freeP_any Aw Af Ao Ap As cw cf co cp cs t ((w.alloc (.cells #[.int .i64 t.q.wells, .slice Aw t.q.nw cw, .slice Af t.q.nf cf, .slice Ao t.no co, .slice Ap t.np cp, .slice As t.ns cs, .int .i64 t.far, .int .i64 t.harm, .int .i64 t.many] 29)).alloc (.cells #[.int .i64 u.q.wells, .slice Bw u.q.nw dw, .slice Bf u.q.nf df, .slice Bo u.no do_, .slice Bp u.np dp, .slice Bs u.ns ds, .int .i64 u.far, .int .i64 u.harm, .int .i64 u.many] 29)) HSM.out (HT0.out.mono (bAlloc (bAlloc (Below.refl _ _) (.cells #[.int .i64 t.q.wells, .slice Aw t.q.nw cw, .slice Af t.q.nf cf, .slice Ao t.no co, .slice Ap t.np cp, .slice As t.ns cs, .int .i64 t.far, .int .i64 t.harm, .int .i64 t.many] 29)) (.cells #[.int .i64 u.q.wells, .slice Bw u.q.nw dw, .slice Bf u.q.nf df, .slice Bo u.no do_, .slice Bp u.np dp, .slice Bs u.ns ds, .int .i64 u.far, .int .i64 u.harm, .int .i64 u.many] 29))) (HTB0.out.mono (bAlloc (bAlloc (Below.refl _ _) (.cells #[.int .i64 t.q.wells, .slice Aw t.q.nw cw, .slice Af t.q.nf cf, .slice Ao t.no co, .slice Ap t.np cp, .slice As t.ns cs, .int .i64 t.far, .int .i64 t.harm, .int .i64 t.many] 29)) (.cells #[.int .i64 u.q.wells, .slice Bw u.q.nw dw, .slice Bf u.q.nf df, .slice Bo u.no do_, .slice Bp u.np dp, .slice Bs u.ns ds, .int .i64 u.far, .int .i64 u.harm, .int .i64 u.many] 29))) (HNA0.out.mono (bAlloc (bAlloc (Below.refl _ _) (.cells #[.int .i64 t.q.wells, .slice Aw t.q.nw cw, .slice Af t.q.nf cf, .slice Ao t.no co, .slice Ap t.np cp, .slice As t.ns cs, .int .i64 t.far, .int .i64 t.harm, .int .i64 t.many] 29)) (.cells #[.int .i64 u.q.wells, .slice Bw u.q.nw dw, .slice Bf u.q.nf df, .slice Bo u.no do_, .slice Bp u.np dp, .slice Bs u.ns ds, .int .i64 u.far, .int .i64 u.harm, .int .i64 u.many] 29))); rw [Pt.knowErr_ok HOK.out HNE.out] at this; exact this : Calls Tryz.prog 33 #[.agg #[.int .i64 t.q.wells, .slice Aw t.q.nw cw, .slice Af t.q.nf cf, .slice Ao t.no co, .slice Ap t.np cp, .slice As t.ns cs, .int .i64 t.far, .int .i64 t.harm, .int .i64 t.many]] ((w.alloc (.cells #[.int .i64 t.q.wells, .slice Aw t.q.nw cw, .slice Af t.q.nf cf, .slice Ao t.no co, .slice Ap t.np cp, .slice As t.ns cs, .int .i64 t.far, .int .i64 t.harm, .int .i64 t.many] 29)).alloc (.cells #[.int .i64 u.q.wells, .slice Bw u.q.nw dw, .slice Bf u.q.nf df, .slice Bo u.no do_, .slice Bp u.np dp, .slice Bs u.ns ds, .int .i64 u.far, .int .i64 u.harm, .int .i64 u.many] 29)) fun e w' => NumsOut w' ((w.alloc (.cells #[.int .i64 t.q.wells, .slice Aw t.q.nw cw, .slice Af t.q.nf cf, .slice Ao t.no co, .slice Ap t.np cp, .slice As t.ns cs, .int .i64 t.far, .int .i64 t.harm, .int .i64 t.many] 29)).alloc (.cells #[.int .i64 u.q.wells, .slice Bw u.q.nw dw, .slice Bf u.q.nf df, .slice Bo u.no do_, .slice Bp u.np dp, .slice Bs u.ns ds, .int .i64 u.far, .int .i64 u.harm, .int .i64 u.many] 29)).heap.size 0 (t.frees) e ∧ Below ((w.alloc (.cells #[.int .i64 t.q.wells, .slice Aw t.q.nw cw, .slice Af t.q.nf cf, .slice Ao t.no co, .slice Ap t.np cp, .slice As t.ns cs, .int .i64 t.far, .int .i64 t.harm, .int .i64 t.many] 29)).alloc (.cells #[.int .i64 u.q.wells, .slice Bw u.q.nw dw, .slice Bf u.q.nf df, .slice Bo u.no do_, .slice Bp u.np dp, .slice Bs u.ns ds, .int .i64 u.far, .int .i64 u.harm, .int .i64 u.many] 29)).heap.size ((w.alloc (.cells #[.int .i64 t.q.wells, .slice Aw t.q.nw cw, .slice Af t.q.nf cf, .slice Ao t.no co, .slice Ap t.np cp, .slice As t.ns cs, .int .i64 t.far, .int .i64 t.harm, .int .i64 t.many] 29)).alloc (.cells #[.int .i64 u.q.wells, .slice Bw u.q.nw dw, .slice Bf u.q.nf df, .slice Bo u.no do_, .slice Bp u.np dp, .slice Bs u.ns ds, .int .i64 u.far, .int .i64 u.harm, .int .i64 u.many] 29)) w')).mono ?_
  rintro e w1 ⟨ho, hb⟩
  obtain ⟨v, rfl, hv⟩ := ho.1 rfl
  obtain ⟨A6, c6, rfl, hi6⟩ := hv.lst
  rw [HZF.out] at hi6 ⊢
  have hB1 : Below w.heap.size w w1 := bTrans (bAlloc (bAlloc (Below.refl _ _) (.cells #[.int .i64 t.q.wells, .slice Aw t.q.nw cw, .slice Af t.q.nf cf, .slice Ao t.no co, .slice Ap t.np cp, .slice As t.ns cs, .int .i64 t.far, .int .i64 t.harm, .int .i64 t.many] 29)) (.cells #[.int .i64 u.q.wells, .slice Bw u.q.nw dw, .slice Bf u.q.nf df, .slice Bo u.no do_, .slice Bp u.np dp, .slice Bs u.ns ds, .int .i64 u.far, .int .i64 u.harm, .int .i64 u.many] 29)) hb
  have HD1 := Lib.hid (bTrans HD0.out hB1)
  have HT1 := Lib.hid (HT0.out.mono hB1)
  have HU1 := Lib.hid (HU0.out.mono hB1)
  have HTB1 := Lib.hid (HTB0.out.mono hB1)
  have HNA1 := Lib.hid (HNA0.out.mono hB1)
  have HF1 := Lib.hid (hi6)
  have T1 := Lib.hid (show TBox w1 w.heap.size 29 #[.int .i64 t.q.wells, .slice Aw t.q.nw cw, .slice Af t.q.nf cf, .slice Ao t.no co, .slice Ap t.np cp, .slice As t.ns cs, .int .i64 t.far, .int .i64 t.harm, .int .i64 t.many] from by have := ((TBox.new w #[.int .i64 t.q.wells, .slice Aw t.q.nw cw, .slice Af t.q.nf cf, .slice Ao t.no co, .slice Ap t.np cp, .slice As t.ns cs, .int .i64 t.far, .int .i64 t.harm, .int .i64 t.many] 29).mono (bAlloc (Below.refl _ _) (.cells #[.int .i64 u.q.wells, .slice Bw u.q.nw dw, .slice Bf u.q.nf df, .slice Bo u.no do_, .slice Bp u.np dp, .slice Bs u.ns ds, .int .i64 u.far, .int .i64 u.harm, .int .i64 u.many] 29))).mono hb; simpa using this)
  have U1 := Lib.hid (show TBox w1 (w.heap.size + 1) 29 #[.int .i64 u.q.wells, .slice Bw u.q.nw dw, .slice Bf u.q.nf df, .slice Bo u.no do_, .slice Bp u.np dp, .slice Bs u.ns ds, .int .i64 u.far, .int .i64 u.harm, .int .i64 u.many] from by have := ((TBox.new (w.alloc (.cells #[.int .i64 t.q.wells, .slice Aw t.q.nw cw, .slice Af t.q.nf cf, .slice Ao t.no co, .slice Ap t.np cp, .slice As t.ns cs, .int .i64 t.far, .int .i64 t.harm, .int .i64 t.many] 29)) #[.int .i64 u.q.wells, .slice Bw u.q.nw dw, .slice Bf u.q.nf df, .slice Bo u.no do_, .slice Bp u.np dp, .slice Bs u.ns ds, .int .i64 u.far, .int .i64 u.harm, .int .i64 u.many] 29).mono (Below.refl _ _)).mono hb; simpa using this)
  clear hb hB1 HD0 HT0 HU0 HTB0 HNA0
  obtain ⟨T_0, T_1, T_2, T_3, T_4, T_5, T_6, T_7, T_8, T_l⟩ := T1.out.c9
  obtain ⟨U_0, U_1, U_2, U_3, U_4, U_5, U_6, U_7, U_8, U_l⟩ := U1.out.c9
  clear ho hv hi6
  go_wp2_with fail
  refine ((by have := freeP_any Bw Bf Bo Bp Bs dw df do_ dp ds u w1 HSU.out HU1.out HTB1.out HNA1.out; rw [Pt.knowErr_ok HOK2.out HNE2.out] at this; exact this : Calls Tryz.prog 33 #[.agg #[.int .i64 u.q.wells, .slice Bw u.q.nw dw, .slice Bf u.q.nf df, .slice Bo u.no do_, .slice Bp u.np dp, .slice Bs u.ns ds, .int .i64 u.far, .int .i64 u.harm, .int .i64 u.many]] w1 fun e w' => NumsOut w' w1.heap.size 0 (u.frees) e ∧ Below w1.heap.size w1 w')).mono ?_
  rintro e w2 ⟨ho, hb⟩
  obtain ⟨v, rfl, hv⟩ := ho.1 rfl
  obtain ⟨A7, c7, rfl, hi6⟩ := hv.lst
  rw [HZG.out] at hi6 ⊢
  have hB2 : Below w1.heap.size w1 w2 := bTrans (Below.refl _ _) hb
  have HD2 := Lib.hid (bTrans HD1.out hB2)
  have HT2 := Lib.hid (HT1.out.mono hB2)
  have HU2 := Lib.hid (HU1.out.mono hB2)
  have HTB2 := Lib.hid (HTB1.out.mono hB2)
  have HNA2 := Lib.hid (HNA1.out.mono hB2)
  have HF2 := Lib.hid (HF1.out.mono hB2)
  have HG2 := Lib.hid (hi6)
  have T2 := Lib.hid (T1.out.mono hB2)
  have U2 := Lib.hid (U1.out.mono hB2)
  clear hb hB2 HD1 HT1 HU1 HTB1 HNA1 HF1 T1 T_0 T_1 T_2 T_3 T_4 T_5 T_6 T_7 T_8 T_l U1 U_0 U_1 U_2 U_3 U_4 U_5 U_6 U_7 U_8 U_l
  obtain ⟨T_0, T_1, T_2, T_3, T_4, T_5, T_6, T_7, T_8, T_l⟩ := T2.out.c9
  obtain ⟨U_0, U_1, U_2, U_3, U_4, U_5, U_6, U_7, U_8, U_l⟩ := U2.out.c9
  clear ho hv hi6
  go_wp2_with fail
  refine (subset9_any A6 A7 zf zg c6 c7 (intL0 t.frees) (intL0 u.frees) _ hz1 hz2 HF2.out HG2.out HSB.out).mono ?_
  rintro e w3 ⟨rfl, hb⟩
  have hB3 : Below w2.heap.size w2 w3 := bTrans (Below.refl _ _) hb
  have HD3 := Lib.hid (bTrans HD2.out hB3)
  have HT3 := Lib.hid (HT2.out.mono hB3)
  have HU3 := Lib.hid (HU2.out.mono hB3)
  have HTB3 := Lib.hid (HTB2.out.mono hB3)
  have HNA3 := Lib.hid (HNA2.out.mono hB3)
  have T3 := Lib.hid (T2.out.mono hB3)
  have U3 := Lib.hid (U2.out.mono hB3)
  clear hb hB3 HD2 HT2 HU2 HTB2 HNA2 HF2 HG2 T2 T_0 T_1 T_2 T_3 T_4 T_5 T_6 T_7 T_8 T_l U2 U_0 U_1 U_2 U_3 U_4 U_5 U_6 U_7 U_8 U_l
  obtain ⟨T_0, T_1, T_2, T_3, T_4, T_5, T_6, T_7, T_8, T_l⟩ := T3.out.c9
  obtain ⟨U_0, U_1, U_2, U_3, U_4, U_5, U_6, U_7, U_8, U_l⟩ := U3.out.c9
  go_wp2_with fail
  clear hz1 hz2
  clear T_0 T_1 T_2 T_3 T_4 T_5 T_6 T_7 T_8 T_l U_0 U_1 U_2 U_3 U_4 U_5 U_6 U_7 U_8 U_l
  go_loopw [9] (fun s9 wr => ∃ k : Nat, k ≤ t.ns ∧ s9 = .int .i64 (k : Int) ∧ Below w3.heap.size w3 wr) (fun s9 _ => t.ns - (intOf s9).toNat)
  case atStart => exact ⟨0, Nat.zero_le _, rfl, Below.refl _ _⟩
  case round =>
    obtain ⟨k, hk_k, rfl, hb⟩ := hrel
    have HBk := Lib.hid hb
    have hB4 : Below w3.heap.size w3 wr := bTrans (Below.refl _ _) hb
    have HD4 := Lib.hid (bTrans HD3.out hB4)
    have HT4 := Lib.hid (HT3.out.mono hB4)
    have HU4 := Lib.hid (HU3.out.mono hB4)
    have HTB4 := Lib.hid (HTB3.out.mono hB4)
    have HNA4 := Lib.hid (HNA3.out.mono hB4)
    have HU_k4 := Lib.hid ((show Upto w3 wr from HBk.out))
    have T4 := Lib.hid (T3.out.mono hB4)
    have U4 := Lib.hid (U3.out.mono hB4)
    clear hb hB4
    obtain ⟨T_0, T_1, T_2, T_3, T_4, T_5, T_6, T_7, T_8, T_l⟩ := T4.out.c9
    obtain ⟨U_0, U_1, U_2, U_3, U_4, U_5, U_6, U_7, U_8, U_l⟩ := U4.out.c9
    by_cases hlt_k : k < t.ns
    case pos =>
      have h1_k : (k : Int) < (t.ns : Int) := by omega
      have h0_k : (0 : Int) ≤ (k : Int) := by omega
      have hb_k : k < 100 := by omega
      obtain ⟨zk, hzk⟩ : ∃ y, (t.who k).length = y := ⟨_, rfl⟩
      have HZK := Lib.hid hzk
      clear hzk
      obtain ⟨zl, hzl⟩ : ∃ y, (u.who k).length = y := ⟨_, rfl⟩
      have HZL := Lib.hid hzl
      clear hzl
      obtain ⟨m, hm⟩ : ∃ y, t.whole k = y := ⟨_, rfl⟩
      have HM := Lib.hid hm
      clear hm
      obtain ⟨n, hn⟩ : ∃ y, u.whole k = y := ⟨_, rfl⟩
      have HMN := Lib.hid hn
      clear hn
      obtain ⟨cb, hcb⟩ : ∃ y, t.canB k = y := ⟨_, rfl⟩
      have HCB := Lib.hid hcb
      clear hcb
      have HKU := Lib.hid (show k < u.ns by rw [HLO.out.ns]; exact hlt_k)
      have HKT := Lib.hid hlt_k
      have hz1 : zk ≤ 40 := by have h1 := selTo_len (t.whoB k) t.m; have h2 := HZK.out; have h3 := Pt.m_no HOK.out; unfold Pt.who at h2; omega
      have hz2 : zl ≤ 40 := by have h1 := selTo_len (u.whoB k) u.m; have h2 := HZL.out; have h3 := Pt.m_no HOK.out; have h4 := HLO.out.m; unfold Pt.who at h2; omega
      have HSB2 := Lib.hid (show ∀ i, i < zl → anyB (fun j => intL0 (t.who k) j == intL0 (u.who k) i) zk = true by have := sub_any (HLO.out.who_sub hlt_k); rw [HZK.out, HZL.out] at this; exact this)
      have hmn : n ≤ m := by rw [← HM.out, ← HMN.out]; exact HLO.out.whole hlt_k
      have HWT := Lib.hid (show t.wholeOut (k : Int) = if cb then (m, 0) else (0, 3) by rw [whole_out HOK.out HNE.out hlt_k, HCB.out, HM.out])
      have HWU := Lib.hid (show u.wholeOut (k : Int) = if cb then (n, 0) else (0, 3) by rw [whole_out HOK2.out HNE2.out HKU.out, HLO.out.canB hlt_k, HCB.out, HMN.out])
      have hnm : ¬ n > m := by omega
      have hnm2 : ¬ m < n := by omega
      have HZ1 := Lib.hid hz1
      have HZ2 := Lib.hid hz2
      clear hz1 hz2 hmn
      go_wp2_with fail
      refine ((by have := whoOutP_any Aw Af Ao Ap As cw cf co cp cs t (k : Int) wr HSM.out HT4.out HTB4.out; rw [hasB_in HKT.out, Pt.knowErr_ok HOK.out HNE.out, Int.toNat_natCast] at this; exact this : Calls Tryz.prog 30 #[.agg #[.int .i64 t.q.wells, .slice Aw t.q.nw cw, .slice Af t.q.nf cf, .slice Ao t.no co, .slice Ap t.np cp, .slice As t.ns cs, .int .i64 t.far, .int .i64 t.harm, .int .i64 t.many], .int .i64 (k : Int)] wr fun e w' => NumsOut w' wr.heap.size 0 (t.who k) e ∧ Below wr.heap.size wr w')).mono ?_
      rintro e w5 ⟨ho, hb⟩
      obtain ⟨v, rfl, hv⟩ := ho.1 rfl
      obtain ⟨A8, c8, rfl, hi6⟩ := hv.lst
      rw [HZK.out] at hi6 ⊢
      have hB5 : Below wr.heap.size wr w5 := bTrans (Below.refl _ _) hb
      have HD5 := Lib.hid (bTrans HD4.out hB5)
      have HT5 := Lib.hid (HT4.out.mono hB5)
      have HU5 := Lib.hid (HU4.out.mono hB5)
      have HTB5 := Lib.hid (HTB4.out.mono hB5)
      have HNA5 := Lib.hid (HNA4.out.mono hB5)
      have HU_k5 := Lib.hid (HU_k4.out.mono hB5)
      have HV5 := Lib.hid (hi6)
      have T5 := Lib.hid (T4.out.mono hB5)
      have U5 := Lib.hid (U4.out.mono hB5)
      clear hb hB5 HD4 HT4 HU4 HTB4 HNA4 HU_k4 T4 T_0 T_1 T_2 T_3 T_4 T_5 T_6 T_7 T_8 T_l U4 U_0 U_1 U_2 U_3 U_4 U_5 U_6 U_7 U_8 U_l
      obtain ⟨T_0, T_1, T_2, T_3, T_4, T_5, T_6, T_7, T_8, T_l⟩ := T5.out.c9
      obtain ⟨U_0, U_1, U_2, U_3, U_4, U_5, U_6, U_7, U_8, U_l⟩ := U5.out.c9
      clear ho hv hi6
      go_wp2_with fail
      refine ((by have := whoOutP_any Bw Bf Bo Bp Bs dw df do_ dp ds u (k : Int) w5 HSU.out HU5.out HTB5.out; rw [hasB_in HKU.out, Pt.knowErr_ok HOK2.out HNE2.out, Int.toNat_natCast] at this; exact this : Calls Tryz.prog 30 #[.agg #[.int .i64 u.q.wells, .slice Bw u.q.nw dw, .slice Bf u.q.nf df, .slice Bo u.no do_, .slice Bp u.np dp, .slice Bs u.ns ds, .int .i64 u.far, .int .i64 u.harm, .int .i64 u.many], .int .i64 (k : Int)] w5 fun e w' => NumsOut w' w5.heap.size 0 (u.who k) e ∧ Below w5.heap.size w5 w')).mono ?_
      rintro e w6 ⟨ho, hb⟩
      obtain ⟨v, rfl, hv⟩ := ho.1 rfl
      obtain ⟨A9, c9, rfl, hi6⟩ := hv.lst
      rw [HZL.out] at hi6 ⊢
      have hB6 : Below w5.heap.size w5 w6 := bTrans (Below.refl _ _) hb
      have HD6 := Lib.hid (bTrans HD5.out hB6)
      have HT6 := Lib.hid (HT5.out.mono hB6)
      have HU6 := Lib.hid (HU5.out.mono hB6)
      have HTB6 := Lib.hid (HTB5.out.mono hB6)
      have HNA6 := Lib.hid (HNA5.out.mono hB6)
      have HU_k6 := Lib.hid (HU_k5.out.mono hB6)
      have HV6 := Lib.hid (HV5.out.mono hB6)
      have HW6 := Lib.hid (hi6)
      have T6 := Lib.hid (T5.out.mono hB6)
      have U6 := Lib.hid (U5.out.mono hB6)
      clear hb hB6 HD5 HT5 HU5 HTB5 HNA5 HU_k5 HV5 T5 T_0 T_1 T_2 T_3 T_4 T_5 T_6 T_7 T_8 T_l U5 U_0 U_1 U_2 U_3 U_4 U_5 U_6 U_7 U_8 U_l
      obtain ⟨T_0, T_1, T_2, T_3, T_4, T_5, T_6, T_7, T_8, T_l⟩ := T6.out.c9
      obtain ⟨U_0, U_1, U_2, U_3, U_4, U_5, U_6, U_7, U_8, U_l⟩ := U6.out.c9
      clear ho hv hi6
      go_wp2_with fail
      cases cb
      · skip
        have HWT := Lib.hid (show t.wholeOut (k : Int) = (0, 3) from HWT.out)
        have HWU := Lib.hid (show u.wholeOut (k : Int) = (0, 3) from HWU.out)
        refine ((by have := wholeP_any Aw Af Ao Ap As cw cf co cp cs t (k : Int) w6 HSM.out HT6.out HTB6.out HNA6.out; rw [HWT.out] at this; exact this : Calls Tryz.prog 49 #[.agg #[.int .i64 t.q.wells, .slice Aw t.q.nw cw, .slice Af t.q.nf cf, .slice Ao t.no co, .slice Ap t.np cp, .slice As t.ns cs, .int .i64 t.far, .int .i64 t.harm, .int .i64 t.many], .int .i64 (k : Int)] w6 fun e w' => e = .returned (.tuple #[.int .i64 0, .int .i64 3]) ∧ Below w6.heap.size w6 w')).mono ?_
        rintro e w7 ⟨rfl, hb⟩
        have hB7 : Below w6.heap.size w6 w7 := bTrans (Below.refl _ _) hb
        have HD7 := Lib.hid (bTrans HD6.out hB7)
        have HT7 := Lib.hid (HT6.out.mono hB7)
        have HU7 := Lib.hid (HU6.out.mono hB7)
        have HTB7 := Lib.hid (HTB6.out.mono hB7)
        have HNA7 := Lib.hid (HNA6.out.mono hB7)
        have HU_k7 := Lib.hid (HU_k6.out.mono hB7)
        have HV7 := Lib.hid (HV6.out.mono hB7)
        have HW7 := Lib.hid (HW6.out.mono hB7)
        have T7 := Lib.hid (T6.out.mono hB7)
        have U7 := Lib.hid (U6.out.mono hB7)
        clear hb hB7 HD6 HT6 HU6 HTB6 HNA6 HU_k6 HV6 HW6 T6 T_0 T_1 T_2 T_3 T_4 T_5 T_6 T_7 T_8 T_l U6 U_0 U_1 U_2 U_3 U_4 U_5 U_6 U_7 U_8 U_l
        obtain ⟨T_0, T_1, T_2, T_3, T_4, T_5, T_6, T_7, T_8, T_l⟩ := T7.out.c9
        obtain ⟨U_0, U_1, U_2, U_3, U_4, U_5, U_6, U_7, U_8, U_l⟩ := U7.out.c9
        go_wp2_with fail
        refine ((by have := wholeP_any Bw Bf Bo Bp Bs dw df do_ dp ds u (k : Int) w7 HSU.out HU7.out HTB7.out HNA7.out; rw [HWU.out] at this; exact this : Calls Tryz.prog 49 #[.agg #[.int .i64 u.q.wells, .slice Bw u.q.nw dw, .slice Bf u.q.nf df, .slice Bo u.no do_, .slice Bp u.np dp, .slice Bs u.ns ds, .int .i64 u.far, .int .i64 u.harm, .int .i64 u.many], .int .i64 (k : Int)] w7 fun e w' => e = .returned (.tuple #[.int .i64 0, .int .i64 3]) ∧ Below w7.heap.size w7 w')).mono ?_
        rintro e w8 ⟨rfl, hb⟩
        have hB8 : Below w7.heap.size w7 w8 := bTrans (Below.refl _ _) hb
        have HD8 := Lib.hid (bTrans HD7.out hB8)
        have HT8 := Lib.hid (HT7.out.mono hB8)
        have HU8 := Lib.hid (HU7.out.mono hB8)
        have HTB8 := Lib.hid (HTB7.out.mono hB8)
        have HNA8 := Lib.hid (HNA7.out.mono hB8)
        have HU_k8 := Lib.hid (HU_k7.out.mono hB8)
        have HV8 := Lib.hid (HV7.out.mono hB8)
        have HW8 := Lib.hid (HW7.out.mono hB8)
        have T8 := Lib.hid (T7.out.mono hB8)
        have U8 := Lib.hid (U7.out.mono hB8)
        clear hb hB8 HD7 HT7 HU7 HTB7 HNA7 HU_k7 HV7 HW7 T7 T_0 T_1 T_2 T_3 T_4 T_5 T_6 T_7 T_8 T_l U7 U_0 U_1 U_2 U_3 U_4 U_5 U_6 U_7 U_8 U_l
        obtain ⟨T_0, T_1, T_2, T_3, T_4, T_5, T_6, T_7, T_8, T_l⟩ := T8.out.c9
        obtain ⟨U_0, U_1, U_2, U_3, U_4, U_5, U_6, U_7, U_8, U_l⟩ := U8.out.c9
        go_wp2_with fail
        refine (subset9_any A9 A8 zl zk c9 c8 (intL0 (u.who k)) (intL0 (t.who k)) _ HZ2.out HZ1.out HW8.out HV8.out HSB2.out).mono ?_
        rintro e w9 ⟨rfl, hb⟩
        have hB9 : Below w8.heap.size w8 w9 := bTrans (Below.refl _ _) hb
        have HD9 := Lib.hid (bTrans HD8.out hB9)
        have HT9 := Lib.hid (HT8.out.mono hB9)
        have HU9 := Lib.hid (HU8.out.mono hB9)
        have HTB9 := Lib.hid (HTB8.out.mono hB9)
        have HNA9 := Lib.hid (HNA8.out.mono hB9)
        have HU_k9 := Lib.hid (HU_k8.out.mono hB9)
        have HV9 := Lib.hid (HV8.out.mono hB9)
        have HW9 := Lib.hid (HW8.out.mono hB9)
        have T9 := Lib.hid (T8.out.mono hB9)
        have U9 := Lib.hid (U8.out.mono hB9)
        clear hb hB9 HD8 HT8 HU8 HTB8 HNA8 HU_k8 HV8 HW8 T8 T_0 T_1 T_2 T_3 T_4 T_5 T_6 T_7 T_8 T_l U8 U_0 U_1 U_2 U_3 U_4 U_5 U_6 U_7 U_8 U_l
        obtain ⟨T_0, T_1, T_2, T_3, T_4, T_5, T_6, T_7, T_8, T_l⟩ := T9.out.c9
        obtain ⟨U_0, U_1, U_2, U_3, U_4, U_5, U_6, U_7, U_8, U_l⟩ := U9.out.c9
        go_wp2_with fail
        refine (isKnown9_any 3 _).mono ?_
        rintro e w10 ⟨rfl, hb⟩
        have hB10 : Below w9.heap.size w9 w10 := bTrans (Below.refl _ _) hb
        have HD10 := Lib.hid (bTrans HD9.out hB10)
        have HT10 := Lib.hid (HT9.out.mono hB10)
        have HU10 := Lib.hid (HU9.out.mono hB10)
        have HTB10 := Lib.hid (HTB9.out.mono hB10)
        have HNA10 := Lib.hid (HNA9.out.mono hB10)
        have HU_k10 := Lib.hid (HU_k9.out.mono hB10)
        have HV10 := Lib.hid (HV9.out.mono hB10)
        have HW10 := Lib.hid (HW9.out.mono hB10)
        have T10 := Lib.hid (T9.out.mono hB10)
        have U10 := Lib.hid (U9.out.mono hB10)
        clear hb hB10 HD9 HT9 HU9 HTB9 HNA9 HU_k9 HV9 HW9 T9 T_0 T_1 T_2 T_3 T_4 T_5 T_6 T_7 T_8 T_l U9 U_0 U_1 U_2 U_3 U_4 U_5 U_6 U_7 U_8 U_l
        obtain ⟨T_0, T_1, T_2, T_3, T_4, T_5, T_6, T_7, T_8, T_l⟩ := T10.out.c9
        obtain ⟨U_0, U_1, U_2, U_3, U_4, U_5, U_6, U_7, U_8, U_l⟩ := U10.out.c9
        go_wp2_with fail
        go_roundw
        case rel =>
          first
          | exact ⟨k + 1, by omega, by go_num, HU_k10.out⟩
          | ((repeat apply Exists.intro)
             refine ⟨⟨k + 1, by omega, ?_, HU_k10.out⟩, rfl⟩
             go_num)
        case measure => simp [intOf]; omega
      · skip
        have HWT := Lib.hid (show t.wholeOut (k : Int) = (m, 0) from HWT.out)
        have HWU := Lib.hid (show u.wholeOut (k : Int) = (n, 0) from HWU.out)
        refine ((by have := wholeP_any Aw Af Ao Ap As cw cf co cp cs t (k : Int) w6 HSM.out HT6.out HTB6.out HNA6.out; rw [HWT.out] at this; exact this : Calls Tryz.prog 49 #[.agg #[.int .i64 t.q.wells, .slice Aw t.q.nw cw, .slice Af t.q.nf cf, .slice Ao t.no co, .slice Ap t.np cp, .slice As t.ns cs, .int .i64 t.far, .int .i64 t.harm, .int .i64 t.many], .int .i64 (k : Int)] w6 fun e w' => e = .returned (.tuple #[.int .i64 m, .int .i64 0]) ∧ Below w6.heap.size w6 w')).mono ?_
        rintro e w7 ⟨rfl, hb⟩
        have hB7 : Below w6.heap.size w6 w7 := bTrans (Below.refl _ _) hb
        have HD7 := Lib.hid (bTrans HD6.out hB7)
        have HT7 := Lib.hid (HT6.out.mono hB7)
        have HU7 := Lib.hid (HU6.out.mono hB7)
        have HTB7 := Lib.hid (HTB6.out.mono hB7)
        have HNA7 := Lib.hid (HNA6.out.mono hB7)
        have HU_k7 := Lib.hid (HU_k6.out.mono hB7)
        have HV7 := Lib.hid (HV6.out.mono hB7)
        have HW7 := Lib.hid (HW6.out.mono hB7)
        have T7 := Lib.hid (T6.out.mono hB7)
        have U7 := Lib.hid (U6.out.mono hB7)
        clear hb hB7 HD6 HT6 HU6 HTB6 HNA6 HU_k6 HV6 HW6 T6 T_0 T_1 T_2 T_3 T_4 T_5 T_6 T_7 T_8 T_l U6 U_0 U_1 U_2 U_3 U_4 U_5 U_6 U_7 U_8 U_l
        obtain ⟨T_0, T_1, T_2, T_3, T_4, T_5, T_6, T_7, T_8, T_l⟩ := T7.out.c9
        obtain ⟨U_0, U_1, U_2, U_3, U_4, U_5, U_6, U_7, U_8, U_l⟩ := U7.out.c9
        go_wp2_with fail
        refine ((by have := wholeP_any Bw Bf Bo Bp Bs dw df do_ dp ds u (k : Int) w7 HSU.out HU7.out HTB7.out HNA7.out; rw [HWU.out] at this; exact this : Calls Tryz.prog 49 #[.agg #[.int .i64 u.q.wells, .slice Bw u.q.nw dw, .slice Bf u.q.nf df, .slice Bo u.no do_, .slice Bp u.np dp, .slice Bs u.ns ds, .int .i64 u.far, .int .i64 u.harm, .int .i64 u.many], .int .i64 (k : Int)] w7 fun e w' => e = .returned (.tuple #[.int .i64 n, .int .i64 0]) ∧ Below w7.heap.size w7 w')).mono ?_
        rintro e w8 ⟨rfl, hb⟩
        have hB8 : Below w7.heap.size w7 w8 := bTrans (Below.refl _ _) hb
        have HD8 := Lib.hid (bTrans HD7.out hB8)
        have HT8 := Lib.hid (HT7.out.mono hB8)
        have HU8 := Lib.hid (HU7.out.mono hB8)
        have HTB8 := Lib.hid (HTB7.out.mono hB8)
        have HNA8 := Lib.hid (HNA7.out.mono hB8)
        have HU_k8 := Lib.hid (HU_k7.out.mono hB8)
        have HV8 := Lib.hid (HV7.out.mono hB8)
        have HW8 := Lib.hid (HW7.out.mono hB8)
        have T8 := Lib.hid (T7.out.mono hB8)
        have U8 := Lib.hid (U7.out.mono hB8)
        clear hb hB8 HD7 HT7 HU7 HTB7 HNA7 HU_k7 HV7 HW7 T7 T_0 T_1 T_2 T_3 T_4 T_5 T_6 T_7 T_8 T_l U7 U_0 U_1 U_2 U_3 U_4 U_5 U_6 U_7 U_8 U_l
        obtain ⟨T_0, T_1, T_2, T_3, T_4, T_5, T_6, T_7, T_8, T_l⟩ := T8.out.c9
        obtain ⟨U_0, U_1, U_2, U_3, U_4, U_5, U_6, U_7, U_8, U_l⟩ := U8.out.c9
        go_wp2_with fail
        refine (subset9_any A9 A8 zl zk c9 c8 (intL0 (u.who k)) (intL0 (t.who k)) _ HZ2.out HZ1.out HW8.out HV8.out HSB2.out).mono ?_
        rintro e w9 ⟨rfl, hb⟩
        have hB9 : Below w8.heap.size w8 w9 := bTrans (Below.refl _ _) hb
        have HD9 := Lib.hid (bTrans HD8.out hB9)
        have HT9 := Lib.hid (HT8.out.mono hB9)
        have HU9 := Lib.hid (HU8.out.mono hB9)
        have HTB9 := Lib.hid (HTB8.out.mono hB9)
        have HNA9 := Lib.hid (HNA8.out.mono hB9)
        have HU_k9 := Lib.hid (HU_k8.out.mono hB9)
        have HV9 := Lib.hid (HV8.out.mono hB9)
        have HW9 := Lib.hid (HW8.out.mono hB9)
        have T9 := Lib.hid (T8.out.mono hB9)
        have U9 := Lib.hid (U8.out.mono hB9)
        clear hb hB9 HD8 HT8 HU8 HTB8 HNA8 HU_k8 HV8 HW8 T8 T_0 T_1 T_2 T_3 T_4 T_5 T_6 T_7 T_8 T_l U8 U_0 U_1 U_2 U_3 U_4 U_5 U_6 U_7 U_8 U_l
        obtain ⟨T_0, T_1, T_2, T_3, T_4, T_5, T_6, T_7, T_8, T_l⟩ := T9.out.c9
        obtain ⟨U_0, U_1, U_2, U_3, U_4, U_5, U_6, U_7, U_8, U_l⟩ := U9.out.c9
        go_wp2_with fail
        refine (isKnown9_any 0 _).mono ?_
        rintro e w10 ⟨rfl, hb⟩
        have hB10 : Below w9.heap.size w9 w10 := bTrans (Below.refl _ _) hb
        have HD10 := Lib.hid (bTrans HD9.out hB10)
        have HT10 := Lib.hid (HT9.out.mono hB10)
        have HU10 := Lib.hid (HU9.out.mono hB10)
        have HTB10 := Lib.hid (HTB9.out.mono hB10)
        have HNA10 := Lib.hid (HNA9.out.mono hB10)
        have HU_k10 := Lib.hid (HU_k9.out.mono hB10)
        have HV10 := Lib.hid (HV9.out.mono hB10)
        have HW10 := Lib.hid (HW9.out.mono hB10)
        have T10 := Lib.hid (T9.out.mono hB10)
        have U10 := Lib.hid (U9.out.mono hB10)
        clear hb hB10 HD9 HT9 HU9 HTB9 HNA9 HU_k9 HV9 HW9 T9 T_0 T_1 T_2 T_3 T_4 T_5 T_6 T_7 T_8 T_l U9 U_0 U_1 U_2 U_3 U_4 U_5 U_6 U_7 U_8 U_l
        obtain ⟨T_0, T_1, T_2, T_3, T_4, T_5, T_6, T_7, T_8, T_l⟩ := T10.out.c9
        obtain ⟨U_0, U_1, U_2, U_3, U_4, U_5, U_6, U_7, U_8, U_l⟩ := U10.out.c9
        go_wp2_with fail
        go_roundw
        case rel =>
          first
          | exact ⟨k + 1, by omega, by go_num, HU_k10.out⟩
          | ((repeat apply Exists.intro)
             refine ⟨⟨k + 1, by omega, ?_, HU_k10.out⟩, rfl⟩
             go_num)
        case measure => simp [intOf]; omega
    have he_k : k = t.ns := by omega
    have hk9 : ¬ (k : Int) < (t.ns : Int) := by omega
    have hk8 : ¬ k < t.ns := by omega
    clear he_k
    obtain ⟨b1, hb1⟩ : ∃ y, t.bestV = y := ⟨_, rfl⟩
    have HB1 := Lib.hid hb1
    clear hb1
    obtain ⟨b2, hb2⟩ : ∃ y, u.bestV = y := ⟨_, rfl⟩
    have HB2 := Lib.hid hb2
    clear hb2
    obtain ⟨k1, hk1⟩ : ∃ y, t.cheapV = y := ⟨_, rfl⟩
    have HC1 := Lib.hid hk1
    clear hk1
    obtain ⟨k2, hk2⟩ : ∃ y, u.cheapV = y := ⟨_, rfl⟩
    have HC2 := Lib.hid hk2
    clear hk2
    have hbb : b2 ≤ b1 := by rw [← HB1.out, ← HB2.out]; exact HLO.out.best HOK.out
    have hcc : k2 ≤ k1 := by rw [← HC1.out, ← HC2.out]; exact HLO.out.cheapest HOK.out
    go_wp2_with fail
    refine ((by have := bestV9_any Aw Af Ao Ap As cw cf co cp cs t wr HSM.out HT4.out HTB4.out HNA4.out HOK.out HNE.out; rw [HB1.out] at this; exact this : Calls Tryz.prog 55 #[.agg #[.int .i64 t.q.wells, .slice Aw t.q.nw cw, .slice Af t.q.nf cf, .slice Ao t.no co, .slice Ap t.np cp, .slice As t.ns cs, .int .i64 t.far, .int .i64 t.harm, .int .i64 t.many]] wr fun e w' => e = .returned (.tuple #[.int .i64 b1, .bool true]) ∧ Below wr.heap.size wr w')).mono ?_
    rintro e w5 ⟨rfl, hb⟩
    have hB5 : Below wr.heap.size wr w5 := bTrans (Below.refl _ _) hb
    have HD5 := Lib.hid (bTrans HD4.out hB5)
    have HT5 := Lib.hid (HT4.out.mono hB5)
    have HU5 := Lib.hid (HU4.out.mono hB5)
    have HTB5 := Lib.hid (HTB4.out.mono hB5)
    have HNA5 := Lib.hid (HNA4.out.mono hB5)
    have HU_k5 := Lib.hid (HU_k4.out.mono hB5)
    have T5 := Lib.hid (T4.out.mono hB5)
    have U5 := Lib.hid (U4.out.mono hB5)
    clear hb hB5 HD4 HT4 HU4 HTB4 HNA4 HU_k4 T4 T_0 T_1 T_2 T_3 T_4 T_5 T_6 T_7 T_8 T_l U4 U_0 U_1 U_2 U_3 U_4 U_5 U_6 U_7 U_8 U_l
    obtain ⟨T_0, T_1, T_2, T_3, T_4, T_5, T_6, T_7, T_8, T_l⟩ := T5.out.c9
    obtain ⟨U_0, U_1, U_2, U_3, U_4, U_5, U_6, U_7, U_8, U_l⟩ := U5.out.c9
    go_wp2_with fail
    refine ((by have := bestV9_any Bw Bf Bo Bp Bs dw df do_ dp ds u w5 HSU.out HU5.out HTB5.out HNA5.out HOK2.out HNE2.out; rw [HB2.out] at this; exact this : Calls Tryz.prog 55 #[.agg #[.int .i64 u.q.wells, .slice Bw u.q.nw dw, .slice Bf u.q.nf df, .slice Bo u.no do_, .slice Bp u.np dp, .slice Bs u.ns ds, .int .i64 u.far, .int .i64 u.harm, .int .i64 u.many]] w5 fun e w' => e = .returned (.tuple #[.int .i64 b2, .bool true]) ∧ Below w5.heap.size w5 w')).mono ?_
    rintro e w6 ⟨rfl, hb⟩
    have hB6 : Below w5.heap.size w5 w6 := bTrans (Below.refl _ _) hb
    have HD6 := Lib.hid (bTrans HD5.out hB6)
    have HT6 := Lib.hid (HT5.out.mono hB6)
    have HU6 := Lib.hid (HU5.out.mono hB6)
    have HTB6 := Lib.hid (HTB5.out.mono hB6)
    have HNA6 := Lib.hid (HNA5.out.mono hB6)
    have HU_k6 := Lib.hid (HU_k5.out.mono hB6)
    have T6 := Lib.hid (T5.out.mono hB6)
    have U6 := Lib.hid (U5.out.mono hB6)
    clear hb hB6 HD5 HT5 HU5 HTB5 HNA5 HU_k5 T5 T_0 T_1 T_2 T_3 T_4 T_5 T_6 T_7 T_8 T_l U5 U_0 U_1 U_2 U_3 U_4 U_5 U_6 U_7 U_8 U_l
    obtain ⟨T_0, T_1, T_2, T_3, T_4, T_5, T_6, T_7, T_8, T_l⟩ := T6.out.c9
    obtain ⟨U_0, U_1, U_2, U_3, U_4, U_5, U_6, U_7, U_8, U_l⟩ := U6.out.c9
    go_wp2_with fail
    refine ((by have := cheapV9_any Aw Af Ao Ap As cw cf co cp cs t w6 HSM.out HT6.out HTB6.out HNA6.out HOK.out HNE.out; rw [HC1.out] at this; exact this : Calls Tryz.prog 56 #[.agg #[.int .i64 t.q.wells, .slice Aw t.q.nw cw, .slice Af t.q.nf cf, .slice Ao t.no co, .slice Ap t.np cp, .slice As t.ns cs, .int .i64 t.far, .int .i64 t.harm, .int .i64 t.many]] w6 fun e w' => e = .returned (.tuple #[.int .i64 k1, .bool true]) ∧ Below w6.heap.size w6 w')).mono ?_
    rintro e w7 ⟨rfl, hb⟩
    have hB7 : Below w6.heap.size w6 w7 := bTrans (Below.refl _ _) hb
    have HD7 := Lib.hid (bTrans HD6.out hB7)
    have HT7 := Lib.hid (HT6.out.mono hB7)
    have HU7 := Lib.hid (HU6.out.mono hB7)
    have HTB7 := Lib.hid (HTB6.out.mono hB7)
    have HNA7 := Lib.hid (HNA6.out.mono hB7)
    have HU_k7 := Lib.hid (HU_k6.out.mono hB7)
    have T7 := Lib.hid (T6.out.mono hB7)
    have U7 := Lib.hid (U6.out.mono hB7)
    clear hb hB7 HD6 HT6 HU6 HTB6 HNA6 HU_k6 T6 T_0 T_1 T_2 T_3 T_4 T_5 T_6 T_7 T_8 T_l U6 U_0 U_1 U_2 U_3 U_4 U_5 U_6 U_7 U_8 U_l
    obtain ⟨T_0, T_1, T_2, T_3, T_4, T_5, T_6, T_7, T_8, T_l⟩ := T7.out.c9
    obtain ⟨U_0, U_1, U_2, U_3, U_4, U_5, U_6, U_7, U_8, U_l⟩ := U7.out.c9
    go_wp2_with fail
    refine ((by have := cheapV9_any Bw Bf Bo Bp Bs dw df do_ dp ds u w7 HSU.out HU7.out HTB7.out HNA7.out HOK2.out HNE2.out; rw [HC2.out] at this; exact this : Calls Tryz.prog 56 #[.agg #[.int .i64 u.q.wells, .slice Bw u.q.nw dw, .slice Bf u.q.nf df, .slice Bo u.no do_, .slice Bp u.np dp, .slice Bs u.ns ds, .int .i64 u.far, .int .i64 u.harm, .int .i64 u.many]] w7 fun e w' => e = .returned (.tuple #[.int .i64 k2, .bool true]) ∧ Below w7.heap.size w7 w')).mono ?_
    rintro e w8 ⟨rfl, hb⟩
    have hB8 : Below w7.heap.size w7 w8 := bTrans (Below.refl _ _) hb
    have HD8 := Lib.hid (bTrans HD7.out hB8)
    have HT8 := Lib.hid (HT7.out.mono hB8)
    have HU8 := Lib.hid (HU7.out.mono hB8)
    have HTB8 := Lib.hid (HTB7.out.mono hB8)
    have HNA8 := Lib.hid (HNA7.out.mono hB8)
    have HU_k8 := Lib.hid (HU_k7.out.mono hB8)
    have T8 := Lib.hid (T7.out.mono hB8)
    have U8 := Lib.hid (U7.out.mono hB8)
    clear hb hB8 HD7 HT7 HU7 HTB7 HNA7 HU_k7 T7 T_0 T_1 T_2 T_3 T_4 T_5 T_6 T_7 T_8 T_l U7 U_0 U_1 U_2 U_3 U_4 U_5 U_6 U_7 U_8 U_l
    obtain ⟨T_0, T_1, T_2, T_3, T_4, T_5, T_6, T_7, T_8, T_l⟩ := T8.out.c9
    obtain ⟨U_0, U_1, U_2, U_3, U_4, U_5, U_6, U_7, U_8, U_l⟩ := U8.out.c9
    go_wp2_with fail
    go_ret
    exact ⟨rfl, HD8.out⟩
end Go.Proofs.YtjpfdhhiofjpbaaGreatDoor

namespace Go.Proofs.YtjpfdhhiofjpbaaGreatDoor
open Go.RowKit Go.Sort
set_option maxHeartbeats 40000000 in
set_option maxRecDepth 100000 in
theorem placesLooser_any (Aw Af Ao Ap As : Option Addr) (cw cf co cp cs : Nat) (t : Pt) (sp by_ wh : Int) (w : World) (hs : t.Fits) (hT : PAt w Aw Af Ao Ap As t) (hB : TabAt w) (hN : NoneAt w) :
    Calls Tryz.prog 11 #[.agg #[.int .i64 t.q.wells, .slice Aw t.q.nw cw, .slice Af t.q.nf cf, .slice Ao t.no co, .slice Ap t.np cp, .slice As t.ns cs, .int .i64 t.far, .int .i64 t.harm, .int .i64 t.many], .agg #[.int .i64 sp, .int .i64 by_, .int .i64 wh]] w fun e w' => e = .returned (.bool true) ∧ Below w.heap.size w w' := by
  have HD0 := Lib.hid (Below.refl w.heap.size w)
  have HFI := Lib.hid hs
  have HT0 := Lib.hid hT
  have HTB0 := Lib.hid hB
  have HNA0 := Lib.hid hN
  clear hs hT hB hN
  go_enter Tryz.func11, Tryz.ntmps11
  have HSM := Lib.hid HFI.out.small
  go_wp2_with fail
  refine (ready9_any Aw Af Ao Ap As cw cf co cp cs t _ HSM.out (HT0.out.mono (bAlloc (bAlloc (Below.refl _ _) (.cells #[.int .i64 t.q.wells, .slice Aw t.q.nw cw, .slice Af t.q.nf cf, .slice Ao t.no co, .slice Ap t.np cp, .slice As t.ns cs, .int .i64 t.far, .int .i64 t.harm, .int .i64 t.many] 29)) (.cells #[.int .i64 sp, .int .i64 by_, .int .i64 wh] 47)))).mono ?_
  rintro e w1 ⟨⟨bf, rfl, hok⟩, hb⟩
  have hB1 : Below w.heap.size w w1 := bTrans (bAlloc (bAlloc (Below.refl _ _) (.cells #[.int .i64 t.q.wells, .slice Aw t.q.nw cw, .slice Af t.q.nf cf, .slice Ao t.no co, .slice Ap t.np cp, .slice As t.ns cs, .int .i64 t.far, .int .i64 t.harm, .int .i64 t.many] 29)) (.cells #[.int .i64 sp, .int .i64 by_, .int .i64 wh] 47)) hb
  have HD1 := Lib.hid (bTrans HD0.out hB1)
  have HT1 := Lib.hid (HT0.out.mono hB1)
  have HTB1 := Lib.hid (HTB0.out.mono hB1)
  have HNA1 := Lib.hid (HNA0.out.mono hB1)
  have T1 := Lib.hid (show TBox w1 w.heap.size 29 #[.int .i64 t.q.wells, .slice Aw t.q.nw cw, .slice Af t.q.nf cf, .slice Ao t.no co, .slice Ap t.np cp, .slice As t.ns cs, .int .i64 t.far, .int .i64 t.harm, .int .i64 t.many] from by have := ((TBox.new w #[.int .i64 t.q.wells, .slice Aw t.q.nw cw, .slice Af t.q.nf cf, .slice Ao t.no co, .slice Ap t.np cp, .slice As t.ns cs, .int .i64 t.far, .int .i64 t.harm, .int .i64 t.many] 29).mono (bAlloc (Below.refl _ _) (.cells #[.int .i64 sp, .int .i64 by_, .int .i64 wh] 47))).mono hb; simpa using this)
  have X1 := Lib.hid (show TBox w1 (w.heap.size + 1) 47 #[.int .i64 sp, .int .i64 by_, .int .i64 wh] from by have := ((TBox.new (w.alloc (.cells #[.int .i64 t.q.wells, .slice Aw t.q.nw cw, .slice Af t.q.nf cf, .slice Ao t.no co, .slice Ap t.np cp, .slice As t.ns cs, .int .i64 t.far, .int .i64 t.harm, .int .i64 t.many] 29)) #[.int .i64 sp, .int .i64 by_, .int .i64 wh] 47).mono (Below.refl _ _)).mono hb; simpa using this)
  clear hb hB1 HD0 HT0 HTB0 HNA0
  obtain ⟨T_0, T_1, T_2, T_3, T_4, T_5, T_6, T_7, T_8, T_l⟩ := T1.out.c9
  obtain ⟨X_0, X_1, X_2, X_l⟩ := X1.out.c3
  cases bf
  case false =>
    go_wp2_with fail
    refine (works9_any _ HTB1.out HNA1.out).mono ?_
    rintro e w2 ⟨rfl, hb⟩
    have hB2 : Below w1.heap.size w1 w2 := bTrans (Below.refl _ _) hb
    have HD2 := Lib.hid (bTrans HD1.out hB2)
    have HT2 := Lib.hid (HT1.out.mono hB2)
    have HTB2 := Lib.hid (HTB1.out.mono hB2)
    have HNA2 := Lib.hid (HNA1.out.mono hB2)
    have T2 := Lib.hid (T1.out.mono hB2)
    have X2 := Lib.hid (X1.out.mono hB2)
    clear hb hB2 HD1 HT1 HTB1 HNA1 T1 T_0 T_1 T_2 T_3 T_4 T_5 T_6 T_7 T_8 T_l X1 X_0 X_1 X_2 X_l
    obtain ⟨T_0, T_1, T_2, T_3, T_4, T_5, T_6, T_7, T_8, T_l⟩ := T2.out.c9
    obtain ⟨X_0, X_1, X_2, X_l⟩ := X2.out.c3
    go_wp2_with fail
    go_ret
    exact ⟨rfl, HD2.out⟩
  have HOK := Lib.hid (hok rfl)
  clear hok
  go_wp2_with fail
  refine (leftOf9_any Aw Af Ao Ap As cw cf co cp cs t _ HOK.out HT1.out).mono ?_
  rintro e w2 ⟨⟨A4, c4, rfl, hi4⟩, hb⟩
  have hB2 : Below w1.heap.size w1 w2 := bTrans (Below.refl _ _) hb
  have HD2 := Lib.hid (bTrans HD1.out hB2)
  have HT2 := Lib.hid (HT1.out.mono hB2)
  have HTB2 := Lib.hid (HTB1.out.mono hB2)
  have HNA2 := Lib.hid (HNA1.out.mono hB2)
  have T2 := Lib.hid (T1.out.mono hB2)
  have X2 := Lib.hid (X1.out.mono hB2)
  clear hb hB2 HD1 HT1 HTB1 HNA1 T1 T_0 T_1 T_2 T_3 T_4 T_5 T_6 T_7 T_8 T_l X1 X_0 X_1 X_2 X_l
  obtain ⟨T_0, T_1, T_2, T_3, T_4, T_5, T_6, T_7, T_8, T_l⟩ := T2.out.c9
  obtain ⟨X_0, X_1, X_2, X_l⟩ := X2.out.c3
  clear hi4
  obtain ⟨nl, hnl⟩ : ∃ n, t.q.leftL.length = n := ⟨_, rfl⟩
  have HNL := Lib.hid hnl
  rw [hnl]
  clear hnl
  by_cases h0 : nl = 0
  case pos =>
    subst h0
    go_wp2_with fail
    refine (works9_any _ HTB2.out HNA2.out).mono ?_
    rintro e w3 ⟨rfl, hb⟩
    have hB3 : Below w2.heap.size w2 w3 := bTrans (Below.refl _ _) hb
    have HD3 := Lib.hid (bTrans HD2.out hB3)
    have HT3 := Lib.hid (HT2.out.mono hB3)
    have HTB3 := Lib.hid (HTB2.out.mono hB3)
    have HNA3 := Lib.hid (HNA2.out.mono hB3)
    have T3 := Lib.hid (T2.out.mono hB3)
    have X3 := Lib.hid (X2.out.mono hB3)
    clear hb hB3 HD2 HT2 HTB2 HNA2 T2 T_0 T_1 T_2 T_3 T_4 T_5 T_6 T_7 T_8 T_l X2 X_0 X_1 X_2 X_l
    obtain ⟨T_0, T_1, T_2, T_3, T_4, T_5, T_6, T_7, T_8, T_l⟩ := T3.out.c9
    obtain ⟨X_0, X_1, X_2, X_l⟩ := X3.out.c3
    go_wp2_with fail
    go_ret
    exact ⟨rfl, HD3.out⟩
  have HNE := Lib.hid (show t.q.leftL ≠ [] from fun h => h0 (by rw [← HNL.out, h]; rfl))
  have e1 : ((nl : Int) == 0) = false := by simp; exact h0
  have e2 : (nl == 0) = false := by simp; exact h0
  by_cases hy0 : by_ < 0
  case pos =>
    go_wp2_with fail
    refine (works9_any _ HTB2.out HNA2.out).mono ?_
    rintro e w3 ⟨rfl, hb⟩
    have hB3 : Below w2.heap.size w2 w3 := bTrans (Below.refl _ _) hb
    have HD3 := Lib.hid (bTrans HD2.out hB3)
    have HT3 := Lib.hid (HT2.out.mono hB3)
    have HTB3 := Lib.hid (HTB2.out.mono hB3)
    have HNA3 := Lib.hid (HNA2.out.mono hB3)
    have T3 := Lib.hid (T2.out.mono hB3)
    have X3 := Lib.hid (X2.out.mono hB3)
    clear hb hB3 HD2 HT2 HTB2 HNA2 T2 T_0 T_1 T_2 T_3 T_4 T_5 T_6 T_7 T_8 T_l X2 X_0 X_1 X_2 X_l
    obtain ⟨T_0, T_1, T_2, T_3, T_4, T_5, T_6, T_7, T_8, T_l⟩ := T3.out.c9
    obtain ⟨X_0, X_1, X_2, X_l⟩ := X3.out.c3
    go_wp2_with fail
    go_ret
    exact ⟨rfl, HD3.out⟩
  by_cases hy1 : 99 < by_
  case pos =>
    have hy2 : by_ > 99 := hy1
    go_wp2_with fail
    refine (works9_any _ HTB2.out HNA2.out).mono ?_
    rintro e w3 ⟨rfl, hb⟩
    have hB3 : Below w2.heap.size w2 w3 := bTrans (Below.refl _ _) hb
    have HD3 := Lib.hid (bTrans HD2.out hB3)
    have HT3 := Lib.hid (HT2.out.mono hB3)
    have HTB3 := Lib.hid (HTB2.out.mono hB3)
    have HNA3 := Lib.hid (HNA2.out.mono hB3)
    have T3 := Lib.hid (T2.out.mono hB3)
    have X3 := Lib.hid (X2.out.mono hB3)
    clear hb hB3 HD2 HT2 HTB2 HNA2 T2 T_0 T_1 T_2 T_3 T_4 T_5 T_6 T_7 T_8 T_l X2 X_0 X_1 X_2 X_l
    obtain ⟨T_0, T_1, T_2, T_3, T_4, T_5, T_6, T_7, T_8, T_l⟩ := T3.out.c9
    obtain ⟨X_0, X_1, X_2, X_l⟩ := X3.out.c3
    go_wp2_with fail
    go_ret
    exact ⟨rfl, HD3.out⟩
  have hy2 : ¬ by_ > 99 := hy1
  go_wp2_with fail
  clear e1 e2 h0
  refine (copy9_any Aw Af Ao Ap As cw cf co cp cs t _ HFI.out HT2.out).mono ?_
  rintro e w3 ⟨ho, hb⟩
  obtain ⟨_, _, _, _, _, rfl, hc⟩ := ho
  obtain ⟨Bw, dw, Bf, df, Bo, do_, Bp, dp, Bs, ds, rfl, rfl, rfl, rfl, rfl, hU⟩ := hc.pat
  have hB3 : Below w2.heap.size w2 w3 := bTrans (Below.refl _ _) hb
  have HD3 := Lib.hid (bTrans HD2.out hB3)
  have HT3 := Lib.hid (HT2.out.mono hB3)
  have HTB3 := Lib.hid (HTB2.out.mono hB3)
  have HNA3 := Lib.hid (HNA2.out.mono hB3)
  have HU3 := Lib.hid (hU)
  have T3 := Lib.hid (T2.out.mono hB3)
  have X3 := Lib.hid (X2.out.mono hB3)
  clear hb hB3 HD2 HT2 HTB2 HNA2 T2 T_0 T_1 T_2 T_3 T_4 T_5 T_6 T_7 T_8 T_l X2 X_0 X_1 X_2 X_l
  obtain ⟨T_0, T_1, T_2, T_3, T_4, T_5, T_6, T_7, T_8, T_l⟩ := T3.out.c9
  obtain ⟨X_0, X_1, X_2, X_l⟩ := X3.out.c3
  clear hc hU
  by_cases hw0 : wh = 0
  case pos =>
    subst hw0
    have hw9 : IntKind.i64.wrap (t.far - by_) = t.far - by_ := IntWalk.i64_in _ (by have := HOK.out.far; omega)
    go_wp2_with fail
    have HSU := Lib.hid (show ({ t with far := t.far - by_ } : Pt).Small from ⟨HSM.out.q, HSM.out.no, HSM.out.np, HSM.out.ns, HSM.out.spot⟩)
    have HLO := Lib.hid (looser_far HOK.out (show 0 ≤ by_ by omega))
    refine ((by have := ready9_any Bw Bf Bo Bp Bs dw df do_ dp ds ({ t with far := t.far - by_ } : Pt) (w3.alloc (.cells #[.int .i64 t.q.wells, .slice Bw t.q.nw dw, .slice Bf t.q.nf df, .slice Bo t.no do_, .slice Bp t.np dp, .slice Bs t.ns ds, .int .i64 (t.far - by_), .int .i64 t.harm, .int .i64 t.many] 29)) HSU.out (show PAt (w3.alloc (.cells #[.int .i64 t.q.wells, .slice Bw t.q.nw dw, .slice Bf t.q.nf df, .slice Bo t.no do_, .slice Bp t.np dp, .slice Bs t.ns ds, .int .i64 (t.far - by_), .int .i64 t.harm, .int .i64 t.many] 29)) Bw Bf Bo Bp Bs ({ t with far := t.far - by_ } : Pt) from (fun h => ⟨h.q, h.old, h.pence, h.spots⟩) (show PAt (w3.alloc (.cells #[.int .i64 t.q.wells, .slice Bw t.q.nw dw, .slice Bf t.q.nf df, .slice Bo t.no do_, .slice Bp t.np dp, .slice Bs t.ns ds, .int .i64 (t.far - by_), .int .i64 t.harm, .int .i64 t.many] 29)) Bw Bf Bo Bp Bs t from (HU3.out.mono (bAlloc (Below.refl _ _) (.cells #[.int .i64 t.q.wells, .slice Bw t.q.nw dw, .slice Bf t.q.nf df, .slice Bo t.no do_, .slice Bp t.np dp, .slice Bs t.ns ds, .int .i64 (t.far - by_), .int .i64 t.harm, .int .i64 t.many] 29))))); exact this : Calls Tryz.prog 39 #[.agg #[.int .i64 t.q.wells, .slice Bw t.q.nw dw, .slice Bf t.q.nf df, .slice Bo t.no do_, .slice Bp t.np dp, .slice Bs t.ns ds, .int .i64 (t.far - by_), .int .i64 t.harm, .int .i64 t.many]] (w3.alloc (.cells #[.int .i64 t.q.wells, .slice Bw t.q.nw dw, .slice Bf t.q.nf df, .slice Bo t.no do_, .slice Bp t.np dp, .slice Bs t.ns ds, .int .i64 (t.far - by_), .int .i64 t.harm, .int .i64 t.many] 29)) fun e w' => ReadyB ({ t with far := t.far - by_ } : Pt) e ∧ Below (w3.alloc (.cells #[.int .i64 t.q.wells, .slice Bw t.q.nw dw, .slice Bf t.q.nf df, .slice Bo t.no do_, .slice Bp t.np dp, .slice Bs t.ns ds, .int .i64 (t.far - by_), .int .i64 t.harm, .int .i64 t.many] 29)).heap.size (w3.alloc (.cells #[.int .i64 t.q.wells, .slice Bw t.q.nw dw, .slice Bf t.q.nf df, .slice Bo t.no do_, .slice Bp t.np dp, .slice Bs t.ns ds, .int .i64 (t.far - by_), .int .i64 t.harm, .int .i64 t.many] 29)) w')).mono ?_
    rintro e w4 ⟨⟨bf, rfl, hok⟩, hb⟩
    have hB4 : Below w3.heap.size w3 w4 := bTrans (bAlloc (Below.refl _ _) (.cells #[.int .i64 t.q.wells, .slice Bw t.q.nw dw, .slice Bf t.q.nf df, .slice Bo t.no do_, .slice Bp t.np dp, .slice Bs t.ns ds, .int .i64 (t.far - by_), .int .i64 t.harm, .int .i64 t.many] 29)) hb
    have HD4 := Lib.hid (bTrans HD3.out hB4)
    have HT4 := Lib.hid (HT3.out.mono hB4)
    have HTB4 := Lib.hid (HTB3.out.mono hB4)
    have HNA4 := Lib.hid (HNA3.out.mono hB4)
    have HU4 := Lib.hid (HU3.out.mono hB4)
    have T4 := Lib.hid (T3.out.mono hB4)
    have X4 := Lib.hid (X3.out.mono hB4)
    have U4 := Lib.hid (show TBox w4 w3.heap.size 29 #[.int .i64 t.q.wells, .slice Bw t.q.nw dw, .slice Bf t.q.nf df, .slice Bo t.no do_, .slice Bp t.np dp, .slice Bs t.ns ds, .int .i64 (t.far - by_), .int .i64 t.harm, .int .i64 t.many] from by have := ((TBox.new w3 #[.int .i64 t.q.wells, .slice Bw t.q.nw dw, .slice Bf t.q.nf df, .slice Bo t.no do_, .slice Bp t.np dp, .slice Bs t.ns ds, .int .i64 (t.far - by_), .int .i64 t.harm, .int .i64 t.many] 29).mono (Below.refl _ _)).mono hb; simpa using this)
    clear hb hB4 HD3 HT3 HTB3 HNA3 HU3 T3 T_0 T_1 T_2 T_3 T_4 T_5 T_6 T_7 T_8 T_l X3 X_0 X_1 X_2 X_l
    obtain ⟨T_0, T_1, T_2, T_3, T_4, T_5, T_6, T_7, T_8, T_l⟩ := T4.out.c9
    obtain ⟨X_0, X_1, X_2, X_l⟩ := X4.out.c3
    obtain ⟨U_0, U_1, U_2, U_3, U_4, U_5, U_6, U_7, U_8, U_l⟩ := U4.out.c9
    cases bf
    case false =>
      go_wp2_with fail
      refine (works9_any _ HTB4.out HNA4.out).mono ?_
      rintro e w5 ⟨rfl, hb⟩
      have hB5 : Below w4.heap.size w4 w5 := bTrans (Below.refl _ _) hb
      have HD5 := Lib.hid (bTrans HD4.out hB5)
      have HT5 := Lib.hid (HT4.out.mono hB5)
      have HTB5 := Lib.hid (HTB4.out.mono hB5)
      have HNA5 := Lib.hid (HNA4.out.mono hB5)
      have HU5 := Lib.hid (HU4.out.mono hB5)
      have T5 := Lib.hid (T4.out.mono hB5)
      have X5 := Lib.hid (X4.out.mono hB5)
      have U5 := Lib.hid (U4.out.mono hB5)
      clear hb hB5 HD4 HT4 HTB4 HNA4 HU4 T4 T_0 T_1 T_2 T_3 T_4 T_5 T_6 T_7 T_8 T_l X4 X_0 X_1 X_2 X_l U4 U_0 U_1 U_2 U_3 U_4 U_5 U_6 U_7 U_8 U_l
      obtain ⟨T_0, T_1, T_2, T_3, T_4, T_5, T_6, T_7, T_8, T_l⟩ := T5.out.c9
      obtain ⟨X_0, X_1, X_2, X_l⟩ := X5.out.c3
      obtain ⟨U_0, U_1, U_2, U_3, U_4, U_5, U_6, U_7, U_8, U_l⟩ := U5.out.c9
      go_wp2_with fail
      go_ret
      exact ⟨rfl, HD5.out⟩
    have HOK2 := Lib.hid (hok rfl)
    clear hok
    go_wp2_with fail
    refine ((by have := not9_any Aw Af Ao Ap As cw cf co cp cs t Bw Bf Bo Bp Bs dw df do_ dp ds ({ t with far := t.far - by_ } : Pt) w4 HSM.out HT4.out HSU.out (show PAt w4 Bw Bf Bo Bp Bs ({ t with far := t.far - by_ } : Pt) from (fun h => ⟨h.q, h.old, h.pence, h.spots⟩) (show PAt w4 Bw Bf Bo Bp Bs t from HU4.out)) HTB4.out HNA4.out HOK.out HOK2.out HNE.out HNE.out HLO.out; exact this : Calls Tryz.prog 54 #[.agg #[.int .i64 t.q.wells, .slice Aw t.q.nw cw, .slice Af t.q.nf cf, .slice Ao t.no co, .slice Ap t.np cp, .slice As t.ns cs, .int .i64 t.far, .int .i64 t.harm, .int .i64 t.many], .agg #[.int .i64 t.q.wells, .slice Bw t.q.nw dw, .slice Bf t.q.nf df, .slice Bo t.no do_, .slice Bp t.np dp, .slice Bs t.ns ds, .int .i64 (t.far - by_), .int .i64 t.harm, .int .i64 t.many]] w4 fun e w' => e = .returned (.bool true) ∧ Below w4.heap.size w4 w')).mono ?_
    rintro e w5 ⟨rfl, hb⟩
    have hB5 : Below w4.heap.size w4 w5 := bTrans (Below.refl _ _) hb
    have HD5 := Lib.hid (bTrans HD4.out hB5)
    have HT5 := Lib.hid (HT4.out.mono hB5)
    have HTB5 := Lib.hid (HTB4.out.mono hB5)
    have HNA5 := Lib.hid (HNA4.out.mono hB5)
    have HU5 := Lib.hid (HU4.out.mono hB5)
    have T5 := Lib.hid (T4.out.mono hB5)
    have X5 := Lib.hid (X4.out.mono hB5)
    have U5 := Lib.hid (U4.out.mono hB5)
    clear hb hB5 HD4 HT4 HTB4 HNA4 HU4 T4 T_0 T_1 T_2 T_3 T_4 T_5 T_6 T_7 T_8 T_l X4 X_0 X_1 X_2 X_l U4 U_0 U_1 U_2 U_3 U_4 U_5 U_6 U_7 U_8 U_l
    obtain ⟨T_0, T_1, T_2, T_3, T_4, T_5, T_6, T_7, T_8, T_l⟩ := T5.out.c9
    obtain ⟨X_0, X_1, X_2, X_l⟩ := X5.out.c3
    obtain ⟨U_0, U_1, U_2, U_3, U_4, U_5, U_6, U_7, U_8, U_l⟩ := U5.out.c9
    go_wp2_with fail
    refine (works9_any _ HTB5.out HNA5.out).mono ?_
    rintro e w6 ⟨rfl, hb⟩
    have hB6 : Below w5.heap.size w5 w6 := bTrans (Below.refl _ _) hb
    have HD6 := Lib.hid (bTrans HD5.out hB6)
    have HT6 := Lib.hid (HT5.out.mono hB6)
    have HTB6 := Lib.hid (HTB5.out.mono hB6)
    have HNA6 := Lib.hid (HNA5.out.mono hB6)
    have HU6 := Lib.hid (HU5.out.mono hB6)
    have T6 := Lib.hid (T5.out.mono hB6)
    have X6 := Lib.hid (X5.out.mono hB6)
    have U6 := Lib.hid (U5.out.mono hB6)
    clear hb hB6 HD5 HT5 HTB5 HNA5 HU5 T5 T_0 T_1 T_2 T_3 T_4 T_5 T_6 T_7 T_8 T_l X5 X_0 X_1 X_2 X_l U5 U_0 U_1 U_2 U_3 U_4 U_5 U_6 U_7 U_8 U_l
    obtain ⟨T_0, T_1, T_2, T_3, T_4, T_5, T_6, T_7, T_8, T_l⟩ := T6.out.c9
    obtain ⟨X_0, X_1, X_2, X_l⟩ := X6.out.c3
    obtain ⟨U_0, U_1, U_2, U_3, U_4, U_5, U_6, U_7, U_8, U_l⟩ := U6.out.c9
    go_wp2_with fail
    go_ret
    exact ⟨rfl, HD6.out⟩
  by_cases hw1 : wh = 1
  case pos =>
    subst hw1
    have hw9 : IntKind.i64.wrap (t.harm + by_) = t.harm + by_ := IntWalk.i64_in _ (by have := HOK.out.harm; omega)
    go_wp2_with fail
    have HSU := Lib.hid (show ({ t with harm := t.harm + by_ } : Pt).Small from ⟨HSM.out.q, HSM.out.no, HSM.out.np, HSM.out.ns, HSM.out.spot⟩)
    have HLO := Lib.hid (looser_harm HOK.out (show 0 ≤ by_ by omega))
    refine ((by have := ready9_any Bw Bf Bo Bp Bs dw df do_ dp ds ({ t with harm := t.harm + by_ } : Pt) (w3.alloc (.cells #[.int .i64 t.q.wells, .slice Bw t.q.nw dw, .slice Bf t.q.nf df, .slice Bo t.no do_, .slice Bp t.np dp, .slice Bs t.ns ds, .int .i64 t.far, .int .i64 (t.harm + by_), .int .i64 t.many] 29)) HSU.out (show PAt (w3.alloc (.cells #[.int .i64 t.q.wells, .slice Bw t.q.nw dw, .slice Bf t.q.nf df, .slice Bo t.no do_, .slice Bp t.np dp, .slice Bs t.ns ds, .int .i64 t.far, .int .i64 (t.harm + by_), .int .i64 t.many] 29)) Bw Bf Bo Bp Bs ({ t with harm := t.harm + by_ } : Pt) from (fun h => ⟨h.q, h.old, h.pence, h.spots⟩) (show PAt (w3.alloc (.cells #[.int .i64 t.q.wells, .slice Bw t.q.nw dw, .slice Bf t.q.nf df, .slice Bo t.no do_, .slice Bp t.np dp, .slice Bs t.ns ds, .int .i64 t.far, .int .i64 (t.harm + by_), .int .i64 t.many] 29)) Bw Bf Bo Bp Bs t from (HU3.out.mono (bAlloc (Below.refl _ _) (.cells #[.int .i64 t.q.wells, .slice Bw t.q.nw dw, .slice Bf t.q.nf df, .slice Bo t.no do_, .slice Bp t.np dp, .slice Bs t.ns ds, .int .i64 t.far, .int .i64 (t.harm + by_), .int .i64 t.many] 29))))); exact this : Calls Tryz.prog 39 #[.agg #[.int .i64 t.q.wells, .slice Bw t.q.nw dw, .slice Bf t.q.nf df, .slice Bo t.no do_, .slice Bp t.np dp, .slice Bs t.ns ds, .int .i64 t.far, .int .i64 (t.harm + by_), .int .i64 t.many]] (w3.alloc (.cells #[.int .i64 t.q.wells, .slice Bw t.q.nw dw, .slice Bf t.q.nf df, .slice Bo t.no do_, .slice Bp t.np dp, .slice Bs t.ns ds, .int .i64 t.far, .int .i64 (t.harm + by_), .int .i64 t.many] 29)) fun e w' => ReadyB ({ t with harm := t.harm + by_ } : Pt) e ∧ Below (w3.alloc (.cells #[.int .i64 t.q.wells, .slice Bw t.q.nw dw, .slice Bf t.q.nf df, .slice Bo t.no do_, .slice Bp t.np dp, .slice Bs t.ns ds, .int .i64 t.far, .int .i64 (t.harm + by_), .int .i64 t.many] 29)).heap.size (w3.alloc (.cells #[.int .i64 t.q.wells, .slice Bw t.q.nw dw, .slice Bf t.q.nf df, .slice Bo t.no do_, .slice Bp t.np dp, .slice Bs t.ns ds, .int .i64 t.far, .int .i64 (t.harm + by_), .int .i64 t.many] 29)) w')).mono ?_
    rintro e w4 ⟨⟨bf, rfl, hok⟩, hb⟩
    have hB4 : Below w3.heap.size w3 w4 := bTrans (bAlloc (Below.refl _ _) (.cells #[.int .i64 t.q.wells, .slice Bw t.q.nw dw, .slice Bf t.q.nf df, .slice Bo t.no do_, .slice Bp t.np dp, .slice Bs t.ns ds, .int .i64 t.far, .int .i64 (t.harm + by_), .int .i64 t.many] 29)) hb
    have HD4 := Lib.hid (bTrans HD3.out hB4)
    have HT4 := Lib.hid (HT3.out.mono hB4)
    have HTB4 := Lib.hid (HTB3.out.mono hB4)
    have HNA4 := Lib.hid (HNA3.out.mono hB4)
    have HU4 := Lib.hid (HU3.out.mono hB4)
    have T4 := Lib.hid (T3.out.mono hB4)
    have X4 := Lib.hid (X3.out.mono hB4)
    have U4 := Lib.hid (show TBox w4 w3.heap.size 29 #[.int .i64 t.q.wells, .slice Bw t.q.nw dw, .slice Bf t.q.nf df, .slice Bo t.no do_, .slice Bp t.np dp, .slice Bs t.ns ds, .int .i64 t.far, .int .i64 (t.harm + by_), .int .i64 t.many] from by have := ((TBox.new w3 #[.int .i64 t.q.wells, .slice Bw t.q.nw dw, .slice Bf t.q.nf df, .slice Bo t.no do_, .slice Bp t.np dp, .slice Bs t.ns ds, .int .i64 t.far, .int .i64 (t.harm + by_), .int .i64 t.many] 29).mono (Below.refl _ _)).mono hb; simpa using this)
    clear hb hB4 HD3 HT3 HTB3 HNA3 HU3 T3 T_0 T_1 T_2 T_3 T_4 T_5 T_6 T_7 T_8 T_l X3 X_0 X_1 X_2 X_l
    obtain ⟨T_0, T_1, T_2, T_3, T_4, T_5, T_6, T_7, T_8, T_l⟩ := T4.out.c9
    obtain ⟨X_0, X_1, X_2, X_l⟩ := X4.out.c3
    obtain ⟨U_0, U_1, U_2, U_3, U_4, U_5, U_6, U_7, U_8, U_l⟩ := U4.out.c9
    cases bf
    case false =>
      go_wp2_with fail
      refine (works9_any _ HTB4.out HNA4.out).mono ?_
      rintro e w5 ⟨rfl, hb⟩
      have hB5 : Below w4.heap.size w4 w5 := bTrans (Below.refl _ _) hb
      have HD5 := Lib.hid (bTrans HD4.out hB5)
      have HT5 := Lib.hid (HT4.out.mono hB5)
      have HTB5 := Lib.hid (HTB4.out.mono hB5)
      have HNA5 := Lib.hid (HNA4.out.mono hB5)
      have HU5 := Lib.hid (HU4.out.mono hB5)
      have T5 := Lib.hid (T4.out.mono hB5)
      have X5 := Lib.hid (X4.out.mono hB5)
      have U5 := Lib.hid (U4.out.mono hB5)
      clear hb hB5 HD4 HT4 HTB4 HNA4 HU4 T4 T_0 T_1 T_2 T_3 T_4 T_5 T_6 T_7 T_8 T_l X4 X_0 X_1 X_2 X_l U4 U_0 U_1 U_2 U_3 U_4 U_5 U_6 U_7 U_8 U_l
      obtain ⟨T_0, T_1, T_2, T_3, T_4, T_5, T_6, T_7, T_8, T_l⟩ := T5.out.c9
      obtain ⟨X_0, X_1, X_2, X_l⟩ := X5.out.c3
      obtain ⟨U_0, U_1, U_2, U_3, U_4, U_5, U_6, U_7, U_8, U_l⟩ := U5.out.c9
      go_wp2_with fail
      go_ret
      exact ⟨rfl, HD5.out⟩
    have HOK2 := Lib.hid (hok rfl)
    clear hok
    go_wp2_with fail
    refine ((by have := not9_any Aw Af Ao Ap As cw cf co cp cs t Bw Bf Bo Bp Bs dw df do_ dp ds ({ t with harm := t.harm + by_ } : Pt) w4 HSM.out HT4.out HSU.out (show PAt w4 Bw Bf Bo Bp Bs ({ t with harm := t.harm + by_ } : Pt) from (fun h => ⟨h.q, h.old, h.pence, h.spots⟩) (show PAt w4 Bw Bf Bo Bp Bs t from HU4.out)) HTB4.out HNA4.out HOK.out HOK2.out HNE.out HNE.out HLO.out; exact this : Calls Tryz.prog 54 #[.agg #[.int .i64 t.q.wells, .slice Aw t.q.nw cw, .slice Af t.q.nf cf, .slice Ao t.no co, .slice Ap t.np cp, .slice As t.ns cs, .int .i64 t.far, .int .i64 t.harm, .int .i64 t.many], .agg #[.int .i64 t.q.wells, .slice Bw t.q.nw dw, .slice Bf t.q.nf df, .slice Bo t.no do_, .slice Bp t.np dp, .slice Bs t.ns ds, .int .i64 t.far, .int .i64 (t.harm + by_), .int .i64 t.many]] w4 fun e w' => e = .returned (.bool true) ∧ Below w4.heap.size w4 w')).mono ?_
    rintro e w5 ⟨rfl, hb⟩
    have hB5 : Below w4.heap.size w4 w5 := bTrans (Below.refl _ _) hb
    have HD5 := Lib.hid (bTrans HD4.out hB5)
    have HT5 := Lib.hid (HT4.out.mono hB5)
    have HTB5 := Lib.hid (HTB4.out.mono hB5)
    have HNA5 := Lib.hid (HNA4.out.mono hB5)
    have HU5 := Lib.hid (HU4.out.mono hB5)
    have T5 := Lib.hid (T4.out.mono hB5)
    have X5 := Lib.hid (X4.out.mono hB5)
    have U5 := Lib.hid (U4.out.mono hB5)
    clear hb hB5 HD4 HT4 HTB4 HNA4 HU4 T4 T_0 T_1 T_2 T_3 T_4 T_5 T_6 T_7 T_8 T_l X4 X_0 X_1 X_2 X_l U4 U_0 U_1 U_2 U_3 U_4 U_5 U_6 U_7 U_8 U_l
    obtain ⟨T_0, T_1, T_2, T_3, T_4, T_5, T_6, T_7, T_8, T_l⟩ := T5.out.c9
    obtain ⟨X_0, X_1, X_2, X_l⟩ := X5.out.c3
    obtain ⟨U_0, U_1, U_2, U_3, U_4, U_5, U_6, U_7, U_8, U_l⟩ := U5.out.c9
    go_wp2_with fail
    refine (works9_any _ HTB5.out HNA5.out).mono ?_
    rintro e w6 ⟨rfl, hb⟩
    have hB6 : Below w5.heap.size w5 w6 := bTrans (Below.refl _ _) hb
    have HD6 := Lib.hid (bTrans HD5.out hB6)
    have HT6 := Lib.hid (HT5.out.mono hB6)
    have HTB6 := Lib.hid (HTB5.out.mono hB6)
    have HNA6 := Lib.hid (HNA5.out.mono hB6)
    have HU6 := Lib.hid (HU5.out.mono hB6)
    have T6 := Lib.hid (T5.out.mono hB6)
    have X6 := Lib.hid (X5.out.mono hB6)
    have U6 := Lib.hid (U5.out.mono hB6)
    clear hb hB6 HD5 HT5 HTB5 HNA5 HU5 T5 T_0 T_1 T_2 T_3 T_4 T_5 T_6 T_7 T_8 T_l X5 X_0 X_1 X_2 X_l U5 U_0 U_1 U_2 U_3 U_4 U_5 U_6 U_7 U_8 U_l
    obtain ⟨T_0, T_1, T_2, T_3, T_4, T_5, T_6, T_7, T_8, T_l⟩ := T6.out.c9
    obtain ⟨X_0, X_1, X_2, X_l⟩ := X6.out.c3
    obtain ⟨U_0, U_1, U_2, U_3, U_4, U_5, U_6, U_7, U_8, U_l⟩ := U6.out.c9
    go_wp2_with fail
    go_ret
    exact ⟨rfl, HD6.out⟩
  have g0 : (wh == 0) = false := by simp; exact hw0
  have g1 : (wh == 1) = false := by simp; exact hw1
  have hw9 : IntKind.i64.wrap (t.many - by_) = t.many - by_ := IntWalk.i64_in _ (by have := HOK.out.many; omega)
  go_wp2_with fail
  have HSU := Lib.hid (show ({ t with many := t.many - by_ } : Pt).Small from ⟨HSM.out.q, HSM.out.no, HSM.out.np, HSM.out.ns, HSM.out.spot⟩)
  have HLO := Lib.hid (looser_many HOK.out (show 0 ≤ by_ by omega))
  refine ((by have := ready9_any Bw Bf Bo Bp Bs dw df do_ dp ds ({ t with many := t.many - by_ } : Pt) (w3.alloc (.cells #[.int .i64 t.q.wells, .slice Bw t.q.nw dw, .slice Bf t.q.nf df, .slice Bo t.no do_, .slice Bp t.np dp, .slice Bs t.ns ds, .int .i64 t.far, .int .i64 t.harm, .int .i64 (t.many - by_)] 29)) HSU.out (show PAt (w3.alloc (.cells #[.int .i64 t.q.wells, .slice Bw t.q.nw dw, .slice Bf t.q.nf df, .slice Bo t.no do_, .slice Bp t.np dp, .slice Bs t.ns ds, .int .i64 t.far, .int .i64 t.harm, .int .i64 (t.many - by_)] 29)) Bw Bf Bo Bp Bs ({ t with many := t.many - by_ } : Pt) from (fun h => ⟨h.q, h.old, h.pence, h.spots⟩) (show PAt (w3.alloc (.cells #[.int .i64 t.q.wells, .slice Bw t.q.nw dw, .slice Bf t.q.nf df, .slice Bo t.no do_, .slice Bp t.np dp, .slice Bs t.ns ds, .int .i64 t.far, .int .i64 t.harm, .int .i64 (t.many - by_)] 29)) Bw Bf Bo Bp Bs t from (HU3.out.mono (bAlloc (Below.refl _ _) (.cells #[.int .i64 t.q.wells, .slice Bw t.q.nw dw, .slice Bf t.q.nf df, .slice Bo t.no do_, .slice Bp t.np dp, .slice Bs t.ns ds, .int .i64 t.far, .int .i64 t.harm, .int .i64 (t.many - by_)] 29))))); exact this : Calls Tryz.prog 39 #[.agg #[.int .i64 t.q.wells, .slice Bw t.q.nw dw, .slice Bf t.q.nf df, .slice Bo t.no do_, .slice Bp t.np dp, .slice Bs t.ns ds, .int .i64 t.far, .int .i64 t.harm, .int .i64 (t.many - by_)]] (w3.alloc (.cells #[.int .i64 t.q.wells, .slice Bw t.q.nw dw, .slice Bf t.q.nf df, .slice Bo t.no do_, .slice Bp t.np dp, .slice Bs t.ns ds, .int .i64 t.far, .int .i64 t.harm, .int .i64 (t.many - by_)] 29)) fun e w' => ReadyB ({ t with many := t.many - by_ } : Pt) e ∧ Below (w3.alloc (.cells #[.int .i64 t.q.wells, .slice Bw t.q.nw dw, .slice Bf t.q.nf df, .slice Bo t.no do_, .slice Bp t.np dp, .slice Bs t.ns ds, .int .i64 t.far, .int .i64 t.harm, .int .i64 (t.many - by_)] 29)).heap.size (w3.alloc (.cells #[.int .i64 t.q.wells, .slice Bw t.q.nw dw, .slice Bf t.q.nf df, .slice Bo t.no do_, .slice Bp t.np dp, .slice Bs t.ns ds, .int .i64 t.far, .int .i64 t.harm, .int .i64 (t.many - by_)] 29)) w')).mono ?_
  rintro e w4 ⟨⟨bf, rfl, hok⟩, hb⟩
  have hB4 : Below w3.heap.size w3 w4 := bTrans (bAlloc (Below.refl _ _) (.cells #[.int .i64 t.q.wells, .slice Bw t.q.nw dw, .slice Bf t.q.nf df, .slice Bo t.no do_, .slice Bp t.np dp, .slice Bs t.ns ds, .int .i64 t.far, .int .i64 t.harm, .int .i64 (t.many - by_)] 29)) hb
  have HD4 := Lib.hid (bTrans HD3.out hB4)
  have HT4 := Lib.hid (HT3.out.mono hB4)
  have HTB4 := Lib.hid (HTB3.out.mono hB4)
  have HNA4 := Lib.hid (HNA3.out.mono hB4)
  have HU4 := Lib.hid (HU3.out.mono hB4)
  have T4 := Lib.hid (T3.out.mono hB4)
  have X4 := Lib.hid (X3.out.mono hB4)
  have U4 := Lib.hid (show TBox w4 w3.heap.size 29 #[.int .i64 t.q.wells, .slice Bw t.q.nw dw, .slice Bf t.q.nf df, .slice Bo t.no do_, .slice Bp t.np dp, .slice Bs t.ns ds, .int .i64 t.far, .int .i64 t.harm, .int .i64 (t.many - by_)] from by have := ((TBox.new w3 #[.int .i64 t.q.wells, .slice Bw t.q.nw dw, .slice Bf t.q.nf df, .slice Bo t.no do_, .slice Bp t.np dp, .slice Bs t.ns ds, .int .i64 t.far, .int .i64 t.harm, .int .i64 (t.many - by_)] 29).mono (Below.refl _ _)).mono hb; simpa using this)
  clear hb hB4 HD3 HT3 HTB3 HNA3 HU3 T3 T_0 T_1 T_2 T_3 T_4 T_5 T_6 T_7 T_8 T_l X3 X_0 X_1 X_2 X_l
  obtain ⟨T_0, T_1, T_2, T_3, T_4, T_5, T_6, T_7, T_8, T_l⟩ := T4.out.c9
  obtain ⟨X_0, X_1, X_2, X_l⟩ := X4.out.c3
  obtain ⟨U_0, U_1, U_2, U_3, U_4, U_5, U_6, U_7, U_8, U_l⟩ := U4.out.c9
  cases bf
  case false =>
    go_wp2_with fail
    refine (works9_any _ HTB4.out HNA4.out).mono ?_
    rintro e w5 ⟨rfl, hb⟩
    have hB5 : Below w4.heap.size w4 w5 := bTrans (Below.refl _ _) hb
    have HD5 := Lib.hid (bTrans HD4.out hB5)
    have HT5 := Lib.hid (HT4.out.mono hB5)
    have HTB5 := Lib.hid (HTB4.out.mono hB5)
    have HNA5 := Lib.hid (HNA4.out.mono hB5)
    have HU5 := Lib.hid (HU4.out.mono hB5)
    have T5 := Lib.hid (T4.out.mono hB5)
    have X5 := Lib.hid (X4.out.mono hB5)
    have U5 := Lib.hid (U4.out.mono hB5)
    clear hb hB5 HD4 HT4 HTB4 HNA4 HU4 T4 T_0 T_1 T_2 T_3 T_4 T_5 T_6 T_7 T_8 T_l X4 X_0 X_1 X_2 X_l U4 U_0 U_1 U_2 U_3 U_4 U_5 U_6 U_7 U_8 U_l
    obtain ⟨T_0, T_1, T_2, T_3, T_4, T_5, T_6, T_7, T_8, T_l⟩ := T5.out.c9
    obtain ⟨X_0, X_1, X_2, X_l⟩ := X5.out.c3
    obtain ⟨U_0, U_1, U_2, U_3, U_4, U_5, U_6, U_7, U_8, U_l⟩ := U5.out.c9
    go_wp2_with fail
    go_ret
    exact ⟨rfl, HD5.out⟩
  have HOK2 := Lib.hid (hok rfl)
  clear hok
  go_wp2_with fail
  refine ((by have := not9_any Aw Af Ao Ap As cw cf co cp cs t Bw Bf Bo Bp Bs dw df do_ dp ds ({ t with many := t.many - by_ } : Pt) w4 HSM.out HT4.out HSU.out (show PAt w4 Bw Bf Bo Bp Bs ({ t with many := t.many - by_ } : Pt) from (fun h => ⟨h.q, h.old, h.pence, h.spots⟩) (show PAt w4 Bw Bf Bo Bp Bs t from HU4.out)) HTB4.out HNA4.out HOK.out HOK2.out HNE.out HNE.out HLO.out; exact this : Calls Tryz.prog 54 #[.agg #[.int .i64 t.q.wells, .slice Aw t.q.nw cw, .slice Af t.q.nf cf, .slice Ao t.no co, .slice Ap t.np cp, .slice As t.ns cs, .int .i64 t.far, .int .i64 t.harm, .int .i64 t.many], .agg #[.int .i64 t.q.wells, .slice Bw t.q.nw dw, .slice Bf t.q.nf df, .slice Bo t.no do_, .slice Bp t.np dp, .slice Bs t.ns ds, .int .i64 t.far, .int .i64 t.harm, .int .i64 (t.many - by_)]] w4 fun e w' => e = .returned (.bool true) ∧ Below w4.heap.size w4 w')).mono ?_
  rintro e w5 ⟨rfl, hb⟩
  have hB5 : Below w4.heap.size w4 w5 := bTrans (Below.refl _ _) hb
  have HD5 := Lib.hid (bTrans HD4.out hB5)
  have HT5 := Lib.hid (HT4.out.mono hB5)
  have HTB5 := Lib.hid (HTB4.out.mono hB5)
  have HNA5 := Lib.hid (HNA4.out.mono hB5)
  have HU5 := Lib.hid (HU4.out.mono hB5)
  have T5 := Lib.hid (T4.out.mono hB5)
  have X5 := Lib.hid (X4.out.mono hB5)
  have U5 := Lib.hid (U4.out.mono hB5)
  clear hb hB5 HD4 HT4 HTB4 HNA4 HU4 T4 T_0 T_1 T_2 T_3 T_4 T_5 T_6 T_7 T_8 T_l X4 X_0 X_1 X_2 X_l U4 U_0 U_1 U_2 U_3 U_4 U_5 U_6 U_7 U_8 U_l
  obtain ⟨T_0, T_1, T_2, T_3, T_4, T_5, T_6, T_7, T_8, T_l⟩ := T5.out.c9
  obtain ⟨X_0, X_1, X_2, X_l⟩ := X5.out.c3
  obtain ⟨U_0, U_1, U_2, U_3, U_4, U_5, U_6, U_7, U_8, U_l⟩ := U5.out.c9
  go_wp2_with fail
  refine (works9_any _ HTB5.out HNA5.out).mono ?_
  rintro e w6 ⟨rfl, hb⟩
  have hB6 : Below w5.heap.size w5 w6 := bTrans (Below.refl _ _) hb
  have HD6 := Lib.hid (bTrans HD5.out hB6)
  have HT6 := Lib.hid (HT5.out.mono hB6)
  have HTB6 := Lib.hid (HTB5.out.mono hB6)
  have HNA6 := Lib.hid (HNA5.out.mono hB6)
  have HU6 := Lib.hid (HU5.out.mono hB6)
  have T6 := Lib.hid (T5.out.mono hB6)
  have X6 := Lib.hid (X5.out.mono hB6)
  have U6 := Lib.hid (U5.out.mono hB6)
  clear hb hB6 HD5 HT5 HTB5 HNA5 HU5 T5 T_0 T_1 T_2 T_3 T_4 T_5 T_6 T_7 T_8 T_l X5 X_0 X_1 X_2 X_l U5 U_0 U_1 U_2 U_3 U_4 U_5 U_6 U_7 U_8 U_l
  obtain ⟨T_0, T_1, T_2, T_3, T_4, T_5, T_6, T_7, T_8, T_l⟩ := T6.out.c9
  obtain ⟨X_0, X_1, X_2, X_l⟩ := X6.out.c3
  obtain ⟨U_0, U_1, U_2, U_3, U_4, U_5, U_6, U_7, U_8, U_l⟩ := U6.out.c9
  go_wp2_with fail
  go_ret
  exact ⟨rfl, HD6.out⟩
end Go.Proofs.YtjpfdhhiofjpbaaGreatDoor

