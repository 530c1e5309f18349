/- Parts joined: what the claim PlacesFree needs beyond the others. -/
import Derived.Test.YtjpfdhhiofjpbaaGreatDoorNQPlacesFreeB
set_option linter.unusedSimpArgs false
set_option linter.unusedVariables false
namespace Go.Proofs.YtjpfdhhiofjpbaaGreatDoor
open Go.RowKit Go.Sort
/-- what Harmed hands back -/
def HrOut (w : World) (t : Pt) (h : Int) (e : Ending) : Prop := ∃ Bw dw Bf df Bo do_ Bp dp Bs ds, e = .returned (.agg #[.int .i64 t.q.wells, .slice Bw t.q.nw dw, .slice Bf t.q.nf df, .slice Bo t.no do_, .slice Bp t.np dp, .slice Bs t.ns ds, .int .i64 t.far, .int .i64 h, .int .i64 t.many]) ∧ PAt w Bw Bf Bo Bp Bs (t.harmed h)
theorem CopyAt9.harmed {w : World} {base : Nat} {vW vF vO vP vS : Value} {t : Pt} (h : CopyAt9 w base vW vF vO vP vS t) (x : Int) : CopyAt9 w base vW vF vO vP vS (t.harmed x) := ⟨h.q, h.old, h.pence, h.spots⟩
theorem CopyAt9.setTy {w : World} {base : Nat} {vW vF vO vP vS : Value} {t : Pt} (h : CopyAt9 w base vW vF vO vP vS t) {b : Nat} (hb : ∃ cs, TBox w b 29 cs) (o : Nat) (u : Value) : CopyAt9 (w.setCell ⟨b, o, none⟩ u) base vW vF vO vP vS t := by
  obtain ⟨h1, h2, h3, us, h4, h5⟩ := h
  obtain ⟨cs, hx⟩ := hb
  have hb : ∃ cs, TBox w b 29 cs := ⟨cs, hx⟩
  exact ⟨h1.setTy hb o u, owns_setTy h2 hb (by decide) o u, owns_setTy h3 hb (by decide) o u, us, owns_setTy h4 hb (by decide) o u, h5.kept (Kept.set (l := [3, 26, 146]) hx (by decide) o u) (by simp) (by simp) (by simp)⟩
theorem hr_of {w : World} {base : Nat} {vW vF vO vP vS : Value} {t : Pt} {x : Int} (h : CopyAt9 w base vW vF vO vP vS (t.harmed x)) : HrOut w t x (.returned (.agg #[.int .i64 t.q.wells, vW, vF, vO, vP, vS, .int .i64 t.far, .int .i64 x, .int .i64 t.many])) := by
  obtain ⟨Aw, cw, Af, cf, Ao, co, Ap, cp, As, cs, rfl, rfl, rfl, rfl, rfl, hU⟩ := h.pat
  exact ⟨_, _, _, _, _, _, _, _, _, _, rfl, hU⟩
set_option maxHeartbeats 4000000 in
set_option maxRecDepth 100000 in
theorem harmed9_any (Aw Af Ao Ap As : Option Addr) (cw cf co cp cs : Nat) (t : Pt) (h : Int) (w : World) (hs : t.Fits) (hT : PAt w Aw Af Ao Ap As t) :
    Calls Tryz.prog 46 #[.agg #[.int .i64 t.q.wells, .slice Aw t.q.nw cw, .slice Af t.q.nf cf, .slice Ao t.no co, .slice Ap t.np cp, .slice As t.ns cs, .int .i64 t.far, .int .i64 t.harm, .int .i64 t.many], .int .i64 h] w fun e w' => HrOut w' t h e ∧ Below w.heap.size w w' := by
  have HD0 := Lib.hid (Below.refl w.heap.size w)
  have HFI := Lib.hid hs
  have HT0 := Lib.hid hT
  clear hs hT
  go_enter Tryz.func46, Tryz.ntmps46
  go_wp2_with fail
  refine (copy9_any Aw Af Ao Ap As cw cf co cp cs t _ HFI.out (HT0.out.mono (bAlloc (bAlloc (Below.refl _ _) (.cells #[.int .i64 t.q.wells, .slice Aw t.q.nw cw, .slice Af t.q.nf cf, .slice Ao t.no co, .slice Ap t.np cp, .slice As t.ns cs, .int .i64 t.far, .int .i64 t.harm, .int .i64 t.many] 29)) (.cells #[.int .i64 0, .slice none 0 0, .slice none 0 0, .slice none 0 0, .slice none 0 0, .slice none 0 0, .int .i64 0, .int .i64 0, .int .i64 0] 29)))).mono ?_
  rintro e w1 ⟨ho, hb⟩
  obtain ⟨_, _, _, _, _, rfl, hc⟩ := ho
  obtain ⟨Bw, dw, Bf, df, Bo, do_, Bp, dp, Bs, ds, rfl, rfl, rfl, rfl, rfl, hU⟩ := hc.pat
  have hB1 : Below w.heap.size w w1 := bTrans (bAlloc (bAlloc (Below.refl _ _) (.cells #[.int .i64 t.q.wells, .slice Aw t.q.nw cw, .slice Af t.q.nf cf, .slice Ao t.no co, .slice Ap t.np cp, .slice As t.ns cs, .int .i64 t.far, .int .i64 t.harm, .int .i64 t.many] 29)) (.cells #[.int .i64 0, .slice none 0 0, .slice none 0 0, .slice none 0 0, .slice none 0 0, .slice none 0 0, .int .i64 0, .int .i64 0, .int .i64 0] 29)) hb
  have HD1 := Lib.hid (bTrans HD0.out hB1)
  have HT1 := Lib.hid (HT0.out.mono hB1)
  have HC1 := Lib.hid (hc)
  have T1 := Lib.hid (show TBox w1 w.heap.size 29 #[.int .i64 t.q.wells, .slice Aw t.q.nw cw, .slice Af t.q.nf cf, .slice Ao t.no co, .slice Ap t.np cp, .slice As t.ns cs, .int .i64 t.far, .int .i64 t.harm, .int .i64 t.many] from by have := ((TBox.new w #[.int .i64 t.q.wells, .slice Aw t.q.nw cw, .slice Af t.q.nf cf, .slice Ao t.no co, .slice Ap t.np cp, .slice As t.ns cs, .int .i64 t.far, .int .i64 t.harm, .int .i64 t.many] 29).mono (bAlloc (Below.refl _ _) (.cells #[.int .i64 0, .slice none 0 0, .slice none 0 0, .slice none 0 0, .slice none 0 0, .slice none 0 0, .int .i64 0, .int .i64 0, .int .i64 0] 29))).mono hb; simpa using this)
  have R1 := Lib.hid (show TBox w1 (w.heap.size + 1) 29 #[.int .i64 0, .slice none 0 0, .slice none 0 0, .slice none 0 0, .slice none 0 0, .slice none 0 0, .int .i64 0, .int .i64 0, .int .i64 0] from by have := ((TBox.new (w.alloc (.cells #[.int .i64 t.q.wells, .slice Aw t.q.nw cw, .slice Af t.q.nf cf, .slice Ao t.no co, .slice Ap t.np cp, .slice As t.ns cs, .int .i64 t.far, .int .i64 t.harm, .int .i64 t.many] 29)) #[.int .i64 0, .slice none 0 0, .slice none 0 0, .slice none 0 0, .slice none 0 0, .slice none 0 0, .int .i64 0, .int .i64 0, .int .i64 0] 29).mono (Below.refl _ _)).mono hb; simpa using this)
  clear hb hB1 HD0 HT0
  obtain ⟨T_0, T_1, T_2, T_3, T_4, T_5, T_6, T_7, T_8, T_l⟩ := T1.out.c9
  obtain ⟨R_0, R_1, R_2, R_3, R_4, R_5, R_6, R_7, R_8, R_l⟩ := R1.out.c9
  clear hc hU
  have f0 := R1.out.frozen 0
  have f1 := R1.out.frozen 1
  have f2 := R1.out.frozen 2
  have f3 := R1.out.frozen 3
  have f4 := R1.out.frozen 4
  have f5 := R1.out.frozen 5
  have f6 := R1.out.frozen 6
  have f7 := R1.out.frozen 7
  have f8 := R1.out.frozen 8
  go_wp2_with fail
  have tyR : ∃ cs, TBox w1 (w.heap.size + 1) 29 cs := ⟨_, R1.out⟩
  refine bodyPost_ret (v := .agg #[.int .i64 t.q.wells, .slice Bw t.q.nw dw, .slice Bf t.q.nf df, .slice Bo t.no do_, .slice Bp t.np dp, .slice Bs t.ns ds, .int .i64 t.far, .int .i64 h, .int .i64 t.many]) (by simp [results, Tryz.results46, go_sem, *]) rfl ⟨hr_of (base := w.heap.size) ?_, ?_⟩
  · refine CopyAt9.mono ?_ (bAlloc (Below.refl _ _) _)
    repeat with_reducible refine CopyAt9.setTy ?_ ?_ _ _
    · exact (HC1.out.harmed h).lower (by simp; omega)
    all_goals repeat (first | with_reducible refine TyB.set ?_ _ _ _ | with_reducible exact tyR)
  · refine bAlloc ?_ _
    repeat refine Below.setCell ?_ (by simp) _
    exact HD1.out
set_option maxHeartbeats 4000000 in
set_option maxRecDepth 100000 in
theorem loosen9_any (Aw Af Ao Ap As : Option Addr) (cw cf co cp cs : Nat) (t : Pt) (w : World) (hs : t.Fits) (hT : PAt w Aw Af Ao Ap As t) :
    Calls Tryz.prog 38 #[.agg #[.int .i64 t.q.wells, .slice Aw t.q.nw cw, .slice Af t.q.nf cf, .slice Ao t.no co, .slice Ap t.np cp, .slice As t.ns cs, .int .i64 t.far, .int .i64 t.harm, .int .i64 t.many]] w fun e w' => e = .returned (.tuple #[.int .i64 t.loosenOut.1, .int .i64 t.loosenOut.2]) ∧ Below w.heap.size w w' := by
  have HSM := Lib.hid hs.small
  obtain ⟨er, her⟩ : ∃ v, t.knowErr true = v := ⟨_, rfl⟩
  have HER := Lib.hid her
  have HE := Lib.hid (show t.loosenOut = if er = 0 then (if t.loosen < 100 then ((t.loosen : Int), 0) else (0, 3)) else (0, er) by unfold Pt.loosenOut; rw [her])
  clear her
  have HD0 := Lib.hid (Below.refl w.heap.size w)
  have HFI := Lib.hid hs
  have HT0 := Lib.hid hT
  clear hs hT
  go_enter Tryz.func38, Tryz.ntmps38
  go_wp2_with fail
  refine ((by have := known9_any Aw Af Ao Ap As cw cf co cp cs t true (w.alloc (.cells #[.int .i64 t.q.wells, .slice Aw t.q.nw cw, .slice Af t.q.nf cf, .slice Ao t.no co, .slice Ap t.np cp, .slice As t.ns cs, .int .i64 t.far, .int .i64 t.harm, .int .i64 t.many] 29)) HSM.out (HT0.out.mono (bAlloc (Below.refl _ _) (.cells #[.int .i64 t.q.wells, .slice Aw t.q.nw cw, .slice Af t.q.nf cf, .slice Ao t.no co, .slice Ap t.np cp, .slice As t.ns cs, .int .i64 t.far, .int .i64 t.harm, .int .i64 t.many] 29))); rw [HER.out] at this; exact this : Calls Tryz.prog 97 #[.agg #[.int .i64 t.q.wells, .slice Aw t.q.nw cw, .slice Af t.q.nf cf, .slice Ao t.no co, .slice Ap t.np cp, .slice As t.ns cs, .int .i64 t.far, .int .i64 t.harm, .int .i64 t.many], .bool true] (w.alloc (.cells #[.int .i64 t.q.wells, .slice Aw t.q.nw cw, .slice Af t.q.nf cf, .slice Ao t.no co, .slice Ap t.np cp, .slice As t.ns cs, .int .i64 t.far, .int .i64 t.harm, .int .i64 t.many] 29)) fun e w' => Kn9 w' t er e ∧ Below (w.alloc (.cells #[.int .i64 t.q.wells, .slice Aw t.q.nw cw, .slice Af t.q.nf cf, .slice Ao t.no co, .slice Ap t.np cp, .slice As t.ns cs, .int .i64 t.far, .int .i64 t.harm, .int .i64 t.many] 29)).heap.size (w.alloc (.cells #[.int .i64 t.q.wells, .slice Aw t.q.nw cw, .slice Af t.q.nf cf, .slice Ao t.no co, .slice Ap t.np cp, .slice As t.ns cs, .int .i64 t.far, .int .i64 t.harm, .int .i64 t.many] 29)) w')).mono ?_
  rintro e w1 ⟨ho, hb⟩
  have hB1 : Below w.heap.size w w1 := bTrans (bAlloc (Below.refl _ _) (.cells #[.int .i64 t.q.wells, .slice Aw t.q.nw cw, .slice Af t.q.nf cf, .slice Ao t.no co, .slice Ap t.np cp, .slice As t.ns cs, .int .i64 t.far, .int .i64 t.harm, .int .i64 t.many] 29)) hb
  have HD1 := Lib.hid (bTrans HD0.out hB1)
  have HT1 := Lib.hid (HT0.out.mono hB1)
  have T1 := Lib.hid (show TBox w1 w.heap.size 29 #[.int .i64 t.q.wells, .slice Aw t.q.nw cw, .slice Af t.q.nf cf, .slice Ao t.no co, .slice Ap t.np cp, .slice As t.ns cs, .int .i64 t.far, .int .i64 t.harm, .int .i64 t.many] from by have := ((TBox.new w #[.int .i64 t.q.wells, .slice Aw t.q.nw cw, .slice Af t.q.nf cf, .slice Ao t.no co, .slice Ap t.np cp, .slice As t.ns cs, .int .i64 t.far, .int .i64 t.harm, .int .i64 t.many] 29).mono (Below.refl _ _)).mono hb; simpa using this)
  clear hb hB1 HD0 HT0
  obtain ⟨T_0, T_1, T_2, T_3, T_4, T_5, T_6, T_7, T_8, T_l⟩ := T1.out.c9
  by_cases he : er = 0
  case neg =>
    have g0 : (er != 0) = true := by simp [he]
    have HNZ := Lib.hid he
    clear he
    obtain rfl := ho.1 HNZ.out
    clear ho
    go_wp2_with fail
    go_ret2
    exact ⟨by rw [HE.out, if_neg HNZ.out] <;> rfl, HD1.out⟩
  subst he
  obtain ⟨ok, _, hne⟩ := Pt.knowErr_zero HER.out
  have HOK := Lib.hid ok
  clear ok hne
  have HEZ := Lib.hid (HE.out.trans (if_pos rfl))
  have hns5 := HOK.out.ns
  obtain ⟨A4, c4, rfl, hL⟩ := ho.2 rfl
  clear ho
  obtain ⟨n, hn⟩ : ∃ n, t.q.leftL.length = n := ⟨_, rfl⟩
  have HN := Lib.hid hn
  have HL1 := Lib.hid (hn ▸ hL : IntsAt w1 A4 n (intL0 t.q.leftL))
  rw [hn]
  clear hL hn
  go_wp2_with fail
  clear T_0 T_1 T_2 T_3 T_4 T_5 T_6 T_7 T_8 T_l
  go_loopw [6] (fun s6 wr => ∃ k : Nat, k ≤ 100 ∧ s6 = .int .i64 (k : Int) ∧ (∀ j : Nat, j < k → (t.harmed (j : Int)).anyFree = false) ∧ Below w1.heap.size w1 wr) (fun s6 _ => 100 - (intOf s6).toNat)
  case atStart => exact ⟨0, Nat.zero_le _, rfl, fun j h => absurd h (Nat.not_lt_zero _), Below.refl _ _⟩
  case round =>
    obtain ⟨k, hk_k, rfl, hno, hb⟩ := hrel
    have HBk := Lib.hid hb
    have HNO := Lib.hid hno
    clear hno
    have hB2 : Below w1.heap.size w1 wr := bTrans (Below.refl _ _) hb
    have HD2 := Lib.hid (bTrans HD1.out hB2)
    have HT2 := Lib.hid (HT1.out.mono hB2)
    have HL2 := Lib.hid (HL1.out.mono hB2)
    have HU_k2 := Lib.hid ((show Upto w1 wr from HBk.out))
    have T2 := Lib.hid (T1.out.mono hB2)
    clear hb hB2
    obtain ⟨T_0, T_1, T_2, T_3, T_4, T_5, T_6, T_7, T_8, T_l⟩ := T2.out.c9
    by_cases hlt_k : k < 100
    case pos =>
      have h1_k : (k : Int) < (100 : Int) := by omega
      have h0_k : (0 : Int) ≤ (k : Int) := by omega
      have hb_k : k < 100 := by omega
      have h2_k : (k : Int) ≤ 99 := by omega
      have HK := Lib.hid (show k ≤ 99 by omega)
      go_wp2_with fail
      refine (harmed9_any Aw Af Ao Ap As cw cf co cp cs t (k : Int) _ HFI.out HT2.out).mono ?_
      rintro e w3 ⟨ho, hb⟩
      obtain ⟨Bw, dw, Bf, df, Bo, do_, Bp, dp, Bs, ds, rfl, hU⟩ := ho
      have hB3 : Below wr.heap.size wr w3 := bTrans (Below.refl _ _) hb
      have HD3 := Lib.hid (bTrans HD2.out hB3)
      have HT3 := Lib.hid (HT2.out.mono hB3)
      have HL3 := Lib.hid (HL2.out.mono hB3)
      have HU_k3 := Lib.hid (HU_k2.out.mono hB3)
      have HU3 := Lib.hid (hU)
      have T3 := Lib.hid (T2.out.mono hB3)
      clear hb hB3 HD2 HT2 HL2 HU_k2 T2 T_0 T_1 T_2 T_3 T_4 T_5 T_6 T_7 T_8 T_l
      obtain ⟨T_0, T_1, T_2, T_3, T_4, T_5, T_6, T_7, T_8, T_l⟩ := T3.out.c9
      clear hU
      go_wp2_with fail
      obtain ⟨z, hz⟩ : ∃ z, (t.harmed (k : Int)).frees.length = z := ⟨_, rfl⟩
      have HZ := Lib.hid hz
      have HAF := Lib.hid (show (t.harmed (k : Int)).anyFree = decide (0 < z) by rw [anyFree_frees, hz])
      clear hz
      refine ((by have := freeOf9_any Bw Bf Bo Bp Bs dw df do_ dp ds (t.harmed (k : Int)) A4 c4 w3 (harmed_ok HOK.out HK.out) HU3.out (harmed_small HSM.out _) (show IntsAt w3 A4 (t.harmed (k : Int)).q.leftL.length (intL0 (t.harmed (k : Int)).q.leftL) from HN.out.symm ▸ HL3.out); rw [show (t.harmed (k : Int)).q.leftL.length = n from HN.out] at this; exact this : Calls Tryz.prog 105 #[.agg #[.int .i64 t.q.wells, .slice Bw t.q.nw dw, .slice Bf t.q.nf df, .slice Bo t.no do_, .slice Bp t.np dp, .slice Bs t.ns ds, .int .i64 t.far, .int .i64 (k : Int), .int .i64 t.many], .slice A4 n c4] w3 fun e w' => (∃ v, e = .returned v ∧ OwnL w' w3.heap.size v (t.harmed (k : Int)).frees) ∧ Below w3.heap.size w3 w')).mono ?_
      rintro e w4 ⟨⟨v, rfl, hv⟩, hb⟩
      obtain ⟨A6, c6, rfl, _⟩ := hv.lst
      rw [HZ.out]
      have hB4 : Below w3.heap.size w3 w4 := bTrans (Below.refl _ _) hb
      have HD4 := Lib.hid (bTrans HD3.out hB4)
      have HT4 := Lib.hid (HT3.out.mono hB4)
      have HL4 := Lib.hid (HL3.out.mono hB4)
      have HU_k4 := Lib.hid (HU_k3.out.mono hB4)
      have T4 := Lib.hid (T3.out.mono hB4)
      clear hb hB4 HD3 HT3 HL3 HU_k3 HU3 T3 T_0 T_1 T_2 T_3 T_4 T_5 T_6 T_7 T_8 T_l
      obtain ⟨T_0, T_1, T_2, T_3, T_4, T_5, T_6, T_7, T_8, T_l⟩ := T4.out.c9
      clear hv
      by_cases h0 : 0 < z
      case pos =>
        have h0i : (0 : Int) < (z : Int) := by omega
        have h0g : decide ((z : Int) > 0) = true := by simp; omega
        have HR := Lib.hid (show t.loosenOut = ((k : Int), 0) by rw [HEZ.out, show t.loosen = k from firstFrom_eq _ 100 0 k (Nat.zero_le _) (by omega) (fun j _ hj => HNO.out j hj) (fun _ => by show (t.harmed (k : Int)).anyFree = true; rw [HAF.out]; simpa using h0), if_pos (by omega)])
        go_wp2_with fail
        go_ret2
        exact ⟨by rw [HR.out] <;> rfl, HD4.out⟩
      obtain rfl : z = 0 := by omega
      have HNO2 := Lib.hid (show ∀ j : Nat, j < k + 1 → (t.harmed (j : Int)).anyFree = false from fun j hj => by
        rcases Nat.lt_or_ge j k with h1 | h1
        · exact HNO.out j h1
        · obtain rfl : j = k := by omega
          rw [HAF.out]; rfl)
      clear h0
      go_wp2_with fail
      go_roundw
      case rel =>
        first
        | exact ⟨k + 1, by omega, by go_num, HNO2.out, HU_k4.out⟩
        | ((repeat apply Exists.intro)
           refine ⟨⟨k + 1, by omega, ?_, HNO2.out, HU_k4.out⟩, rfl⟩
           go_num)
      case measure => simp [intOf]; omega
    have he_k : k = 100 := by omega
    have hk9 : ¬ (k : Int) ≤ 99 := by omega
    have hk8 : ¬ k ≤ 99 := by omega
    have HR := Lib.hid (show t.loosenOut = (0, 3) by rw [HEZ.out, show t.loosen = 100 from firstFrom_eq _ 100 0 100 (Nat.zero_le _) (Nat.le_refl _) (fun j _ hj => HNO.out j (by omega)) (fun h => absurd h (by omega))]; rfl)
    go_wp2_with fail
    go_ret2
    exact ⟨by rw [HR.out] <;> rfl, HD2.out⟩
end Go.Proofs.YtjpfdhhiofjpbaaGreatDoor

namespace Go.Proofs.YtjpfdhhiofjpbaaGreatDoor
open Go.RowKit Go.Sort
set_option maxHeartbeats 16000000 in
set_option maxRecDepth 100000 in
theorem placesFree_any (Aw Af Ao Ap As : Option Addr) (cw cf co cp cs : Nat) (t : Pt) (w : World) (hs : t.Fits) (hT : PAt w Aw Af Ao Ap As t) (hB : TabAt w) (hN : NoneAt w) :
    Calls Tryz.prog 5 #[.agg #[.int .i64 t.q.wells, .slice Aw t.q.nw cw, .slice Af t.q.nf cf, .slice Ao t.no co, .slice Ap t.np cp, .slice As t.ns cs, .int .i64 t.far, .int .i64 t.harm, .int .i64 t.many]] w fun e w' => e = .returned (.bool true) ∧ Below w.heap.size w w' := by
  have HD0 := Lib.hid (Below.refl w.heap.size w)
  have HFI := Lib.hid hs
  have HT0 := Lib.hid hT
  have HTB0 := Lib.hid hB
  have HNA0 := Lib.hid hN
  clear hs hT hB hN
  go_enter Tryz.func5, Tryz.ntmps5
  have HSM := Lib.hid HFI.out.small
  go_wp2_with fail
  refine (far9_any Aw Af Ao Ap As cw cf co cp cs t _ HSM.out (HT0.out.mono (bAlloc (Below.refl _ _) (.cells #[.int .i64 t.q.wells, .slice Aw t.q.nw cw, .slice Af t.q.nf cf, .slice Ao t.no co, .slice Ap t.np cp, .slice As t.ns cs, .int .i64 t.far, .int .i64 t.harm, .int .i64 t.many] 29)))).mono ?_
  rintro e w1 ⟨⟨bf, rfl⟩, hb⟩
  have hB1 : Below w.heap.size w w1 := bTrans (bAlloc (Below.refl _ _) (.cells #[.int .i64 t.q.wells, .slice Aw t.q.nw cw, .slice Af t.q.nf cf, .slice Ao t.no co, .slice Ap t.np cp, .slice As t.ns cs, .int .i64 t.far, .int .i64 t.harm, .int .i64 t.many] 29)) hb
  have HD1 := Lib.hid (bTrans HD0.out hB1)
  have HT1 := Lib.hid (HT0.out.mono hB1)
  have HTB1 := Lib.hid (HTB0.out.mono hB1)
  have HNA1 := Lib.hid (HNA0.out.mono hB1)
  have T1 := Lib.hid (show TBox w1 w.heap.size 29 #[.int .i64 t.q.wells, .slice Aw t.q.nw cw, .slice Af t.q.nf cf, .slice Ao t.no co, .slice Ap t.np cp, .slice As t.ns cs, .int .i64 t.far, .int .i64 t.harm, .int .i64 t.many] from by have := ((TBox.new w #[.int .i64 t.q.wells, .slice Aw t.q.nw cw, .slice Af t.q.nf cf, .slice Ao t.no co, .slice Ap t.np cp, .slice As t.ns cs, .int .i64 t.far, .int .i64 t.harm, .int .i64 t.many] 29).mono (Below.refl _ _)).mono hb; simpa using this)
  clear hb hB1 HD0 HT0 HTB0 HNA0
  obtain ⟨T_0, T_1, T_2, T_3, T_4, T_5, T_6, T_7, T_8, T_l⟩ := T1.out.c9
  cases bf
  case true =>
    go_wp2_with fail
    refine (works9_any _ HTB1.out HNA1.out).mono ?_
    rintro e w2 ⟨rfl, hb⟩
    have hB2 : Below w1.heap.size w1 w2 := bTrans (Below.refl _ _) hb
    have HD2 := Lib.hid (bTrans HD1.out hB2)
    have HT2 := Lib.hid (HT1.out.mono hB2)
    have HTB2 := Lib.hid (HTB1.out.mono hB2)
    have HNA2 := Lib.hid (HNA1.out.mono hB2)
    have T2 := Lib.hid (T1.out.mono hB2)
    clear hb hB2 HD1 HT1 HTB1 HNA1 T1 T_0 T_1 T_2 T_3 T_4 T_5 T_6 T_7 T_8 T_l
    obtain ⟨T_0, T_1, T_2, T_3, T_4, T_5, T_6, T_7, T_8, T_l⟩ := T2.out.c9
    go_wp2_with fail
    go_ret
    exact ⟨rfl, HD2.out⟩
  go_wp2_with fail
  refine (copy9_any Aw Af Ao Ap As cw cf co cp cs t _ HFI.out HT1.out).mono ?_
  rintro e w2 ⟨ho, hb⟩
  obtain ⟨_, _, _, _, _, rfl, hc⟩ := ho
  obtain ⟨Bw, dw, Bf, df, Bo, do_, Bp, dp, Bs, ds, rfl, rfl, rfl, rfl, rfl, hU⟩ := hc.pat
  have hB2 : Below w1.heap.size w1 w2 := bTrans (Below.refl _ _) hb
  have HD2 := Lib.hid (bTrans HD1.out hB2)
  have HT2 := Lib.hid (HT1.out.mono hB2)
  have HTB2 := Lib.hid (HTB1.out.mono hB2)
  have HNA2 := Lib.hid (HNA1.out.mono hB2)
  have HU2 := Lib.hid (hU)
  have T2 := Lib.hid (T1.out.mono hB2)
  clear hb hB2 HD1 HT1 HTB1 HNA1 T1 T_0 T_1 T_2 T_3 T_4 T_5 T_6 T_7 T_8 T_l
  obtain ⟨T_0, T_1, T_2, T_3, T_4, T_5, T_6, T_7, T_8, T_l⟩ := T2.out.c9
  clear hc hU
  go_wp2_with fail
  obtain ⟨x1, hx1⟩ : ∃ y, t.bestOut.1 = y := ⟨_, rfl⟩
  obtain ⟨x2, hx2⟩ : ∃ y, t.bestOut.2 = y := ⟨_, rfl⟩
  have HX := Lib.hid (And.intro hx1 hx2)
  clear hx1 hx2
  obtain ⟨y1, hy1⟩ : ∃ y, t.loosenOut.1 = y := ⟨_, rfl⟩
  obtain ⟨y2, hy2⟩ : ∃ y, t.loosenOut.2 = y := ⟨_, rfl⟩
  have HY := Lib.hid (And.intro hy1 hy2)
  clear hy1 hy2
  obtain ⟨er, her⟩ : ∃ y, t.knowErr true = y := ⟨_, rfl⟩
  have HER := Lib.hid her
  clear her
  obtain ⟨z, hz⟩ : ∃ y, t.frees.length = y := ⟨_, rfl⟩
  have HZ := Lib.hid hz
  clear hz
  by_cases he : er = 0
  case neg =>
    have HNZ := Lib.hid he
    clear he
    refine ((by have := freeP_any Bw Bf Bo Bp Bs dw df do_ dp ds t (w2.alloc (.cells #[.int .i64 t.q.wells, .slice Bw t.q.nw dw, .slice Bf t.q.nf df, .slice Bo t.no do_, .slice Bp t.np dp, .slice Bs t.ns ds, .int .i64 t.far, .int .i64 t.harm, .int .i64 t.many] 29)) HSM.out (HU2.out.mono (bAlloc (Below.refl _ _) (.cells #[.int .i64 t.q.wells, .slice Bw t.q.nw dw, .slice Bf t.q.nf df, .slice Bo t.no do_, .slice Bp t.np dp, .slice Bs t.ns ds, .int .i64 t.far, .int .i64 t.harm, .int .i64 t.many] 29))) (HTB2.out.mono (bAlloc (Below.refl _ _) (.cells #[.int .i64 t.q.wells, .slice Bw t.q.nw dw, .slice Bf t.q.nf df, .slice Bo t.no do_, .slice Bp t.np dp, .slice Bs t.ns ds, .int .i64 t.far, .int .i64 t.harm, .int .i64 t.many] 29))) (HNA2.out.mono (bAlloc (Below.refl _ _) (.cells #[.int .i64 t.q.wells, .slice Bw t.q.nw dw, .slice Bf t.q.nf df, .slice Bo t.no do_, .slice Bp t.np dp, .slice Bs t.ns ds, .int .i64 t.far, .int .i64 t.harm, .int .i64 t.many] 29))); rw [HER.out] at this; exact this : Calls Tryz.prog 33 #[.agg #[.int .i64 t.q.wells, .slice Bw t.q.nw dw, .slice Bf t.q.nf df, .slice Bo t.no do_, .slice Bp t.np dp, .slice Bs t.ns ds, .int .i64 t.far, .int .i64 t.harm, .int .i64 t.many]] (w2.alloc (.cells #[.int .i64 t.q.wells, .slice Bw t.q.nw dw, .slice Bf t.q.nf df, .slice Bo t.no do_, .slice Bp t.np dp, .slice Bs t.ns ds, .int .i64 t.far, .int .i64 t.harm, .int .i64 t.many] 29)) fun e w' => NumsOut w' (w2.alloc (.cells #[.int .i64 t.q.wells, .slice Bw t.q.nw dw, .slice Bf t.q.nf df, .slice Bo t.no do_, .slice Bp t.np dp, .slice Bs t.ns ds, .int .i64 t.far, .int .i64 t.harm, .int .i64 t.many] 29)).heap.size er (t.frees) e ∧ Below (w2.alloc (.cells #[.int .i64 t.q.wells, .slice Bw t.q.nw dw, .slice Bf t.q.nf df, .slice Bo t.no do_, .slice Bp t.np dp, .slice Bs t.ns ds, .int .i64 t.far, .int .i64 t.harm, .int .i64 t.many] 29)).heap.size (w2.alloc (.cells #[.int .i64 t.q.wells, .slice Bw t.q.nw dw, .slice Bf t.q.nf df, .slice Bo t.no do_, .slice Bp t.np dp, .slice Bs t.ns ds, .int .i64 t.far, .int .i64 t.harm, .int .i64 t.many] 29)) w')).mono ?_
    rintro e w3 ⟨ho, hb⟩
    obtain rfl := ho.2 HNZ.out
    have hB3 : Below w2.heap.size w2 w3 := bTrans (bAlloc (Below.refl _ _) (.cells #[.int .i64 t.q.wells, .slice Bw t.q.nw dw, .slice Bf t.q.nf df, .slice Bo t.no do_, .slice Bp t.np dp, .slice Bs t.ns ds, .int .i64 t.far, .int .i64 t.harm, .int .i64 t.many] 29)) hb
    have HD3 := Lib.hid (bTrans HD2.out hB3)
    have HT3 := Lib.hid (HT2.out.mono hB3)
    have HTB3 := Lib.hid (HTB2.out.mono hB3)
    have HNA3 := Lib.hid (HNA2.out.mono hB3)
    have HU3 := Lib.hid (HU2.out.mono hB3)
    have T3 := Lib.hid (T2.out.mono hB3)
    have U3 := Lib.hid (show TBox w3 w2.heap.size 29 #[.int .i64 t.q.wells, .slice Bw t.q.nw dw, .slice Bf t.q.nf df, .slice Bo t.no do_, .slice Bp t.np dp, .slice Bs t.ns ds, .int .i64 t.far, .int .i64 t.harm, .int .i64 t.many] from by have := ((TBox.new w2 #[.int .i64 t.q.wells, .slice Bw t.q.nw dw, .slice Bf t.q.nf df, .slice Bo t.no do_, .slice Bp t.np dp, .slice Bs t.ns ds, .int .i64 t.far, .int .i64 t.harm, .int .i64 t.many] 29).mono (Below.refl _ _)).mono hb; simpa using this)
    clear hb hB3 HD2 HT2 HTB2 HNA2 HU2 T2 T_0 T_1 T_2 T_3 T_4 T_5 T_6 T_7 T_8 T_l
    obtain ⟨T_0, T_1, T_2, T_3, T_4, T_5, T_6, T_7, T_8, T_l⟩ := T3.out.c9
    obtain ⟨U_0, U_1, U_2, U_3, U_4, U_5, U_6, U_7, U_8, U_l⟩ := U3.out.c9
    clear ho
    go_wp2_with fail
    refine ((by have := free9_any Aw Af Ao Ap As cw cf co cp cs t w3 HSM.out HT3.out; rw [HER.out] at this; exact this : Calls Tryz.prog 34 #[.agg #[.int .i64 t.q.wells, .slice Aw t.q.nw cw, .slice Af t.q.nf cf, .slice Ao t.no co, .slice Ap t.np cp, .slice As t.ns cs, .int .i64 t.far, .int .i64 t.harm, .int .i64 t.many]] w3 fun e w' => NumsOut w' w3.heap.size er (t.frees) e ∧ Below w3.heap.size w3 w')).mono ?_
    rintro e w4 ⟨ho, hb⟩
    obtain rfl := ho.2 HNZ.out
    have hB4 : Below w3.heap.size w3 w4 := bTrans (Below.refl _ _) hb
    have HD4 := Lib.hid (bTrans HD3.out hB4)
    have HT4 := Lib.hid (HT3.out.mono hB4)
    have HTB4 := Lib.hid (HTB3.out.mono hB4)
    have HNA4 := Lib.hid (HNA3.out.mono hB4)
    have HU4 := Lib.hid (HU3.out.mono hB4)
    have T4 := Lib.hid (T3.out.mono hB4)
    have U4 := Lib.hid (U3.out.mono hB4)
    clear hb hB4 HD3 HT3 HTB3 HNA3 HU3 T3 T_0 T_1 T_2 T_3 T_4 T_5 T_6 T_7 T_8 T_l U3 U_0 U_1 U_2 U_3 U_4 U_5 U_6 U_7 U_8 U_l
    obtain ⟨T_0, T_1, T_2, T_3, T_4, T_5, T_6, T_7, T_8, T_l⟩ := T4.out.c9
    obtain ⟨U_0, U_1, U_2, U_3, U_4, U_5, U_6, U_7, U_8, U_l⟩ := U4.out.c9
    clear ho
    go_wp2_with fail
    refine ((by have := bestP_any Bw Bf Bo Bp Bs dw df do_ dp ds t w4 HSM.out HU4.out HTB4.out HNA4.out; rw [HX.out.1, HX.out.2] at this; exact this : Calls Tryz.prog 35 #[.agg #[.int .i64 t.q.wells, .slice Bw t.q.nw dw, .slice Bf t.q.nf df, .slice Bo t.no do_, .slice Bp t.np dp, .slice Bs t.ns ds, .int .i64 t.far, .int .i64 t.harm, .int .i64 t.many]] w4 fun e w' => e = .returned (.tuple #[.int .i64 x1, .int .i64 x2]) ∧ Below w4.heap.size w4 w')).mono ?_
    rintro e w5 ⟨rfl, hb⟩
    have hB5 : Below w4.heap.size w4 w5 := bTrans (Below.refl _ _) hb
    have HD5 := Lib.hid (bTrans HD4.out hB5)
    have HT5 := Lib.hid (HT4.out.mono hB5)
    have HTB5 := Lib.hid (HTB4.out.mono hB5)
    have HNA5 := Lib.hid (HNA4.out.mono hB5)
    have HU5 := Lib.hid (HU4.out.mono hB5)
    have T5 := Lib.hid (T4.out.mono hB5)
    have U5 := Lib.hid (U4.out.mono hB5)
    clear hb hB5 HD4 HT4 HTB4 HNA4 HU4 T4 T_0 T_1 T_2 T_3 T_4 T_5 T_6 T_7 T_8 T_l U4 U_0 U_1 U_2 U_3 U_4 U_5 U_6 U_7 U_8 U_l
    obtain ⟨T_0, T_1, T_2, T_3, T_4, T_5, T_6, T_7, T_8, T_l⟩ := T5.out.c9
    obtain ⟨U_0, U_1, U_2, U_3, U_4, U_5, U_6, U_7, U_8, U_l⟩ := U5.out.c9
    go_wp2_with fail
    refine ((by have := best9_any Aw Af Ao Ap As cw cf co cp cs t w5 HSM.out HT5.out; rw [HX.out.1, HX.out.2] at this; exact this : Calls Tryz.prog 36 #[.agg #[.int .i64 t.q.wells, .slice Aw t.q.nw cw, .slice Af t.q.nf cf, .slice Ao t.no co, .slice Ap t.np cp, .slice As t.ns cs, .int .i64 t.far, .int .i64 t.harm, .int .i64 t.many]] w5 fun e w' => e = .returned (.tuple #[.int .i64 x1, .int .i64 x2]) ∧ Below w5.heap.size w5 w')).mono ?_
    rintro e w6 ⟨rfl, hb⟩
    have hB6 : Below w5.heap.size w5 w6 := bTrans (Below.refl _ _) hb
    have HD6 := Lib.hid (bTrans HD5.out hB6)
    have HT6 := Lib.hid (HT5.out.mono hB6)
    have HTB6 := Lib.hid (HTB5.out.mono hB6)
    have HNA6 := Lib.hid (HNA5.out.mono hB6)
    have HU6 := Lib.hid (HU5.out.mono hB6)
    have T6 := Lib.hid (T5.out.mono hB6)
    have U6 := Lib.hid (U5.out.mono hB6)
    clear hb hB6 HD5 HT5 HTB5 HNA5 HU5 T5 T_0 T_1 T_2 T_3 T_4 T_5 T_6 T_7 T_8 T_l U5 U_0 U_1 U_2 U_3 U_4 U_5 U_6 U_7 U_8 U_l
    obtain ⟨T_0, T_1, T_2, T_3, T_4, T_5, T_6, T_7, T_8, T_l⟩ := T6.out.c9
    obtain ⟨U_0, U_1, U_2, U_3, U_4, U_5, U_6, U_7, U_8, U_l⟩ := U6.out.c9
    go_wp2_with fail
    refine ((by have := loosenP_any Bw Bf Bo Bp Bs dw df do_ dp ds t w6 HSM.out HU6.out HTB6.out HNA6.out; rw [HY.out.1, HY.out.2] at this; exact this : Calls Tryz.prog 37 #[.agg #[.int .i64 t.q.wells, .slice Bw t.q.nw dw, .slice Bf t.q.nf df, .slice Bo t.no do_, .slice Bp t.np dp, .slice Bs t.ns ds, .int .i64 t.far, .int .i64 t.harm, .int .i64 t.many]] w6 fun e w' => e = .returned (.tuple #[.int .i64 y1, .int .i64 y2]) ∧ Below w6.heap.size w6 w')).mono ?_
    rintro e w7 ⟨rfl, hb⟩
    have hB7 : Below w6.heap.size w6 w7 := bTrans (Below.refl _ _) hb
    have HD7 := Lib.hid (bTrans HD6.out hB7)
    have HT7 := Lib.hid (HT6.out.mono hB7)
    have HTB7 := Lib.hid (HTB6.out.mono hB7)
    have HNA7 := Lib.hid (HNA6.out.mono hB7)
    have HU7 := Lib.hid (HU6.out.mono hB7)
    have T7 := Lib.hid (T6.out.mono hB7)
    have U7 := Lib.hid (U6.out.mono hB7)
    clear hb hB7 HD6 HT6 HTB6 HNA6 HU6 T6 T_0 T_1 T_2 T_3 T_4 T_5 T_6 T_7 T_8 T_l U6 U_0 U_1 U_2 U_3 U_4 U_5 U_6 U_7 U_8 U_l
    obtain ⟨T_0, T_1, T_2, T_3, T_4, T_5, T_6, T_7, T_8, T_l⟩ := T7.out.c9
    obtain ⟨U_0, U_1, U_2, U_3, U_4, U_5, U_6, U_7, U_8, U_l⟩ := U7.out.c9
    go_wp2_with fail
    refine ((by have := loosen9_any Aw Af Ao Ap As cw cf co cp cs t w7 HFI.out HT7.out; rw [HY.out.1, HY.out.2] at this; exact this : Calls Tryz.prog 38 #[.agg #[.int .i64 t.q.wells, .slice Aw t.q.nw cw, .slice Af t.q.nf cf, .slice Ao t.no co, .slice Ap t.np cp, .slice As t.ns cs, .int .i64 t.far, .int .i64 t.harm, .int .i64 t.many]] w7 fun e w' => e = .returned (.tuple #[.int .i64 y1, .int .i64 y2]) ∧ Below w7.heap.size w7 w')).mono ?_
    rintro e w8 ⟨rfl, hb⟩
    have hB8 : Below w7.heap.size w7 w8 := bTrans (Below.refl _ _) hb
    have HD8 := Lib.hid (bTrans HD7.out hB8)
    have HT8 := Lib.hid (HT7.out.mono hB8)
    have HTB8 := Lib.hid (HTB7.out.mono hB8)
    have HNA8 := Lib.hid (HNA7.out.mono hB8)
    have HU8 := Lib.hid (HU7.out.mono hB8)
    have T8 := Lib.hid (T7.out.mono hB8)
    have U8 := Lib.hid (U7.out.mono hB8)
    clear hb hB8 HD7 HT7 HTB7 HNA7 HU7 T7 T_0 T_1 T_2 T_3 T_4 T_5 T_6 T_7 T_8 T_l U7 U_0 U_1 U_2 U_3 U_4 U_5 U_6 U_7 U_8 U_l
    obtain ⟨T_0, T_1, T_2, T_3, T_4, T_5, T_6, T_7, T_8, T_l⟩ := T8.out.c9
    obtain ⟨U_0, U_1, U_2, U_3, U_4, U_5, U_6, U_7, U_8, U_l⟩ := U8.out.c9
    go_wp2_with fail
    refine (sameInts_t none none 0 0 0 (fun _ => 0) _ (by omega) (.inl rfl) (.inl rfl)).mono ?_
    rintro e w9 ⟨rfl, hb⟩
    have hB9 : Below w8.heap.size w8 w9 := bTrans (Below.refl _ _) hb
    have HD9 := Lib.hid (bTrans HD8.out hB9)
    have HT9 := Lib.hid (HT8.out.mono hB9)
    have HTB9 := Lib.hid (HTB8.out.mono hB9)
    have HNA9 := Lib.hid (HNA8.out.mono hB9)
    have HU9 := Lib.hid (HU8.out.mono hB9)
    have T9 := Lib.hid (T8.out.mono hB9)
    have U9 := Lib.hid (U8.out.mono hB9)
    clear hb hB9 HD8 HT8 HTB8 HNA8 HU8 T8 T_0 T_1 T_2 T_3 T_4 T_5 T_6 T_7 T_8 T_l U8 U_0 U_1 U_2 U_3 U_4 U_5 U_6 U_7 U_8 U_l
    obtain ⟨T_0, T_1, T_2, T_3, T_4, T_5, T_6, T_7, T_8, T_l⟩ := T9.out.c9
    obtain ⟨U_0, U_1, U_2, U_3, U_4, U_5, U_6, U_7, U_8, U_l⟩ := U9.out.c9
    go_wp2_with fail
    refine (same9_any Bw Bf Bo Bp Bs dw df do_ dp ds t Aw Af Ao Ap As cw cf co cp cs _ HSM.out HU9.out HT9.out).mono ?_
    rintro e w10 ⟨rfl, hb⟩
    have hB10 : Below w9.heap.size w9 w10 := bTrans (Below.refl _ _) hb
    have HD10 := Lib.hid (bTrans HD9.out hB10)
    have HT10 := Lib.hid (HT9.out.mono hB10)
    have HTB10 := Lib.hid (HTB9.out.mono hB10)
    have HNA10 := Lib.hid (HNA9.out.mono hB10)
    have HU10 := Lib.hid (HU9.out.mono hB10)
    have T10 := Lib.hid (T9.out.mono hB10)
    have U10 := Lib.hid (U9.out.mono hB10)
    clear hb hB10 HD9 HT9 HTB9 HNA9 HU9 T9 T_0 T_1 T_2 T_3 T_4 T_5 T_6 T_7 T_8 T_l U9 U_0 U_1 U_2 U_3 U_4 U_5 U_6 U_7 U_8 U_l
    obtain ⟨T_0, T_1, T_2, T_3, T_4, T_5, T_6, T_7, T_8, T_l⟩ := T10.out.c9
    obtain ⟨U_0, U_1, U_2, U_3, U_4, U_5, U_6, U_7, U_8, U_l⟩ := U10.out.c9
    go_wp2_with fail
    refine (works9_any _ HTB10.out HNA10.out).mono ?_
    rintro e w11 ⟨rfl, hb⟩
    have hB11 : Below w10.heap.size w10 w11 := bTrans (Below.refl _ _) hb
    have HD11 := Lib.hid (bTrans HD10.out hB11)
    have HT11 := Lib.hid (HT10.out.mono hB11)
    have HTB11 := Lib.hid (HTB10.out.mono hB11)
    have HNA11 := Lib.hid (HNA10.out.mono hB11)
    have HU11 := Lib.hid (HU10.out.mono hB11)
    have T11 := Lib.hid (T10.out.mono hB11)
    have U11 := Lib.hid (U10.out.mono hB11)
    clear hb hB11 HD10 HT10 HTB10 HNA10 HU10 T10 T_0 T_1 T_2 T_3 T_4 T_5 T_6 T_7 T_8 T_l U10 U_0 U_1 U_2 U_3 U_4 U_5 U_6 U_7 U_8 U_l
    obtain ⟨T_0, T_1, T_2, T_3, T_4, T_5, T_6, T_7, T_8, T_l⟩ := T11.out.c9
    obtain ⟨U_0, U_1, U_2, U_3, U_4, U_5, U_6, U_7, U_8, U_l⟩ := U11.out.c9
    go_wp2_with fail
    go_ret
    exact ⟨rfl, HD11.out⟩
  subst he
  have HZL := Lib.hid (show z ≤ 9223372036854775807 by have := selTo_len t.freeB t.ns; have h3 := HSM.out.ns; have h4 := HZ.out; unfold Pt.frees at h4; omega)
  refine ((by have := freeP_any Bw Bf Bo Bp Bs dw df do_ dp ds t (w2.alloc (.cells #[.int .i64 t.q.wells, .slice Bw t.q.nw dw, .slice Bf t.q.nf df, .slice Bo t.no do_, .slice Bp t.np dp, .slice Bs t.ns ds, .int .i64 t.far, .int .i64 t.harm, .int .i64 t.many] 29)) HSM.out (HU2.out.mono (bAlloc (Below.refl _ _) (.cells #[.int .i64 t.q.wells, .slice Bw t.q.nw dw, .slice Bf t.q.nf df, .slice Bo t.no do_, .slice Bp t.np dp, .slice Bs t.ns ds, .int .i64 t.far, .int .i64 t.harm, .int .i64 t.many] 29))) (HTB2.out.mono (bAlloc (Below.refl _ _) (.cells #[.int .i64 t.q.wells, .slice Bw t.q.nw dw, .slice Bf t.q.nf df, .slice Bo t.no do_, .slice Bp t.np dp, .slice Bs t.ns ds, .int .i64 t.far, .int .i64 t.harm, .int .i64 t.many] 29))) (HNA2.out.mono (bAlloc (Below.refl _ _) (.cells #[.int .i64 t.q.wells, .slice Bw t.q.nw dw, .slice Bf t.q.nf df, .slice Bo t.no do_, .slice Bp t.np dp, .slice Bs t.ns ds, .int .i64 t.far, .int .i64 t.harm, .int .i64 t.many] 29))); rw [HER.out] at this; exact this : Calls Tryz.prog 33 #[.agg #[.int .i64 t.q.wells, .slice Bw t.q.nw dw, .slice Bf t.q.nf df, .slice Bo t.no do_, .slice Bp t.np dp, .slice Bs t.ns ds, .int .i64 t.far, .int .i64 t.harm, .int .i64 t.many]] (w2.alloc (.cells #[.int .i64 t.q.wells, .slice Bw t.q.nw dw, .slice Bf t.q.nf df, .slice Bo t.no do_, .slice Bp t.np dp, .slice Bs t.ns ds, .int .i64 t.far, .int .i64 t.harm, .int .i64 t.many] 29)) fun e w' => NumsOut w' (w2.alloc (.cells #[.int .i64 t.q.wells, .slice Bw t.q.nw dw, .slice Bf t.q.nf df, .slice Bo t.no do_, .slice Bp t.np dp, .slice Bs t.ns ds, .int .i64 t.far, .int .i64 t.harm, .int .i64 t.many] 29)).heap.size 0 (t.frees) e ∧ Below (w2.alloc (.cells #[.int .i64 t.q.wells, .slice Bw t.q.nw dw, .slice Bf t.q.nf df, .slice Bo t.no do_, .slice Bp t.np dp, .slice Bs t.ns ds, .int .i64 t.far, .int .i64 t.harm, .int .i64 t.many] 29)).heap.size (w2.alloc (.cells #[.int .i64 t.q.wells, .slice Bw t.q.nw dw, .slice Bf t.q.nf df, .slice Bo t.no do_, .slice Bp t.np dp, .slice Bs t.ns ds, .int .i64 t.far, .int .i64 t.harm, .int .i64 t.many] 29)) w')).mono ?_
  rintro e w3 ⟨ho, hb⟩
  obtain ⟨v, rfl, hv⟩ := ho.1 rfl
  obtain ⟨A6, c6, rfl, hi6⟩ := hv.lst
  rw [HZ.out] at hi6 ⊢
  have hB3 : Below w2.heap.size w2 w3 := bTrans (bAlloc (Below.refl _ _) (.cells #[.int .i64 t.q.wells, .slice Bw t.q.nw dw, .slice Bf t.q.nf df, .slice Bo t.no do_, .slice Bp t.np dp, .slice Bs t.ns ds, .int .i64 t.far, .int .i64 t.harm, .int .i64 t.many] 29)) hb
  have HD3 := Lib.hid (bTrans HD2.out hB3)
  have HT3 := Lib.hid (HT2.out.mono hB3)
  have HTB3 := Lib.hid (HTB2.out.mono hB3)
  have HNA3 := Lib.hid (HNA2.out.mono hB3)
  have HU3 := Lib.hid (HU2.out.mono hB3)
  have HW3 := Lib.hid (hi6)
  have T3 := Lib.hid (T2.out.mono hB3)
  have U3 := Lib.hid (show TBox w3 w2.heap.size 29 #[.int .i64 t.q.wells, .slice Bw t.q.nw dw, .slice Bf t.q.nf df, .slice Bo t.no do_, .slice Bp t.np dp, .slice Bs t.ns ds, .int .i64 t.far, .int .i64 t.harm, .int .i64 t.many] from by have := ((TBox.new w2 #[.int .i64 t.q.wells, .slice Bw t.q.nw dw, .slice Bf t.q.nf df, .slice Bo t.no do_, .slice Bp t.np dp, .slice Bs t.ns ds, .int .i64 t.far, .int .i64 t.harm, .int .i64 t.many] 29).mono (Below.refl _ _)).mono hb; simpa using this)
  clear hb hB3 HD2 HT2 HTB2 HNA2 HU2 T2 T_0 T_1 T_2 T_3 T_4 T_5 T_6 T_7 T_8 T_l
  obtain ⟨T_0, T_1, T_2, T_3, T_4, T_5, T_6, T_7, T_8, T_l⟩ := T3.out.c9
  obtain ⟨U_0, U_1, U_2, U_3, U_4, U_5, U_6, U_7, U_8, U_l⟩ := U3.out.c9
  clear ho hv hi6
  go_wp2_with fail
  refine ((by have := free9_any Aw Af Ao Ap As cw cf co cp cs t w3 HSM.out HT3.out; rw [HER.out] at this; exact this : Calls Tryz.prog 34 #[.agg #[.int .i64 t.q.wells, .slice Aw t.q.nw cw, .slice Af t.q.nf cf, .slice Ao t.no co, .slice Ap t.np cp, .slice As t.ns cs, .int .i64 t.far, .int .i64 t.harm, .int .i64 t.many]] w3 fun e w' => NumsOut w' w3.heap.size 0 (t.frees) e ∧ Below w3.heap.size w3 w')).mono ?_
  rintro e w4 ⟨ho, hb⟩
  obtain ⟨v, rfl, hv⟩ := ho.1 rfl
  obtain ⟨A7, c7, rfl, hi6⟩ := hv.lst
  rw [HZ.out] at hi6 ⊢
  have hB4 : Below w3.heap.size w3 w4 := bTrans (Below.refl _ _) hb
  have HD4 := Lib.hid (bTrans HD3.out hB4)
  have HT4 := Lib.hid (HT3.out.mono hB4)
  have HTB4 := Lib.hid (HTB3.out.mono hB4)
  have HNA4 := Lib.hid (HNA3.out.mono hB4)
  have HU4 := Lib.hid (HU3.out.mono hB4)
  have HW4 := Lib.hid (HW3.out.mono hB4)
  have HV4 := Lib.hid (hi6)
  have T4 := Lib.hid (T3.out.mono hB4)
  have U4 := Lib.hid (U3.out.mono hB4)
  clear hb hB4 HD3 HT3 HTB3 HNA3 HU3 HW3 T3 T_0 T_1 T_2 T_3 T_4 T_5 T_6 T_7 T_8 T_l U3 U_0 U_1 U_2 U_3 U_4 U_5 U_6 U_7 U_8 U_l
  obtain ⟨T_0, T_1, T_2, T_3, T_4, T_5, T_6, T_7, T_8, T_l⟩ := T4.out.c9
  obtain ⟨U_0, U_1, U_2, U_3, U_4, U_5, U_6, U_7, U_8, U_l⟩ := U4.out.c9
  clear ho hv hi6
  go_wp2_with fail
  refine ((by have := bestP_any Bw Bf Bo Bp Bs dw df do_ dp ds t w4 HSM.out HU4.out HTB4.out HNA4.out; rw [HX.out.1, HX.out.2] at this; exact this : Calls Tryz.prog 35 #[.agg #[.int .i64 t.q.wells, .slice Bw t.q.nw dw, .slice Bf t.q.nf df, .slice Bo t.no do_, .slice Bp t.np dp, .slice Bs t.ns ds, .int .i64 t.far, .int .i64 t.harm, .int .i64 t.many]] w4 fun e w' => e = .returned (.tuple #[.int .i64 x1, .int .i64 x2]) ∧ Below w4.heap.size w4 w')).mono ?_
  rintro e w5 ⟨rfl, hb⟩
  have hB5 : Below w4.heap.size w4 w5 := bTrans (Below.refl _ _) hb
  have HD5 := Lib.hid (bTrans HD4.out hB5)
  have HT5 := Lib.hid (HT4.out.mono hB5)
  have HTB5 := Lib.hid (HTB4.out.mono hB5)
  have HNA5 := Lib.hid (HNA4.out.mono hB5)
  have HU5 := Lib.hid (HU4.out.mono hB5)
  have HW5 := Lib.hid (HW4.out.mono hB5)
  have HV5 := Lib.hid (HV4.out.mono hB5)
  have T5 := Lib.hid (T4.out.mono hB5)
  have U5 := Lib.hid (U4.out.mono hB5)
  clear hb hB5 HD4 HT4 HTB4 HNA4 HU4 HW4 HV4 T4 T_0 T_1 T_2 T_3 T_4 T_5 T_6 T_7 T_8 T_l U4 U_0 U_1 U_2 U_3 U_4 U_5 U_6 U_7 U_8 U_l
  obtain ⟨T_0, T_1, T_2, T_3, T_4, T_5, T_6, T_7, T_8, T_l⟩ := T5.out.c9
  obtain ⟨U_0, U_1, U_2, U_3, U_4, U_5, U_6, U_7, U_8, U_l⟩ := U5.out.c9
  go_wp2_with fail
  refine ((by have := best9_any Aw Af Ao Ap As cw cf co cp cs t w5 HSM.out HT5.out; rw [HX.out.1, HX.out.2] at this; exact this : Calls Tryz.prog 36 #[.agg #[.int .i64 t.q.wells, .slice Aw t.q.nw cw, .slice Af t.q.nf cf, .slice Ao t.no co, .slice Ap t.np cp, .slice As t.ns cs, .int .i64 t.far, .int .i64 t.harm, .int .i64 t.many]] w5 fun e w' => e = .returned (.tuple #[.int .i64 x1, .int .i64 x2]) ∧ Below w5.heap.size w5 w')).mono ?_
  rintro e w6 ⟨rfl, hb⟩
  have hB6 : Below w5.heap.size w5 w6 := bTrans (Below.refl _ _) hb
  have HD6 := Lib.hid (bTrans HD5.out hB6)
  have HT6 := Lib.hid (HT5.out.mono hB6)
  have HTB6 := Lib.hid (HTB5.out.mono hB6)
  have HNA6 := Lib.hid (HNA5.out.mono hB6)
  have HU6 := Lib.hid (HU5.out.mono hB6)
  have HW6 := Lib.hid (HW5.out.mono hB6)
  have HV6 := Lib.hid (HV5.out.mono hB6)
  have T6 := Lib.hid (T5.out.mono hB6)
  have U6 := Lib.hid (U5.out.mono hB6)
  clear hb hB6 HD5 HT5 HTB5 HNA5 HU5 HW5 HV5 T5 T_0 T_1 T_2 T_3 T_4 T_5 T_6 T_7 T_8 T_l U5 U_0 U_1 U_2 U_3 U_4 U_5 U_6 U_7 U_8 U_l
  obtain ⟨T_0, T_1, T_2, T_3, T_4, T_5, T_6, T_7, T_8, T_l⟩ := T6.out.c9
  obtain ⟨U_0, U_1, U_2, U_3, U_4, U_5, U_6, U_7, U_8, U_l⟩ := U6.out.c9
  go_wp2_with fail
  refine ((by have := loosenP_any Bw Bf Bo Bp Bs dw df do_ dp ds t w6 HSM.out HU6.out HTB6.out HNA6.out; rw [HY.out.1, HY.out.2] at this; exact this : Calls Tryz.prog 37 #[.agg #[.int .i64 t.q.wells, .slice Bw t.q.nw dw, .slice Bf t.q.nf df, .slice Bo t.no do_, .slice Bp t.np dp, .slice Bs t.ns ds, .int .i64 t.far, .int .i64 t.harm, .int .i64 t.many]] w6 fun e w' => e = .returned (.tuple #[.int .i64 y1, .int .i64 y2]) ∧ Below w6.heap.size w6 w')).mono ?_
  rintro e w7 ⟨rfl, hb⟩
  have hB7 : Below w6.heap.size w6 w7 := bTrans (Below.refl _ _) hb
  have HD7 := Lib.hid (bTrans HD6.out hB7)
  have HT7 := Lib.hid (HT6.out.mono hB7)
  have HTB7 := Lib.hid (HTB6.out.mono hB7)
  have HNA7 := Lib.hid (HNA6.out.mono hB7)
  have HU7 := Lib.hid (HU6.out.mono hB7)
  have HW7 := Lib.hid (HW6.out.mono hB7)
  have HV7 := Lib.hid (HV6.out.mono hB7)
  have T7 := Lib.hid (T6.out.mono hB7)
  have U7 := Lib.hid (U6.out.mono hB7)
  clear hb hB7 HD6 HT6 HTB6 HNA6 HU6 HW6 HV6 T6 T_0 T_1 T_2 T_3 T_4 T_5 T_6 T_7 T_8 T_l U6 U_0 U_1 U_2 U_3 U_4 U_5 U_6 U_7 U_8 U_l
  obtain ⟨T_0, T_1, T_2, T_3, T_4, T_5, T_6, T_7, T_8, T_l⟩ := T7.out.c9
  obtain ⟨U_0, U_1, U_2, U_3, U_4, U_5, U_6, U_7, U_8, U_l⟩ := U7.out.c9
  go_wp2_with fail
  refine ((by have := loosen9_any Aw Af Ao Ap As cw cf co cp cs t w7 HFI.out HT7.out; rw [HY.out.1, HY.out.2] at this; exact this : Calls Tryz.prog 38 #[.agg #[.int .i64 t.q.wells, .slice Aw t.q.nw cw, .slice Af t.q.nf cf, .slice Ao t.no co, .slice Ap t.np cp, .slice As t.ns cs, .int .i64 t.far, .int .i64 t.harm, .int .i64 t.many]] w7 fun e w' => e = .returned (.tuple #[.int .i64 y1, .int .i64 y2]) ∧ Below w7.heap.size w7 w')).mono ?_
  rintro e w8 ⟨rfl, hb⟩
  have hB8 : Below w7.heap.size w7 w8 := bTrans (Below.refl _ _) hb
  have HD8 := Lib.hid (bTrans HD7.out hB8)
  have HT8 := Lib.hid (HT7.out.mono hB8)
  have HTB8 := Lib.hid (HTB7.out.mono hB8)
  have HNA8 := Lib.hid (HNA7.out.mono hB8)
  have HU8 := Lib.hid (HU7.out.mono hB8)
  have HW8 := Lib.hid (HW7.out.mono hB8)
  have HV8 := Lib.hid (HV7.out.mono hB8)
  have T8 := Lib.hid (T7.out.mono hB8)
  have U8 := Lib.hid (U7.out.mono hB8)
  clear hb hB8 HD7 HT7 HTB7 HNA7 HU7 HW7 HV7 T7 T_0 T_1 T_2 T_3 T_4 T_5 T_6 T_7 T_8 T_l U7 U_0 U_1 U_2 U_3 U_4 U_5 U_6 U_7 U_8 U_l
  obtain ⟨T_0, T_1, T_2, T_3, T_4, T_5, T_6, T_7, T_8, T_l⟩ := T8.out.c9
  obtain ⟨U_0, U_1, U_2, U_3, U_4, U_5, U_6, U_7, U_8, U_l⟩ := U8.out.c9
  go_wp2_with fail
  refine (sameInts_t A6 A7 z c6 c7 _ _ HZL.out HW8.out HV8.out).mono ?_
  rintro e w9 ⟨rfl, hb⟩
  have hB9 : Below w8.heap.size w8 w9 := bTrans (Below.refl _ _) hb
  have HD9 := Lib.hid (bTrans HD8.out hB9)
  have HT9 := Lib.hid (HT8.out.mono hB9)
  have HTB9 := Lib.hid (HTB8.out.mono hB9)
  have HNA9 := Lib.hid (HNA8.out.mono hB9)
  have HU9 := Lib.hid (HU8.out.mono hB9)
  have HW9 := Lib.hid (HW8.out.mono hB9)
  have HV9 := Lib.hid (HV8.out.mono hB9)
  have T9 := Lib.hid (T8.out.mono hB9)
  have U9 := Lib.hid (U8.out.mono hB9)
  clear hb hB9 HD8 HT8 HTB8 HNA8 HU8 HW8 HV8 T8 T_0 T_1 T_2 T_3 T_4 T_5 T_6 T_7 T_8 T_l U8 U_0 U_1 U_2 U_3 U_4 U_5 U_6 U_7 U_8 U_l
  obtain ⟨T_0, T_1, T_2, T_3, T_4, T_5, T_6, T_7, T_8, T_l⟩ := T9.out.c9
  obtain ⟨U_0, U_1, U_2, U_3, U_4, U_5, U_6, U_7, U_8, U_l⟩ := U9.out.c9
  go_wp2_with fail
  refine (same9_any Bw Bf Bo Bp Bs dw df do_ dp ds t Aw Af Ao Ap As cw cf co cp cs _ HSM.out HU9.out HT9.out).mono ?_
  rintro e w10 ⟨rfl, hb⟩
  have hB10 : Below w9.heap.size w9 w10 := bTrans (Below.refl _ _) hb
  have HD10 := Lib.hid (bTrans HD9.out hB10)
  have HT10 := Lib.hid (HT9.out.mono hB10)
  have HTB10 := Lib.hid (HTB9.out.mono hB10)
  have HNA10 := Lib.hid (HNA9.out.mono hB10)
  have HU10 := Lib.hid (HU9.out.mono hB10)
  have HW10 := Lib.hid (HW9.out.mono hB10)
  have HV10 := Lib.hid (HV9.out.mono hB10)
  have T10 := Lib.hid (T9.out.mono hB10)
  have U10 := Lib.hid (U9.out.mono hB10)
  clear hb hB10 HD9 HT9 HTB9 HNA9 HU9 HW9 HV9 T9 T_0 T_1 T_2 T_3 T_4 T_5 T_6 T_7 T_8 T_l U9 U_0 U_1 U_2 U_3 U_4 U_5 U_6 U_7 U_8 U_l
  obtain ⟨T_0, T_1, T_2, T_3, T_4, T_5, T_6, T_7, T_8, T_l⟩ := T10.out.c9
  obtain ⟨U_0, U_1, U_2, U_3, U_4, U_5, U_6, U_7, U_8, U_l⟩ := U10.out.c9
  go_wp2_with fail
  refine (works9_any _ HTB10.out HNA10.out).mono ?_
  rintro e w11 ⟨rfl, hb⟩
  have hB11 : Below w10.heap.size w10 w11 := bTrans (Below.refl _ _) hb
  have HD11 := Lib.hid (bTrans HD10.out hB11)
  have HT11 := Lib.hid (HT10.out.mono hB11)
  have HTB11 := Lib.hid (HTB10.out.mono hB11)
  have HNA11 := Lib.hid (HNA10.out.mono hB11)
  have HU11 := Lib.hid (HU10.out.mono hB11)
  have HW11 := Lib.hid (HW10.out.mono hB11)
  have HV11 := Lib.hid (HV10.out.mono hB11)
  have T11 := Lib.hid (T10.out.mono hB11)
  have U11 := Lib.hid (U10.out.mono hB11)
  clear hb hB11 HD10 HT10 HTB10 HNA10 HU10 HW10 HV10 T10 T_0 T_1 T_2 T_3 T_4 T_5 T_6 T_7 T_8 T_l U10 U_0 U_1 U_2 U_3 U_4 U_5 U_6 U_7 U_8 U_l
  obtain ⟨T_0, T_1, T_2, T_3, T_4, T_5, T_6, T_7, T_8, T_l⟩ := T11.out.c9
  obtain ⟨U_0, U_1, U_2, U_3, U_4, U_5, U_6, U_7, U_8, U_l⟩ := U11.out.c9
  go_wp2_with fail
  go_ret
  exact ⟨rfl, HD11.out⟩
end Go.Proofs.YtjpfdhhiofjpbaaGreatDoor

