/- Parts joined: what the claim PlacesWhole needs beyond the others. -/
import Derived.Test.YtjpfdhhiofjpbaaGreatDoorNQPlacesWholeB
set_option linter.unusedSimpArgs false
set_option linter.unusedVariables false
namespace Go.Proofs.YtjpfdhhiofjpbaaGreatDoor
open Go.RowKit Go.Sort
theorem wholeV_can {t : Pt} {s : Nat} (h : t.canB s = true) : t.wholeV s = t.whole s := if_pos h
theorem wholeV_not {t : Pt} {s : Nat} (h : t.canB s = false) : t.wholeV s = -1 := if_neg (by rw [h]; decide)
def oN : Option Nat → Int
  | none => -1
  | some b => b
theorem minBy_lt {f : Nat → Int} {p : Nat → Bool} {n b : Nat} (h : minBy f p n = some b) : b < n ∧ p b = true := by
  rcases minBy_spec f p n with ⟨h1, _⟩ | ⟨c, h1, h2, h3, _⟩
  · rw [h1] at h; cases h
  · rw [h1] at h; obtain rfl := Option.some.inj h; exact ⟨h2, h3⟩
theorem minBy_no {f : Nat → Int} {p : Nat → Bool} {n : Nat} (h : p n = false) : minBy f p (n + 1) = minBy f p n := by
  conv => lhs; unfold minBy
  rw [h]
  rfl
theorem minBy_new {f : Nat → Int} {p : Nat → Bool} {n : Nat} (h : p n = true) (hn : minBy f p n = none) : minBy f p (n + 1) = some n := by
  conv => lhs; unfold minBy
  rw [h, hn]
  rfl
theorem minBy_more {f : Nat → Int} {p : Nat → Bool} {n b : Nat} (h : p n = true) (hn : minBy f p n = some b) : minBy f p (n + 1) = if f n < f b then some n else some b := by
  conv => lhs; unfold minBy
  rw [h, hn]
  simp only [Bool.true_and, decide_eq_true_eq]
theorem pairIn_low {t : Pt} {a : Nat} {x : Pr} : ∀ b, b ≤ a + 1 → t.pairIn a b x = x
  | 0, _ => rfl
  | b + 1, h => by
    unfold Pt.pairIn
    rw [if_neg, pairIn_low b (by omega)]
    unfold Pt.mayB
    simp
    omega
set_option maxHeartbeats 4000000 in
set_option maxRecDepth 100000 in
theorem wholeOf9_any (Aw Af Ao Ap As : Option Addr) (cw cf co cp cs : Nat) (t : Pt) (Al : Option Addr) (cl i : Nat) (w : World) (ok : t.Ok) (hT : PAt w Aw Af Ao Ap As t) (hsm : t.Small) (hL : IntsAt w Al t.q.leftL.length (intL0 t.q.leftL)) (hi : i < t.ns) :
    Calls Tryz.prog 108 #[.agg #[.int .i64 t.q.wells, .slice Aw t.q.nw cw, .slice Af t.q.nf cf, .slice Ao t.no co, .slice Ap t.np cp, .slice As t.ns cs, .int .i64 t.far, .int .i64 t.harm, .int .i64 t.many], .slice Al t.q.leftL.length cl, .int .i64 (i : Int)] w fun e w' => e = .returned (.int .i64 (t.wholeV i)) ∧ Below w.heap.size w w' := by
  have hl6 := left_len ok.q
  have hns5 := ok.ns
  obtain ⟨n, hn⟩ : ∃ n, t.q.leftL.length = n := ⟨_, rfl⟩
  have HN := Lib.hid hn
  have hL := (hn ▸ hL : IntsAt w Al n (intL0 t.q.leftL))
  rw [hn] at hl6
  rw [hn]
  clear hn
  have HD0 := Lib.hid (Below.refl w.heap.size w)
  have HOK := Lib.hid ok
  have HT0 := Lib.hid hT
  have HL0 := Lib.hid hL
  have HSM := Lib.hid hsm
  have HI := Lib.hid hi
  clear ok hT hL hsm hi
  go_enter Tryz.func108, Tryz.ntmps108
  go_wp2_with fail
  refine (priceOf9_any Aw Af Ao Ap As cw cf co cp cs t i _ HSM.out (HT0.out.mono (bAlloc (Below.refl _ _) (.cells #[.int .i64 t.q.wells, .slice Aw t.q.nw cw, .slice Af t.q.nf cf, .slice Ao t.no co, .slice Ap t.np cp, .slice As t.ns cs, .int .i64 t.far, .int .i64 t.harm, .int .i64 t.many] 29))) HI.out).mono ?_
  rintro e w1 ⟨rfl, hb⟩
  have hB1 : Below w.heap.size w w1 := bTrans (bAlloc (Below.refl _ _) (.cells #[.int .i64 t.q.wells, .slice Aw t.q.nw cw, .slice Af t.q.nf cf, .slice Ao t.no co, .slice Ap t.np cp, .slice As t.ns cs, .int .i64 t.far, .int .i64 t.harm, .int .i64 t.many] 29)) hb
  have HD1 := Lib.hid (bTrans HD0.out hB1)
  have HT1 := Lib.hid (HT0.out.mono hB1)
  have HL1 := Lib.hid (HL0.out.mono hB1)
  have T1 := Lib.hid (show TBox w1 w.heap.size 29 #[.int .i64 t.q.wells, .slice Aw t.q.nw cw, .slice Af t.q.nf cf, .slice Ao t.no co, .slice Ap t.np cp, .slice As t.ns cs, .int .i64 t.far, .int .i64 t.harm, .int .i64 t.many] from by have := ((TBox.new w #[.int .i64 t.q.wells, .slice Aw t.q.nw cw, .slice Af t.q.nf cf, .slice Ao t.no co, .slice Ap t.np cp, .slice As t.ns cs, .int .i64 t.far, .int .i64 t.harm, .int .i64 t.many] 29).mono (Below.refl _ _)).mono hb; simpa using this)
  clear hb hB1 HD0 HT0 HL0
  obtain ⟨T_0, T_1, T_2, T_3, T_4, T_5, T_6, T_7, T_8, T_l⟩ := T1.out.c9
  cases hc : t.canB i
  case false =>
    rw [priceV_not hc]
    have HR := Lib.hid (wholeV_not hc)
    have e1 : decide ((-1 : Int) ≥ 0) = false := by decide
    have e2 : decide ((0 : Int) ≤ -1) = false := by decide
    clear hc
    go_wp2_with fail
    refine (HN.out ▸ whoOf9_any Aw Af Ao Ap As cw cf co cp cs t Al cl i _ HOK.out HT1.out (HN.out.symm ▸ HL1.out) HI.out).mono ?_
    rintro e w2 ⟨⟨v, rfl, hv⟩, hb⟩
    obtain ⟨A6, c6, rfl, hrow⟩ := hv.nums
    obtain ⟨z, hz⟩ : ∃ z, (t.who i).length = z := ⟨_, rfl⟩
    rw [hz]
    have HZ := Lib.hid hz
    have hB2 : Below w1.heap.size w1 w2 := bTrans (Below.refl _ _) hb
    have HD2 := Lib.hid (bTrans HD1.out hB2)
    have HT2 := Lib.hid (HT1.out.mono hB2)
    have HL2 := Lib.hid (HL1.out.mono hB2)
    have HW2 := Lib.hid (hrow)
    have T2 := Lib.hid (T1.out.mono hB2)
    clear hb hB2 HD1 HT1 HL1 T1 T_0 T_1 T_2 T_3 T_4 T_5 T_6 T_7 T_8 T_l
    obtain ⟨T_0, T_1, T_2, T_3, T_4, T_5, T_6, T_7, T_8, T_l⟩ := T2.out.c9
    clear hv hrow hz
    go_wp2_with fail
    clear T_0 T_1 T_2 T_3 T_4 T_5 T_6 T_7 T_8 T_l
    go_loopw [7, 9] (fun s7 s9 wr => ∃ k : Nat, k ≤ z ∧ s7 = .int .i64 (-1) ∧ s9 = .int .i64 (k : Int) ∧ Below w2.heap.size w2 wr) (fun _ s9 _ => z - (intOf s9).toNat)
    case atStart => exact ⟨0, Nat.zero_le _, rfl, rfl, Below.refl _ _⟩
    case round =>
      obtain ⟨k, hk_k, rfl, rfl, hb⟩ := hrel
      have HBk := Lib.hid hb
      have hB3 : Below w2.heap.size w2 wr := bTrans (Below.refl _ _) hb
      have HD3 := Lib.hid (bTrans HD2.out hB3)
      have HT3 := Lib.hid (HT2.out.mono hB3)
      have HL3 := Lib.hid (HL2.out.mono hB3)
      have HW3 := Lib.hid (HW2.out.mono hB3)
      have HU_k3 := Lib.hid ((show Upto w2 wr from HBk.out))
      have T3 := Lib.hid (T2.out.mono hB3)
      clear hb hB3
      obtain ⟨T_0, T_1, T_2, T_3, T_4, T_5, T_6, T_7, T_8, T_l⟩ := T3.out.c9
      by_cases hlt_k : k < z
      case pos =>
        have h1_k : (k : Int) < (z : Int) := by omega
        have h0_k : (0 : Int) ≤ (k : Int) := by omega
        go_wp2_with fail
        go_ret
        exact ⟨by rw [HR.out] <;> rfl, HD3.out⟩
      have he_k : k = z := by omega
      have hk9 : ¬ (k : Int) < (z : Int) := by omega
      have hk8 : ¬ k < z := by omega
      clear he_k
      go_wp2_with fail
      go_ret
      exact ⟨by rw [HR.out] <;> rfl, HD3.out⟩
  rw [priceV_can hc]
  have HC := Lib.hid hc
  have hbd := cheap_bd HOK.out HI.out
  obtain ⟨y, hy⟩ : ∃ y, (t.cheap i).1 = y := ⟨_, rfl⟩
  rw [hy] at hbd ⊢
  obtain ⟨f, hf⟩ : ∃ f : Nat → Int, f = fun k => y + askedL t.pence ((t.who i).take k) := ⟨_, rfl⟩
  have HF := Lib.hid (show ∀ k, f k = y + askedL t.pence ((t.who i).take k) from fun k => by rw [hf])
  have HF0 := Lib.hid (show y = f 0 by rw [hf]; simp [askedL])
  have HPE := Lib.hid (show ∀ x ∈ t.who i, ∃ j : Nat, x = (j : Int) ∧ j < t.np ∧ 0 ≤ t.pence j ∧ t.pence j ≤ 99 from fun x hx => by
    obtain ⟨j, h1, _, h3⟩ := selTo_mem.1 (show x ∈ selTo (t.whoB i) t.m from hx)
    rw [Pt.m_np HOK.out] at h1
    exact ⟨j, h3, h1, HOK.out.pence j h1⟩)
  have HFB := Lib.hid (show ∀ k, 0 ≤ f k ∧ f k ≤ 9000 from fun k => by
    have h1 := askedL_bd (f := t.pence) (L := (t.who i).take k) (fun x hx => by
      obtain ⟨j, rfl, _, h3⟩ := HPE.out x ((List.take_sublist _ _).subset hx)
      exact h3)
    have h2 : ((t.who i).take k).length ≤ 4 := by
      have h3 := List.length_take_le' k (t.who i)
      have h4 := selTo_len (t.whoB i) t.m
      have h5 := HOK.out.q.w1
      unfold Pt.who at h3
      unfold Pt.m at h3 h4
      unfold Pt.who Pt.m
      omega
    rw [hf]
    show 0 ≤ y + askedL t.pence ((t.who i).take k) ∧ y + askedL t.pence ((t.who i).take k) ≤ 9000
    omega)
  have HRR := Lib.hid (show ∀ k, (t.who i).length ≤ k → t.wholeV i = f k from fun k hk => by
    rw [wholeV_can hc, hf]
    show t.whole i = y + askedL t.pence ((t.who i).take k)
    rw [List.take_of_length_le hk]
    unfold Pt.whole Pt.askedTo Pt.who
    rw [askedL_sel, hy])
  clear hbd hy hf hc
  go_wp2_with fail
  refine (HN.out ▸ whoOf9_any Aw Af Ao Ap As cw cf co cp cs t Al cl i _ HOK.out HT1.out (HN.out.symm ▸ HL1.out) HI.out).mono ?_
  rintro e w2 ⟨⟨v, rfl, hv⟩, hb⟩
  obtain ⟨A6, c6, rfl, hrow⟩ := hv.nums
  obtain ⟨z, hz⟩ : ∃ z, (t.who i).length = z := ⟨_, rfl⟩
  rw [hz]
  have HZ := Lib.hid hz
  have hB2 : Below w1.heap.size w1 w2 := bTrans (Below.refl _ _) hb
  have HD2 := Lib.hid (bTrans HD1.out hB2)
  have HT2 := Lib.hid (HT1.out.mono hB2)
  have HL2 := Lib.hid (HL1.out.mono hB2)
  have HW2 := Lib.hid (hrow)
  have T2 := Lib.hid (T1.out.mono hB2)
  clear hb hB2 HD1 HT1 HL1 T1 T_0 T_1 T_2 T_3 T_4 T_5 T_6 T_7 T_8 T_l
  obtain ⟨T_0, T_1, T_2, T_3, T_4, T_5, T_6, T_7, T_8, T_l⟩ := T2.out.c9
  clear hv hrow hz
  go_wp2_with fail
  have hz4 : z ≤ 4 := by have h4 := selTo_len (t.whoB i) t.m; have h5 := HOK.out.q.w1; have h6 := HZ.out; unfold Pt.who at h6; unfold Pt.m at h4 h6; omega
  clear T_0 T_1 T_2 T_3 T_4 T_5 T_6 T_7 T_8 T_l
  go_loopw [7, 9] (fun s7 s9 wr => ∃ k : Nat, k ≤ z ∧ s7 = .int .i64 (f k) ∧ s9 = .int .i64 (k : Int) ∧ Below w2.heap.size w2 wr) (fun _ s9 _ => z - (intOf s9).toNat)
  case atStart => exact ⟨0, Nat.zero_le _, by rw [← HF0.out], rfl, Below.refl _ _⟩
  case round =>
    obtain ⟨k, hk_k, rfl, rfl, hb⟩ := hrel
    have HBk := Lib.hid hb
    have hB3 : Below w2.heap.size w2 wr := bTrans (Below.refl _ _) hb
    have HD3 := Lib.hid (bTrans HD2.out hB3)
    have HT3 := Lib.hid (HT2.out.mono hB3)
    have HL3 := Lib.hid (HL2.out.mono hB3)
    have HW3 := Lib.hid (HW2.out.mono hB3)
    have HU_k3 := Lib.hid ((show Upto w2 wr from HBk.out))
    have T3 := Lib.hid (T2.out.mono hB3)
    clear hb hB3
    obtain ⟨T_0, T_1, T_2, T_3, T_4, T_5, T_6, T_7, T_8, T_l⟩ := T3.out.c9
    obtain ⟨m, hm⟩ : ∃ m, f k = m := ⟨_, rfl⟩
    have hmb := HFB.out k
    rw [hm] at hmb ⊢
    have HM := Lib.hid hm
    have hm0 := hmb.1
    have hm1 : decide (m ≥ 0) = true := by simpa using hm0
    clear hm
    by_cases hlt_k : k < z
    case pos =>
      have h1_k : (k : Int) < (z : Int) := by omega
      have h0_k : (0 : Int) ≤ (k : Int) := by omega
      obtain ⟨x, hx⟩ : ∃ x, (t.who i)[k]? = some x := ⟨_, List.getElem?_eq_getElem (by rw [HZ.out]; exact hlt_k)⟩
      obtain ⟨b6, o6, hA, hbl, c0⟩ := HW3.out.num hx
      obtain ⟨j, rfl, hj, hp0, hp1⟩ := HPE.out x (List.mem_of_getElem? hx)
      have hj1 : (j : Int) < (t.np : Int) := by omega
      have hj0 : (0 : Int) ≤ (j : Int) := by omega
      obtain ⟨bp, op, hP, hbp, cp0⟩ := HT3.out.pence.get hj
      obtain ⟨p, hp⟩ : ∃ p, t.pence j = p := ⟨_, rfl⟩
      rw [hp] at cp0 hp0 hp1
      have hwr : IntKind.i64.wrap (m + p) = m + p := IntWalk.i64_in _ (by omega)
      have HNX := Lib.hid (show f (k + 1) = m + p by
        have h1 := HM.out
        rw [HF.out] at h1 ⊢
        rw [List.take_add_one, hx]
        show y + askedL t.pence ((t.who i).take k ++ [(j : Int)]) = m + p
        rw [askedL_snoc, Int.toNat_natCast, hp]
        omega)
      subst hA hP
      clear hx hj hp0 hp1 hp hmb
      go_wp2_with fail
      refine wp_region_quiet_below (by kernel_rfl) (by kernel_rfl) ?_
      repeat (go_big_quiet_step ((fail)))
      refine wpQuiet_nil ?_
      intro w4 hw9
      have hb := below_of_regrown hw9
      clear hw9
      clear c0 cp0 hbl hbp hwr
      have hB4 : Below wr.heap.size wr w4 := bTrans (Below.refl _ _) hb
      have HD4 := Lib.hid (bTrans HD3.out hB4)
      have HT4 := Lib.hid (HT3.out.mono hB4)
      have HL4 := Lib.hid (HL3.out.mono hB4)
      have HW4 := Lib.hid (HW3.out.mono hB4)
      have HU_k4 := Lib.hid (HU_k3.out.mono hB4)
      have T4 := Lib.hid (T3.out.mono hB4)
      clear hb hB4 HD3 HT3 HL3 HW3 HU_k3 T3 T_0 T_1 T_2 T_3 T_4 T_5 T_6 T_7 T_8 T_l
      obtain ⟨T_0, T_1, T_2, T_3, T_4, T_5, T_6, T_7, T_8, T_l⟩ := T4.out.c9
      go_wp2_with fail
      go_roundw
      case rel =>
        first
        | exact ⟨k + 1, by omega, by rw [HNX.out], by go_num, HU_k4.out⟩
        | ((repeat apply Exists.intro)
           refine ⟨⟨k + 1, by omega, by rw [HNX.out], ?_, HU_k4.out⟩, rfl⟩
           go_num)
      case measure => simp [intOf]; omega
    have he_k : k = z := by omega
    have HR := Lib.hid (show t.wholeV i = m by rw [HRR.out k (by rw [HZ.out]; omega)]; exact HM.out)
    have hk9 : ¬ (k : Int) < (z : Int) := by omega
    have hk8 : ¬ k < z := by omega
    clear he_k hmb
    go_wp2_with fail
    go_ret
    exact ⟨by rw [HR.out] <;> rfl, HD3.out⟩
set_option maxHeartbeats 4000000 in
set_option maxRecDepth 100000 in
theorem whole9_any (Aw Af Ao Ap As : Option Addr) (cw cf co cp cs : Nat) (t : Pt) (n : Int) (w : World) (hs : t.Small) (hT : PAt w Aw Af Ao Ap As t) :
    Calls Tryz.prog 50 #[.agg #[.int .i64 t.q.wells, .slice Aw t.q.nw cw, .slice Af t.q.nf cf, .slice Ao t.no co, .slice Ap t.np cp, .slice As t.ns cs, .int .i64 t.far, .int .i64 t.harm, .int .i64 t.many], .int .i64 n] w fun e w' => e = .returned (.tuple #[.int .i64 (t.wholeOut n).1, .int .i64 (t.wholeOut n).2]) ∧ Below w.heap.size w w' := by
  obtain ⟨bb, hbb⟩ : ∃ b, t.hasB n = b := ⟨_, rfl⟩
  obtain ⟨er, her⟩ : ∃ v, t.knowErr bb = v := ⟨_, rfl⟩
  have HC1 := Lib.hid (fun w => hbb ▸ isSpotN9_any Aw Af Ao Ap As cw cf co cp cs t n w hs.ns : ∀ w : World, Calls Tryz.prog 40 #[.agg #[.int .i64 t.q.wells, .slice Aw t.q.nw cw, .slice Af t.q.nf cf, .slice Ao t.no co, .slice Ap t.np cp, .slice As t.ns cs, .int .i64 t.far, .int .i64 t.harm, .int .i64 t.many], .int .i64 n] w fun e w' => e = .returned (.bool bb) ∧ Below w.heap.size w w')
  have HE := Lib.hid (show t.wholeOut n = if er = 0 then (if t.canB n.toNat then (t.whole n.toNat, 0) else (0, 3)) else (0, er) by unfold Pt.wholeOut; rw [hbb, her])
  have HER := Lib.hid her
  have HBB := Lib.hid hbb
  clear hbb her
  have HD0 := Lib.hid (Below.refl w.heap.size w)
  have HSM := Lib.hid hs
  have HT0 := Lib.hid hT
  clear hs hT
  go_enter Tryz.func50, Tryz.ntmps50
  by_cases he : er = 0
  case neg =>
    have g0 : (er != 0) = true := by simp [he]
    have HNZ := Lib.hid he
    rw [HE.out, if_neg he]
    clear he
    go_wp2_with fail
    have HCO := Lib.hid (fun (w' : World) (hb : Below (w.alloc (.cells #[.int .i64 t.q.wells, .slice Aw t.q.nw cw, .slice Af t.q.nf cf, .slice Ao t.no co, .slice Ap t.np cp, .slice As t.ns cs, .int .i64 t.far, .int .i64 t.harm, .int .i64 t.many] 29)).heap.size (w.alloc (.cells #[.int .i64 t.q.wells, .slice Aw t.q.nw cw, .slice Af t.q.nf cf, .slice Ao t.no co, .slice Ap t.np cp, .slice As t.ns cs, .int .i64 t.far, .int .i64 t.harm, .int .i64 t.many] 29)) w') => ((known9_any Aw Af Ao Ap As cw cf co cp cs t bb w' HSM.out ((HT0.out.mono (bAlloc (Below.refl _ _) (.cells #[.int .i64 t.q.wells, .slice Aw t.q.nw cw, .slice Af t.q.nf cf, .slice Ao t.no co, .slice Ap t.np cp, .slice As t.ns cs, .int .i64 t.far, .int .i64 t.harm, .int .i64 t.many] 29))).mono hb)).mono fun e w'' h => ⟨HER.out ▸ h.1, h.2⟩ : Calls Tryz.prog 97 #[.agg #[.int .i64 t.q.wells, .slice Aw t.q.nw cw, .slice Af t.q.nf cf, .slice Ao t.no co, .slice Ap t.np cp, .slice As t.ns cs, .int .i64 t.far, .int .i64 t.harm, .int .i64 t.many], .bool bb] w' fun e w'' => Kn9 w'' t er e ∧ Below w'.heap.size w' w''))
    refine wp_region_call 4 (fun v w2 => Kn9 w2 t er (.returned v) ∧ Below (w.alloc (.cells #[.int .i64 t.q.wells, .slice Aw t.q.nw cw, .slice Af t.q.nf cf, .slice Ao t.no co, .slice Ap t.np cp, .slice As t.ns cs, .int .i64 t.far, .int .i64 t.harm, .int .i64 t.many] 29)).heap.size (w.alloc (.cells #[.int .i64 t.q.wells, .slice Aw t.q.nw cw, .slice Af t.q.nf cf, .slice Ao t.no co, .slice Ap t.np cp, .slice As t.ns cs, .int .i64 t.far, .int .i64 t.harm, .int .i64 t.many] 29)) w2) (by kernel_rfl) (by decide +kernel) rfl ?_
    apply Exists.intro
    refine ⟨fun K hK => ?_, ?_, fun w1 hb1 K Q' hK => ?_, ?_⟩
    · skip
      repeat (first | (refine wpCalm_skip rfl ?_) | (refine wpCalm_step rfl (fun K hK => ?_); go_simp; (first | (refine hK _ ?_; clear hK K) | (apply Exists.intro; refine ⟨fun _ => ?_, hK _ ?_⟩; ((go_at_call 40; with_reducible exact newer_of (HC1.out _))); clear hK K))))
      refine wpCalm_nil ?_
      exact hK
    · rfl
    · go_simp
      refine (HCO.out w1 hb1).mono ?_
      rintro e w2 ⟨ho, hb2⟩
      obtain ⟨v, rfl⟩ := Kn9.ret ho
      exact hK v w2 ⟨ho, bTrans hb1 hb2⟩
    clear HCO
    rintro v w2 ⟨ho, hb2⟩
    obtain rfl := Ending.returned.inj (ho.1 HNZ.out)
    clear ho
    apply Exists.intro
    refine ⟨fun K hK => ?_, fun w1 hb3 => ?_⟩
    · skip
      repeat (first | (refine wpCalm_skip rfl ?_) | (refine wpCalm_step rfl (fun K hK => ?_); go_simp; (first | (refine hK _ ?_; clear hK K) | (apply Exists.intro; refine ⟨fun _ => ?_, hK _ ?_⟩; (fail); clear hK K))))
      refine wpCalm_nil ?_
      exact hK
    have hb := bTrans hb2 hb3
    clear hb2 hb3
    have hB1 : Below w.heap.size w w1 := bTrans (bAlloc (Below.refl _ _) (.cells #[.int .i64 t.q.wells, .slice Aw t.q.nw cw, .slice Af t.q.nf cf, .slice Ao t.no co, .slice Ap t.np cp, .slice As t.ns cs, .int .i64 t.far, .int .i64 t.harm, .int .i64 t.many] 29)) hb
    have HD1 := Lib.hid (bTrans HD0.out hB1)
    have HT1 := Lib.hid (HT0.out.mono hB1)
    have T1 := Lib.hid (show TBox w1 w.heap.size 29 #[.int .i64 t.q.wells, .slice Aw t.q.nw cw, .slice Af t.q.nf cf, .slice Ao t.no co, .slice Ap t.np cp, .slice As t.ns cs, .int .i64 t.far, .int .i64 t.harm, .int .i64 t.many] from by have := ((TBox.new w #[.int .i64 t.q.wells, .slice Aw t.q.nw cw, .slice Af t.q.nf cf, .slice Ao t.no co, .slice Ap t.np cp, .slice As t.ns cs, .int .i64 t.far, .int .i64 t.harm, .int .i64 t.many] 29).mono (Below.refl _ _)).mono hb; simpa using this)
    clear hb hB1 HD0 HT0
    obtain ⟨T_0, T_1, T_2, T_3, T_4, T_5, T_6, T_7, T_8, T_l⟩ := T1.out.c9
    go_wp2_with fail
    go_ret2
    exact ⟨rfl, HD1.out⟩
  subst he
  have HEZ := Lib.hid (HE.out.trans (if_pos rfl))
  obtain ⟨ok, rfl, hne⟩ := Pt.knowErr_zero HER.out
  have HOK := Lib.hid ok
  have hn := hasB_iff.1 HBB.out
  obtain ⟨i, rfl⟩ : ∃ i : Nat, n = (i : Int) := ⟨n.toNat, by omega⟩
  have HI := Lib.hid (show i < t.ns by omega)
  clear ok hn hne
  go_wp2_with fail
  have HCO := Lib.hid (fun (w' : World) (hb : Below (w.alloc (.cells #[.int .i64 t.q.wells, .slice Aw t.q.nw cw, .slice Af t.q.nf cf, .slice Ao t.no co, .slice Ap t.np cp, .slice As t.ns cs, .int .i64 t.far, .int .i64 t.harm, .int .i64 t.many] 29)).heap.size (w.alloc (.cells #[.int .i64 t.q.wells, .slice Aw t.q.nw cw, .slice Af t.q.nf cf, .slice Ao t.no co, .slice Ap t.np cp, .slice As t.ns cs, .int .i64 t.far, .int .i64 t.harm, .int .i64 t.many] 29)) w') => ((known9_any Aw Af Ao Ap As cw cf co cp cs t true w' HSM.out ((HT0.out.mono (bAlloc (Below.refl _ _) (.cells #[.int .i64 t.q.wells, .slice Aw t.q.nw cw, .slice Af t.q.nf cf, .slice Ao t.no co, .slice Ap t.np cp, .slice As t.ns cs, .int .i64 t.far, .int .i64 t.harm, .int .i64 t.many] 29))).mono hb)).mono fun e w'' h => ⟨HER.out ▸ h.1, h.2⟩ : Calls Tryz.prog 97 #[.agg #[.int .i64 t.q.wells, .slice Aw t.q.nw cw, .slice Af t.q.nf cf, .slice Ao t.no co, .slice Ap t.np cp, .slice As t.ns cs, .int .i64 t.far, .int .i64 t.harm, .int .i64 t.many], .bool true] w' fun e w'' => Kn9 w'' t 0 e ∧ Below w'.heap.size w' w''))
  refine wp_region_call 4 (fun v w2 => Kn9 w2 t 0 (.returned v) ∧ Below (w.alloc (.cells #[.int .i64 t.q.wells, .slice Aw t.q.nw cw, .slice Af t.q.nf cf, .slice Ao t.no co, .slice Ap t.np cp, .slice As t.ns cs, .int .i64 t.far, .int .i64 t.harm, .int .i64 t.many] 29)).heap.size (w.alloc (.cells #[.int .i64 t.q.wells, .slice Aw t.q.nw cw, .slice Af t.q.nf cf, .slice Ao t.no co, .slice Ap t.np cp, .slice As t.ns cs, .int .i64 t.far, .int .i64 t.harm, .int .i64 t.many] 29)) w2) (by kernel_rfl) (by decide +kernel) rfl ?_
  apply Exists.intro
  refine ⟨fun K hK => ?_, ?_, fun w1 hb1 K Q' hK => ?_, ?_⟩
  · skip
    repeat (first | (refine wpCalm_skip rfl ?_) | (refine wpCalm_step rfl (fun K hK => ?_); go_simp; (first | (refine hK _ ?_; clear hK K) | (apply Exists.intro; refine ⟨fun _ => ?_, hK _ ?_⟩; ((go_at_call 40; with_reducible exact newer_of (HC1.out _))); clear hK K))))
    refine wpCalm_nil ?_
    exact hK
  · rfl
  · go_simp
    refine (HCO.out w1 hb1).mono ?_
    rintro e w2 ⟨ho, hb2⟩
    obtain ⟨v, rfl⟩ := Kn9.ret ho
    exact hK v w2 ⟨ho, bTrans hb1 hb2⟩
  clear HCO
  rintro v w2 ⟨ho, hb2⟩
  obtain ⟨A4, c4, e1, hL⟩ := ho.2 rfl
  obtain rfl := Ending.returned.inj e1
  clear ho e1
  apply Exists.intro
  refine ⟨fun K hK => ?_, fun w1 hb3 => ?_⟩
  · skip
    repeat (first | (refine wpCalm_skip rfl ?_) | (refine wpCalm_step rfl (fun K hK => ?_); go_simp; (first | (refine hK _ ?_; clear hK K) | (apply Exists.intro; refine ⟨fun _ => ?_, hK _ ?_⟩; (fail); clear hK K))))
    refine wpCalm_nil ?_
    exact hK
  have hL := hL.mono hb3
  have hb := bTrans hb2 hb3
  clear hb2 hb3
  have hB1 : Below w.heap.size w w1 := bTrans (bAlloc (Below.refl _ _) (.cells #[.int .i64 t.q.wells, .slice Aw t.q.nw cw, .slice Af t.q.nf cf, .slice Ao t.no co, .slice Ap t.np cp, .slice As t.ns cs, .int .i64 t.far, .int .i64 t.harm, .int .i64 t.many] 29)) hb
  have HD1 := Lib.hid (bTrans HD0.out hB1)
  have HT1 := Lib.hid (HT0.out.mono hB1)
  have HL1 := Lib.hid (hL)
  have T1 := Lib.hid (show TBox w1 w.heap.size 29 #[.int .i64 t.q.wells, .slice Aw t.q.nw cw, .slice Af t.q.nf cf, .slice Ao t.no co, .slice Ap t.np cp, .slice As t.ns cs, .int .i64 t.far, .int .i64 t.harm, .int .i64 t.many] from by have := ((TBox.new w #[.int .i64 t.q.wells, .slice Aw t.q.nw cw, .slice Af t.q.nf cf, .slice Ao t.no co, .slice Ap t.np cp, .slice As t.ns cs, .int .i64 t.far, .int .i64 t.harm, .int .i64 t.many] 29).mono (Below.refl _ _)).mono hb; simpa using this)
  clear hb hB1 HD0 HT0
  obtain ⟨T_0, T_1, T_2, T_3, T_4, T_5, T_6, T_7, T_8, T_l⟩ := T1.out.c9
  clear hL
  go_wp2_with fail
  refine (wholeOf9_any Aw Af Ao Ap As cw cf co cp cs t A4 c4 i _ HOK.out HT1.out HSM.out HL1.out HI.out).mono ?_
  rintro e w2 ⟨rfl, hb⟩
  have hB2 : Below w1.heap.size w1 w2 := bTrans (Below.refl _ _) hb
  have HD2 := Lib.hid (bTrans HD1.out hB2)
  have HT2 := Lib.hid (HT1.out.mono hB2)
  have HL2 := Lib.hid (HL1.out.mono hB2)
  have T2 := Lib.hid (T1.out.mono hB2)
  clear hb hB2 HD1 HT1 HL1 T1 T_0 T_1 T_2 T_3 T_4 T_5 T_6 T_7 T_8 T_l
  obtain ⟨T_0, T_1, T_2, T_3, T_4, T_5, T_6, T_7, T_8, T_l⟩ := T2.out.c9
  cases hc : t.canB i
  case false =>
    rw [wholeV_not hc]
    have HR := Lib.hid (show t.wholeOut (i : Int) = (0, 3) by rw [HEZ.out, Int.toNat_natCast, hc]; rfl)
    clear hc
    go_wp2_with fail
    go_ret2
    exact ⟨by rw [HR.out] <;> rfl, HD2.out⟩
  rw [wholeV_can hc]
  have hbd := whole_bd HOK.out HI.out
  obtain ⟨y, hy⟩ : ∃ y, t.whole i = y := ⟨_, rfl⟩
  rw [hy] at hbd ⊢
  have hy0 : ¬ y < 0 := by omega
  have HR := Lib.hid (show t.wholeOut (i : Int) = (y, 0) by rw [HEZ.out, Int.toNat_natCast, hc, hy]; rfl)
  clear hc hy hbd
  go_wp2_with fail
  go_ret2
  exact ⟨by rw [HR.out] <;> rfl, HD2.out⟩
set_option maxHeartbeats 4000000 in
set_option maxRecDepth 100000 in
theorem cheapest9_any (Aw Af Ao Ap As : Option Addr) (cw cf co cp cs : Nat) (t : Pt) (w : World) (hs : t.Small) (hT : PAt w Aw Af Ao Ap As t) :
    Calls Tryz.prog 51 #[.agg #[.int .i64 t.q.wells, .slice Aw t.q.nw cw, .slice Af t.q.nf cf, .slice Ao t.no co, .slice Ap t.np cp, .slice As t.ns cs, .int .i64 t.far, .int .i64 t.harm, .int .i64 t.many]] w fun e w' => e = .returned (.tuple #[.int .i64 (t.cheapestOut).1, .int .i64 (t.cheapestOut).2]) ∧ Below w.heap.size w w' := by
  obtain ⟨er, her⟩ : ∃ v, t.knowErr true = v := ⟨_, rfl⟩
  have HER := Lib.hid her
  have HE := Lib.hid (show t.cheapestOut = if er = 0 then optOut t.cheapest else (0, er) by unfold Pt.cheapestOut; rw [her])
  clear her
  have HD0 := Lib.hid (Below.refl w.heap.size w)
  have HSM := Lib.hid hs
  have HT0 := Lib.hid hT
  clear hs hT
  go_enter Tryz.func51, Tryz.ntmps51
  go_wp2_with fail
  refine ((by have := known9_any Aw Af Ao Ap As cw cf co cp cs t true (w.alloc (.cells #[.int .i64 t.q.wells, .slice Aw t.q.nw cw, .slice Af t.q.nf cf, .slice Ao t.no co, .slice Ap t.np cp, .slice As t.ns cs, .int .i64 t.far, .int .i64 t.harm, .int .i64 t.many] 29)) HSM.out (HT0.out.mono (bAlloc (Below.refl _ _) (.cells #[.int .i64 t.q.wells, .slice Aw t.q.nw cw, .slice Af t.q.nf cf, .slice Ao t.no co, .slice Ap t.np cp, .slice As t.ns cs, .int .i64 t.far, .int .i64 t.harm, .int .i64 t.many] 29))); rw [HER.out] at this; exact this : Calls Tryz.prog 97 #[.agg #[.int .i64 t.q.wells, .slice Aw t.q.nw cw, .slice Af t.q.nf cf, .slice Ao t.no co, .slice Ap t.np cp, .slice As t.ns cs, .int .i64 t.far, .int .i64 t.harm, .int .i64 t.many], .bool true] (w.alloc (.cells #[.int .i64 t.q.wells, .slice Aw t.q.nw cw, .slice Af t.q.nf cf, .slice Ao t.no co, .slice Ap t.np cp, .slice As t.ns cs, .int .i64 t.far, .int .i64 t.harm, .int .i64 t.many] 29)) fun e w' => Kn9 w' t er e ∧ Below (w.alloc (.cells #[.int .i64 t.q.wells, .slice Aw t.q.nw cw, .slice Af t.q.nf cf, .slice Ao t.no co, .slice Ap t.np cp, .slice As t.ns cs, .int .i64 t.far, .int .i64 t.harm, .int .i64 t.many] 29)).heap.size (w.alloc (.cells #[.int .i64 t.q.wells, .slice Aw t.q.nw cw, .slice Af t.q.nf cf, .slice Ao t.no co, .slice Ap t.np cp, .slice As t.ns cs, .int .i64 t.far, .int .i64 t.harm, .int .i64 t.many] 29)) w')).mono ?_
  rintro e w1 ⟨ho, hb⟩
  have hB1 : Below w.heap.size w w1 := bTrans (bAlloc (Below.refl _ _) (.cells #[.int .i64 t.q.wells, .slice Aw t.q.nw cw, .slice Af t.q.nf cf, .slice Ao t.no co, .slice Ap t.np cp, .slice As t.ns cs, .int .i64 t.far, .int .i64 t.harm, .int .i64 t.many] 29)) hb
  have HD1 := Lib.hid (bTrans HD0.out hB1)
  have HT1 := Lib.hid (HT0.out.mono hB1)
  have T1 := Lib.hid (show TBox w1 w.heap.size 29 #[.int .i64 t.q.wells, .slice Aw t.q.nw cw, .slice Af t.q.nf cf, .slice Ao t.no co, .slice Ap t.np cp, .slice As t.ns cs, .int .i64 t.far, .int .i64 t.harm, .int .i64 t.many] from by have := ((TBox.new w #[.int .i64 t.q.wells, .slice Aw t.q.nw cw, .slice Af t.q.nf cf, .slice Ao t.no co, .slice Ap t.np cp, .slice As t.ns cs, .int .i64 t.far, .int .i64 t.harm, .int .i64 t.many] 29).mono (Below.refl _ _)).mono hb; simpa using this)
  clear hb hB1 HD0 HT0
  obtain ⟨T_0, T_1, T_2, T_3, T_4, T_5, T_6, T_7, T_8, T_l⟩ := T1.out.c9
  by_cases he : er = 0
  case neg =>
    have g0 : (er != 0) = true := by simp [he]
    have HNZ := Lib.hid he
    clear he
    obtain rfl := ho.1 HNZ.out
    clear ho
    go_wp2_with fail
    go_ret2
    exact ⟨by rw [HE.out, if_neg HNZ.out] <;> rfl, HD1.out⟩
  subst he
  obtain ⟨ok, _, hne⟩ := Pt.knowErr_zero HER.out
  have HOK := Lib.hid ok
  clear ok hne
  have HEZ := Lib.hid (HE.out.trans (if_pos rfl))
  have hns5 := HOK.out.ns
  obtain ⟨A4, c4, rfl, hL⟩ := ho.2 rfl
  clear ho
  obtain ⟨n, hn⟩ : ∃ n, t.q.leftL.length = n := ⟨_, rfl⟩
  have HN := Lib.hid hn
  have HL1 := Lib.hid (hn ▸ hL : IntsAt w1 A4 n (intL0 t.q.leftL))
  rw [hn]
  clear hL hn
  go_wp2_with fail
  clear T_0 T_1 T_2 T_3 T_4 T_5 T_6 T_7 T_8 T_l
  go_loopw [6, 7] (fun s6 s7 wr => ∃ k : Nat, k ≤ t.ns ∧ s6 = .int .i64 (oN (minBy t.whole t.canB k)) ∧ s7 = .int .i64 (k : Int) ∧ Below w1.heap.size w1 wr) (fun _ s7 _ => t.ns - (intOf s7).toNat)
  case atStart => exact ⟨0, Nat.zero_le _, rfl, rfl, Below.refl _ _⟩
  case round =>
    obtain ⟨k, hk_k, rfl, rfl, hb⟩ := hrel
    have HBk := Lib.hid hb
    have hB2 : Below w1.heap.size w1 wr := bTrans (Below.refl _ _) hb
    have HD2 := Lib.hid (bTrans HD1.out hB2)
    have HT2 := Lib.hid (HT1.out.mono hB2)
    have HL2 := Lib.hid (HL1.out.mono hB2)
    have HU_k2 := Lib.hid ((show Upto w1 wr from HBk.out))
    have T2 := Lib.hid (T1.out.mono hB2)
    clear hb hB2
    obtain ⟨T_0, T_1, T_2, T_3, T_4, T_5, T_6, T_7, T_8, T_l⟩ := T2.out.c9
    by_cases hlt_k : k < t.ns
    case pos =>
      have h1_k : (k : Int) < (t.ns : Int) := by omega
      have h0_k : (0 : Int) ≤ (k : Int) := by omega
      have HK := Lib.hid hlt_k
      go_wp2_with fail
      refine (HN.out ▸ wholeOf9_any Aw Af Ao Ap As cw cf co cp cs t A4 c4 k _ HOK.out HT2.out HSM.out (HN.out.symm ▸ HL2.out) HK.out).mono ?_
      rintro e w3 ⟨rfl, hb⟩
      have hB3 : Below wr.heap.size wr w3 := bTrans (Below.refl _ _) hb
      have HD3 := Lib.hid (bTrans HD2.out hB3)
      have HT3 := Lib.hid (HT2.out.mono hB3)
      have HL3 := Lib.hid (HL2.out.mono hB3)
      have HU_k3 := Lib.hid (HU_k2.out.mono hB3)
      have T3 := Lib.hid (T2.out.mono hB3)
      clear hb hB3 HD2 HT2 HL2 HU_k2 T2 T_0 T_1 T_2 T_3 T_4 T_5 T_6 T_7 T_8 T_l
      obtain ⟨T_0, T_1, T_2, T_3, T_4, T_5, T_6, T_7, T_8, T_l⟩ := T3.out.c9
      cases hc : t.canB k
      case false =>
        rw [wholeV_not hc]
        have HNX := Lib.hid (show minBy t.whole t.canB (k + 1) = minBy t.whole t.canB k from minBy_no hc)
        have e1 : decide ((-1 : Int) ≥ 0) = false := by decide
        have e2 : decide ((0 : Int) ≤ -1) = false := by decide
        clear hc
        go_wp2_with fail
        go_roundw
        case rel =>
          first
          | exact ⟨k + 1, by omega, by rw [HNX.out], by go_num, HU_k3.out⟩
          | ((repeat apply Exists.intro)
             refine ⟨⟨k + 1, by omega, by rw [HNX.out], ?_, HU_k3.out⟩, rfl⟩
             go_num)
        case measure => simp [intOf]; omega
      rw [wholeV_can hc]
      have hbd := whole_bd HOK.out HK.out
      obtain ⟨y, hy⟩ : ∃ y, t.whole k = y := ⟨_, rfl⟩
      rw [hy] at hbd ⊢
      have hy0 := hbd.1
      have hy1 : decide (y ≥ 0) = true := by simpa using hy0
      have HY := Lib.hid hy
      have HC := Lib.hid hc
      clear hbd hy hc
      obtain ⟨mo, hmo⟩ : ∃ m, minBy t.whole t.canB k = m := ⟨_, rfl⟩
      rw [hmo]
      have HMO := Lib.hid hmo
      clear hmo
      cases mo with
      | none =>
        have HNX := Lib.hid (show oN (minBy t.whole t.canB (k + 1)) = (k : Int) by rw [minBy_new HC.out HMO.out]; rfl)
        have e1 : decide ((-1 : Int) < 0) = true := by decide
        have e3 : oN none = -1 := rfl
        go_wp2_with fail
        go_roundw
        case rel =>
          first
          | exact ⟨k + 1, by omega, by rw [HNX.out], by go_num, HU_k3.out⟩
          | ((repeat apply Exists.intro)
             refine ⟨⟨k + 1, by omega, by rw [HNX.out], ?_, HU_k3.out⟩, rfl⟩
             go_num)
        case measure => simp [intOf]; omega
      | some b =>
        have hb2 := minBy_lt HMO.out
        have HBN := Lib.hid (show b < t.ns by have := HK.out; omega)
        have HWB := Lib.hid (wholeV_can hb2.2)
        obtain ⟨yb, hyb⟩ : ∃ y, t.whole b = y := ⟨_, rfl⟩
        rw [hyb] at HWB
        have e1 : ¬ (b : Int) < 0 := by omega
        have e1d : decide ((b : Int) < 0) = false := by simp
        have e3 : oN (some b) = (b : Int) := rfl
        have HNX := Lib.hid (show oN (minBy t.whole t.canB (k + 1)) = if y < yb then (k : Int) else (b : Int) by
          rw [minBy_more HC.out HMO.out, HY.out, hyb]
          split <;> rfl)
        clear hb2 hyb
        go_wp2_with fail
        refine (HWB.out ▸ HN.out ▸ wholeOf9_any Aw Af Ao Ap As cw cf co cp cs t A4 c4 b _ HOK.out HT3.out HSM.out (HN.out.symm ▸ HL3.out) HBN.out).mono ?_
        rintro e w4 ⟨rfl, hb⟩
        have hB4 : Below w3.heap.size w3 w4 := bTrans (Below.refl _ _) hb
        have HD4 := Lib.hid (bTrans HD3.out hB4)
        have HT4 := Lib.hid (HT3.out.mono hB4)
        have HL4 := Lib.hid (HL3.out.mono hB4)
        have HU_k4 := Lib.hid (HU_k3.out.mono hB4)
        have T4 := Lib.hid (T3.out.mono hB4)
        clear hb hB4 HD3 HT3 HL3 HU_k3 T3 T_0 T_1 T_2 T_3 T_4 T_5 T_6 T_7 T_8 T_l
        obtain ⟨T_0, T_1, T_2, T_3, T_4, T_5, T_6, T_7, T_8, T_l⟩ := T4.out.c9
        by_cases hl : y < yb
        case pos =>
          have HN2 := Lib.hid (HNX.out.trans (if_pos hl))
          go_wp2_with fail
          go_roundw
          case rel =>
            first
            | exact ⟨k + 1, by omega, by rw [HN2.out], by go_num, HU_k4.out⟩
            | ((repeat apply Exists.intro)
               refine ⟨⟨k + 1, by omega, by rw [HN2.out], ?_, HU_k4.out⟩, rfl⟩
               go_num)
          case measure => simp [intOf]; omega
        have HN2 := Lib.hid (HNX.out.trans (if_neg hl))
        go_wp2_with fail
        go_roundw
        case rel =>
          first
          | exact ⟨k + 1, by omega, by rw [HN2.out], by go_num, HU_k4.out⟩
          | ((repeat apply Exists.intro)
             refine ⟨⟨k + 1, by omega, by rw [HN2.out], ?_, HU_k4.out⟩, rfl⟩
             go_num)
        case measure => simp [intOf]; omega
    have he_k : k = t.ns := by omega
    obtain ⟨mo, hmo⟩ : ∃ m, minBy t.whole t.canB k = m := ⟨_, rfl⟩
    rw [hmo]
    have HR := Lib.hid (show t.cheapestOut = optOut mo by rw [HEZ.out, ← hmo, he_k]; rfl)
    have hk9 : ¬ (k : Int) < (t.ns : Int) := by omega
    have hk8 : ¬ k < t.ns := by omega
    clear he_k hmo
    cases mo with
    | none =>
      have e1 : decide ((-1 : Int) < 0) = true := by decide
      have e3 : oN none = -1 := rfl
      go_wp2_with fail
      go_ret2
      exact ⟨by rw [HR.out] <;> rfl, HD2.out⟩
    | some b =>
      have e1 : ¬ (b : Int) < 0 := by omega
      have e1d : decide ((b : Int) < 0) = false := by simp
      have e3 : oN (some b) = (b : Int) := rfl
      go_wp2_with fail
      go_ret2
      exact ⟨by rw [HR.out] <;> rfl, HD2.out⟩
end Go.Proofs.YtjpfdhhiofjpbaaGreatDoor

namespace Go.Proofs.YtjpfdhhiofjpbaaGreatDoor
open Go.RowKit Go.Sort
set_option maxHeartbeats 16000000 in
set_option maxRecDepth 100000 in
theorem pair9_any (Aw Af Ao Ap As : Option Addr) (cw cf co cp cs : Nat) (t : Pt) (w : World) (hs : t.Small) (hT : PAt w Aw Af Ao Ap As t) :
    Calls Tryz.prog 52 #[.agg #[.int .i64 t.q.wells, .slice Aw t.q.nw cw, .slice Af t.q.nf cf, .slice Ao t.no co, .slice Ap t.np cp, .slice As t.ns cs, .int .i64 t.far, .int .i64 t.harm, .int .i64 t.many]] w fun e w' => e = .returned (.tuple #[.int .i64 t.pairOut.1, .int .i64 t.pairOut.2.1, .int .i64 t.pairOut.2.2]) ∧ Below w.heap.size w w' := by
  obtain ⟨er, her⟩ : ∃ v, t.knowErr true = v := ⟨_, rfl⟩
  have HER := Lib.hid her
  have HE := Lib.hid (show t.pairOut = if er = 0 then (if t.pair.least < 0 then (0, 0, 3) else (t.pair.one, t.pair.other, 0)) else (0, 0, er) by unfold Pt.pairOut; rw [her])
  clear her
  have HD0 := Lib.hid (Below.refl w.heap.size w)
  have HSM := Lib.hid hs
  have HT0 := Lib.hid hT
  clear hs hT
  go_enter Tryz.func52, Tryz.ntmps52
  go_wp2_with fail
  refine ((by have := known9_any Aw Af Ao Ap As cw cf co cp cs t true (w.alloc (.cells #[.int .i64 t.q.wells, .slice Aw t.q.nw cw, .slice Af t.q.nf cf, .slice Ao t.no co, .slice Ap t.np cp, .slice As t.ns cs, .int .i64 t.far, .int .i64 t.harm, .int .i64 t.many] 29)) HSM.out (HT0.out.mono (bAlloc (Below.refl _ _) (.cells #[.int .i64 t.q.wells, .slice Aw t.q.nw cw, .slice Af t.q.nf cf, .slice Ao t.no co, .slice Ap t.np cp, .slice As t.ns cs, .int .i64 t.far, .int .i64 t.harm, .int .i64 t.many] 29))); rw [HER.out] at this; exact this : Calls Tryz.prog 97 #[.agg #[.int .i64 t.q.wells, .slice Aw t.q.nw cw, .slice Af t.q.nf cf, .slice Ao t.no co, .slice Ap t.np cp, .slice As t.ns cs, .int .i64 t.far, .int .i64 t.harm, .int .i64 t.many], .bool true] (w.alloc (.cells #[.int .i64 t.q.wells, .slice Aw t.q.nw cw, .slice Af t.q.nf cf, .slice Ao t.no co, .slice Ap t.np cp, .slice As t.ns cs, .int .i64 t.far, .int .i64 t.harm, .int .i64 t.many] 29)) fun e w' => Kn9 w' t er e ∧ Below (w.alloc (.cells #[.int .i64 t.q.wells, .slice Aw t.q.nw cw, .slice Af t.q.nf cf, .slice Ao t.no co, .slice Ap t.np cp, .slice As t.ns cs, .int .i64 t.far, .int .i64 t.harm, .int .i64 t.many] 29)).heap.size (w.alloc (.cells #[.int .i64 t.q.wells, .slice Aw t.q.nw cw, .slice Af t.q.nf cf, .slice Ao t.no co, .slice Ap t.np cp, .slice As t.ns cs, .int .i64 t.far, .int .i64 t.harm, .int .i64 t.many] 29)) w')).mono ?_
  rintro e w1 ⟨ho, hb⟩
  have hB1 : Below w.heap.size w w1 := bTrans (bAlloc (Below.refl _ _) (.cells #[.int .i64 t.q.wells, .slice Aw t.q.nw cw, .slice Af t.q.nf cf, .slice Ao t.no co, .slice Ap t.np cp, .slice As t.ns cs, .int .i64 t.far, .int .i64 t.harm, .int .i64 t.many] 29)) hb
  have HD1 := Lib.hid (bTrans HD0.out hB1)
  have HT1 := Lib.hid (HT0.out.mono hB1)
  have T1 := Lib.hid (show TBox w1 w.heap.size 29 #[.int .i64 t.q.wells, .slice Aw t.q.nw cw, .slice Af t.q.nf cf, .slice Ao t.no co, .slice Ap t.np cp, .slice As t.ns cs, .int .i64 t.far, .int .i64 t.harm, .int .i64 t.many] from by have := ((TBox.new w #[.int .i64 t.q.wells, .slice Aw t.q.nw cw, .slice Af t.q.nf cf, .slice Ao t.no co, .slice Ap t.np cp, .slice As t.ns cs, .int .i64 t.far, .int .i64 t.harm, .int .i64 t.many] 29).mono (Below.refl _ _)).mono hb; simpa using this)
  clear hb hB1 HD0 HT0
  obtain ⟨T_0, T_1, T_2, T_3, T_4, T_5, T_6, T_7, T_8, T_l⟩ := T1.out.c9
  by_cases he : er = 0
  case neg =>
    have g0 : (er != 0) = true := by simp [he]
    have HNZ := Lib.hid he
    clear he
    obtain rfl := ho.1 HNZ.out
    clear ho
    go_wp2_with fail
    go_ret3
    exact ⟨by rw [HE.out, if_neg HNZ.out] <;> rfl, HD1.out⟩
  subst he
  obtain ⟨ok, _, hne⟩ := Pt.knowErr_zero HER.out
  have HOK := Lib.hid ok
  clear ok hne
  have HEZ := Lib.hid (HE.out.trans (if_pos rfl))
  have hns5 := HOK.out.ns
  obtain ⟨A4, c4, rfl, hL⟩ := ho.2 rfl
  clear ho
  obtain ⟨n, hn⟩ : ∃ n, t.q.leftL.length = n := ⟨_, rfl⟩
  have HN := Lib.hid hn
  have HL1 := Lib.hid (hn ▸ hL : IntsAt w1 A4 n (intL0 t.q.leftL))
  rw [hn]
  clear hL hn
  go_wp2_with fail
  clear T_0 T_1 T_2 T_3 T_4 T_5 T_6 T_7 T_8 T_l
  go_loopw [2, 3, 6, 7] (fun s2 s3 s6 s7 wr => ∃ a : Nat, a ≤ t.ns ∧ s2 = .int .i64 (t.pairTo a).one ∧ s3 = .int .i64 (t.pairTo a).other ∧ s6 = .int .i64 (t.pairTo a).least ∧ s7 = .int .i64 (a : Int) ∧ Below w1.heap.size w1 wr) (fun _ _ _ s7 _ => t.ns - (intOf s7).toNat)
  case atStart => exact ⟨0, Nat.zero_le _, rfl, rfl, rfl, rfl, Below.refl _ _⟩
  case round =>
    obtain ⟨a, hk_a, rfl, rfl, rfl, rfl, hb⟩ := hrel
    have HBa := Lib.hid hb
    have hB2 : Below w1.heap.size w1 wr := bTrans (Below.refl _ _) hb
    have HD2 := Lib.hid (bTrans HD1.out hB2)
    have HT2 := Lib.hid (HT1.out.mono hB2)
    have HL2 := Lib.hid (HL1.out.mono hB2)
    have HU_a2 := Lib.hid ((show Upto w1 wr from HBa.out))
    have T2 := Lib.hid (T1.out.mono hB2)
    clear hb hB2
    obtain ⟨T_0, T_1, T_2, T_3, T_4, T_5, T_6, T_7, T_8, T_l⟩ := T2.out.c9
    by_cases hlt_a : a < t.ns
    case pos =>
      have h1_a : (a : Int) < (t.ns : Int) := by omega
      have h0_a : (0 : Int) ≤ (a : Int) := by omega
      obtain ⟨x, hx⟩ : ∃ x, t.pairTo a = x := ⟨_, rfl⟩
      rw [hx]
      have HPX := Lib.hid hx
      have HA := Lib.hid hlt_a
      have HLOW := Lib.hid (pairIn_low (t := t) (x := x) (a + 1) (Nat.le_refl _))
      clear hx
      go_wp2_with fail
      obtain ⟨wl74, hwl⟩ : ∃ y, y = wr := ⟨_, rfl⟩
      subst hwl
      clear T_0 T_1 T_2 T_3 T_4 T_5 T_6 T_7 T_8 T_l
      go_loopw [2, 3, 6, 8] (fun s2 s3 s6 s8 wr => ∃ b : Nat, b ≤ t.ns ∧ s2 = .int .i64 (t.pairIn a b x).one ∧ s3 = .int .i64 (t.pairIn a b x).other ∧ s6 = .int .i64 (t.pairIn a b x).least ∧ s8 = .int .i64 (b : Int) ∧ a < b ∧ Below wl74.heap.size wl74 wr) (fun _ _ _ s8 _ => t.ns - (intOf s8).toNat)
      case atStart => exact ⟨a + 1, by omega, by rw [HLOW.out], by rw [HLOW.out], by rw [HLOW.out], by go_num, by omega, Below.refl _ _⟩
      case round =>
        obtain ⟨b, hk_b, rfl, rfl, rfl, rfl, hab, hb⟩ := hrel
        have HBb := Lib.hid hb
        have HAB := Lib.hid hab
        clear hab
        have hB3 : Below wl74.heap.size wl74 wr := bTrans (Below.refl _ _) hb
        have HD3 := Lib.hid (bTrans HD2.out hB3)
        have HT3 := Lib.hid (HT2.out.mono hB3)
        have HL3 := Lib.hid (HL2.out.mono hB3)
        have HU_a3 := Lib.hid (HU_a2.out.mono hB3)
        have HU_b3 := Lib.hid ((show Upto wl74 wr from HBb.out))
        have T3 := Lib.hid (T2.out.mono hB3)
        clear hb hB3
        obtain ⟨T_0, T_1, T_2, T_3, T_4, T_5, T_6, T_7, T_8, T_l⟩ := T3.out.c9
        by_cases hlt_b : b < t.ns
        case pos =>
          have h1_b : (b : Int) < (t.ns : Int) := by omega
          have h0_b : (0 : Int) ≤ (b : Int) := by omega
          have HB := Lib.hid hlt_b
          have hab := HAB.out
          obtain ⟨y, hy⟩ : ∃ y, t.pairIn a b x = y := ⟨_, rfl⟩
          rw [hy]
          have HY := Lib.hid hy
          have ha9 := whole_bd HOK.out HA.out
          have hb9 := whole_bd HOK.out HB.out
          obtain ⟨m, hm⟩ : ∃ m, t.whole a = m := ⟨_, rfl⟩
          obtain ⟨mm, hmm⟩ : ∃ m, t.whole b = m := ⟨_, rfl⟩
          rw [hm] at ha9
          rw [hmm] at hb9
          have HM := Lib.hid (And.intro hm hmm)
          obtain ⟨u, hu⟩ : ∃ u, (t.spot a).at_ = u := ⟨_, rfl⟩
          obtain ⟨v, hv⟩ : ∃ v, (t.spot b).at_ = v := ⟨_, rfl⟩
          have HUV := Lib.hid (And.intro hu hv)
          obtain ⟨d, hd⟩ : ∃ d, dst u v = d := ⟨_, rfl⟩
          have hua := And.intro (HOK.out.spot a HA.out).a0 (HOK.out.spot a HA.out).a1
          have hvb := And.intro (HOK.out.spot b HB.out).a0 (HOK.out.spot b HB.out).a1
          rw [hu] at hua
          rw [hv] at hvb
          have HDI := Lib.hid (fun w' => hd ▸ dist9_any u v w' hua hvb : ∀ w' : World, Calls Tryz.prog 58 #[.int .i64 u, .int .i64 v] w' fun e w'' => e = .returned (.int .i64 d) ∧ Below w'.heap.size w' w'')
          have hwr : IntKind.i64.wrap (m + mm) = m + mm := IntWalk.i64_in _ (by omega)
          have HST := Lib.hid (show t.pairIn a (b + 1) x = if t.canB a && t.canB b && decide (t.far ≤ d) && (decide (y.least < 0) || decide (m + mm < y.least)) then ⟨a, b, m + mm⟩ else y by
            conv => lhs; unfold Pt.pairIn
            unfold Pt.mayB
            rw [hy, hm, hmm, hu, hv, hd, decide_eq_true hab, Bool.and_true])
          have e0 : decide ((-1 : Int) ≥ 0) = false := by decide
          have e0n : decide ((0 : Int) ≤ -1) = false := by decide
          clear hy hm hmm hu hv hd hua hvb
          cases hca : t.canB a
          · skip
            have HNX := Lib.hid (show t.pairIn a (b + 1) x = y by rw [HST.out, hca]; rfl)
            have HV1 := Lib.hid (wholeV_not hca)
            have HV2 := Lib.hid (show t.wholeV b = t.wholeV b from rfl)
            clear hca
            have HQ1 := Lib.hid (fun (w' : World) (hb : Below wr.heap.size wr w') => (HV1.out ▸ HN.out ▸ wholeOf9_any Aw Af Ao Ap As cw cf co cp cs t A4 c4 a w' HOK.out (HT3.out.mono hb) HSM.out (HN.out.symm ▸ (HL3.out.mono hb)) HA.out : Calls Tryz.prog 108 #[.agg #[.int .i64 t.q.wells, .slice Aw t.q.nw cw, .slice Af t.q.nf cf, .slice Ao t.no co, .slice Ap t.np cp, .slice As t.ns cs, .int .i64 t.far, .int .i64 t.harm, .int .i64 t.many], .slice A4 n c4, .int .i64 (a : Int)] w' fun e w'' => e = .returned (.int .i64 (-1)) ∧ Below w'.heap.size w' w''))
            have HQ2 := Lib.hid (fun (w' : World) (hb : Below wr.heap.size wr w') => (HV2.out ▸ HN.out ▸ wholeOf9_any Aw Af Ao Ap As cw cf co cp cs t A4 c4 b w' HOK.out (HT3.out.mono hb) HSM.out (HN.out.symm ▸ (HL3.out.mono hb)) HB.out : Calls Tryz.prog 108 #[.agg #[.int .i64 t.q.wells, .slice Aw t.q.nw cw, .slice Af t.q.nf cf, .slice Ao t.no co, .slice Ap t.np cp, .slice As t.ns cs, .int .i64 t.far, .int .i64 t.harm, .int .i64 t.many], .slice A4 n c4, .int .i64 (b : Int)] w' fun e w'' => e = .returned (.int .i64 (t.wholeV b)) ∧ Below w'.heap.size w' w''))
            go_wp2_with fail
            refine wp_region_quiet_below (by kernel_rfl) (by kernel_rfl) ?_
            repeat (go_big_quiet_step (((first | (go_at_call 108; with_reducible exact Calls.regrown_of (HQ1.out _ (below_regrown _ _ _))) | (go_at_call 108; with_reducible exact Calls.regrown_of (HQ2.out _ (below_regrown _ _ _)))))))
            refine wpQuiet_nil ?_
            intro w4 hw9
            have hb := below_of_regrown hw9
            clear hw9
            clear HQ1 HQ2
            have hB4 : Below wr.heap.size wr w4 := bTrans (Below.refl _ _) hb
            have HD4 := Lib.hid (bTrans HD3.out hB4)
            have HT4 := Lib.hid (HT3.out.mono hB4)
            have HL4 := Lib.hid (HL3.out.mono hB4)
            have HU_a4 := Lib.hid (HU_a3.out.mono hB4)
            have HU_b4 := Lib.hid (HU_b3.out.mono hB4)
            have T4 := Lib.hid (T3.out.mono hB4)
            clear hb hB4 HD3 HT3 HL3 HU_a3 HU_b3 T3 T_0 T_1 T_2 T_3 T_4 T_5 T_6 T_7 T_8 T_l
            obtain ⟨T_0, T_1, T_2, T_3, T_4, T_5, T_6, T_7, T_8, T_l⟩ := T4.out.c9
            obtain ⟨bs, os_, Ar, Af2, Ax, cr, cf2, cx, hA, hbs, _, _, p0, _⟩ := HT4.out.spots.get HA.out
            obtain ⟨bs', os', Ar', Af2', Ax', cr', cf2', cx', hA', _, _, _, q0, _⟩ := HT4.out.spots.get HB.out
            obtain ⟨rfl, rfl⟩ : bs = bs' ∧ os_ = os' := by rw [hA] at hA'; injection hA' with hA'; injection hA' with h1 h2; exact ⟨h1, h2⟩
            rw [HUV.out.1] at p0
            rw [HUV.out.2] at q0
            subst hA
            clear hA'
            go_wp2_with fail
            refine wp_region_quiet_below (by kernel_rfl) (by kernel_rfl) ?_
            repeat (go_big_quiet_step ((go_at_call 58; exact Calls.regrown_of (HDI.out _))))
            refine wpQuiet_nil ?_
            intro w5 hw9
            have hb := below_of_regrown hw9
            clear hw9
            clear p0 q0 hbs HDI
            have hB5 : Below w4.heap.size w4 w5 := bTrans (Below.refl _ _) hb
            have HD5 := Lib.hid (bTrans HD4.out hB5)
            have HT5 := Lib.hid (HT4.out.mono hB5)
            have HL5 := Lib.hid (HL4.out.mono hB5)
            have HU_a5 := Lib.hid (HU_a4.out.mono hB5)
            have HU_b5 := Lib.hid (HU_b4.out.mono hB5)
            have T5 := Lib.hid (T4.out.mono hB5)
            clear hb hB5 HD4 HT4 HL4 HU_a4 HU_b4 T4 T_0 T_1 T_2 T_3 T_4 T_5 T_6 T_7 T_8 T_l
            obtain ⟨T_0, T_1, T_2, T_3, T_4, T_5, T_6, T_7, T_8, T_l⟩ := T5.out.c9
            go_wp2_with fail
            go_roundw
            case rel =>
              first
              | exact ⟨b + 1, by omega, by rw [HNX.out], by rw [HNX.out], by rw [HNX.out], by go_num, by omega, HU_b5.out⟩
              | ((repeat apply Exists.intro)
                 refine ⟨⟨b + 1, by omega, by rw [HNX.out], by rw [HNX.out], by rw [HNX.out], ?_, by omega, HU_b5.out⟩, rfl⟩
                 go_num)
            case measure => simp [intOf]; omega
          have HV1 := Lib.hid ((wholeV_can hca).trans HM.out.1)
          have ha1 := ha9.1
          have ha2 : decide (m ≥ 0) = true := by simpa using ha1
          cases hcb : t.canB b
          · skip
            have HNX := Lib.hid (show t.pairIn a (b + 1) x = y by rw [HST.out, hcb, Bool.and_false]; rfl)
            have HV2 := Lib.hid (wholeV_not hcb)
            clear hca hcb
            have HQ1 := Lib.hid (fun (w' : World) (hb : Below wr.heap.size wr w') => (HV1.out ▸ HN.out ▸ wholeOf9_any Aw Af Ao Ap As cw cf co cp cs t A4 c4 a w' HOK.out (HT3.out.mono hb) HSM.out (HN.out.symm ▸ (HL3.out.mono hb)) HA.out : Calls Tryz.prog 108 #[.agg #[.int .i64 t.q.wells, .slice Aw t.q.nw cw, .slice Af t.q.nf cf, .slice Ao t.no co, .slice Ap t.np cp, .slice As t.ns cs, .int .i64 t.far, .int .i64 t.harm, .int .i64 t.many], .slice A4 n c4, .int .i64 (a : Int)] w' fun e w'' => e = .returned (.int .i64 m) ∧ Below w'.heap.size w' w''))
            have HQ2 := Lib.hid (fun (w' : World) (hb : Below wr.heap.size wr w') => (HV2.out ▸ HN.out ▸ wholeOf9_any Aw Af Ao Ap As cw cf co cp cs t A4 c4 b w' HOK.out (HT3.out.mono hb) HSM.out (HN.out.symm ▸ (HL3.out.mono hb)) HB.out : Calls Tryz.prog 108 #[.agg #[.int .i64 t.q.wells, .slice Aw t.q.nw cw, .slice Af t.q.nf cf, .slice Ao t.no co, .slice Ap t.np cp, .slice As t.ns cs, .int .i64 t.far, .int .i64 t.harm, .int .i64 t.many], .slice A4 n c4, .int .i64 (b : Int)] w' fun e w'' => e = .returned (.int .i64 (-1)) ∧ Below w'.heap.size w' w''))
            go_wp2_with fail
            refine wp_region_quiet_below (by kernel_rfl) (by kernel_rfl) ?_
            repeat (go_big_quiet_step (((first | (go_at_call 108; with_reducible exact Calls.regrown_of (HQ1.out _ (below_regrown _ _ _))) | (go_at_call 108; with_reducible exact Calls.regrown_of (HQ2.out _ (below_regrown _ _ _)))))))
            refine wpQuiet_nil ?_
            intro w4 hw9
            have hb := below_of_regrown hw9
            clear hw9
            clear HQ1 HQ2
            have hB4 : Below wr.heap.size wr w4 := bTrans (Below.refl _ _) hb
            have HD4 := Lib.hid (bTrans HD3.out hB4)
            have HT4 := Lib.hid (HT3.out.mono hB4)
            have HL4 := Lib.hid (HL3.out.mono hB4)
            have HU_a4 := Lib.hid (HU_a3.out.mono hB4)
            have HU_b4 := Lib.hid (HU_b3.out.mono hB4)
            have T4 := Lib.hid (T3.out.mono hB4)
            clear hb hB4 HD3 HT3 HL3 HU_a3 HU_b3 T3 T_0 T_1 T_2 T_3 T_4 T_5 T_6 T_7 T_8 T_l
            obtain ⟨T_0, T_1, T_2, T_3, T_4, T_5, T_6, T_7, T_8, T_l⟩ := T4.out.c9
            obtain ⟨bs, os_, Ar, Af2, Ax, cr, cf2, cx, hA, hbs, _, _, p0, _⟩ := HT4.out.spots.get HA.out
            obtain ⟨bs', os', Ar', Af2', Ax', cr', cf2', cx', hA', _, _, _, q0, _⟩ := HT4.out.spots.get HB.out
            obtain ⟨rfl, rfl⟩ : bs = bs' ∧ os_ = os' := by rw [hA] at hA'; injection hA' with hA'; injection hA' with h1 h2; exact ⟨h1, h2⟩
            rw [HUV.out.1] at p0
            rw [HUV.out.2] at q0
            subst hA
            clear hA'
            go_wp2_with fail
            refine wp_region_quiet_below (by kernel_rfl) (by kernel_rfl) ?_
            repeat (go_big_quiet_step ((go_at_call 58; exact Calls.regrown_of (HDI.out _))))
            refine wpQuiet_nil ?_
            intro w5 hw9
            have hb := below_of_regrown hw9
            clear hw9
            clear p0 q0 hbs HDI
            have hB5 : Below w4.heap.size w4 w5 := bTrans (Below.refl _ _) hb
            have HD5 := Lib.hid (bTrans HD4.out hB5)
            have HT5 := Lib.hid (HT4.out.mono hB5)
            have HL5 := Lib.hid (HL4.out.mono hB5)
            have HU_a5 := Lib.hid (HU_a4.out.mono hB5)
            have HU_b5 := Lib.hid (HU_b4.out.mono hB5)
            have T5 := Lib.hid (T4.out.mono hB5)
            clear hb hB5 HD4 HT4 HL4 HU_a4 HU_b4 T4 T_0 T_1 T_2 T_3 T_4 T_5 T_6 T_7 T_8 T_l
            obtain ⟨T_0, T_1, T_2, T_3, T_4, T_5, T_6, T_7, T_8, T_l⟩ := T5.out.c9
            go_wp2_with fail
            go_roundw
            case rel =>
              first
              | exact ⟨b + 1, by omega, by rw [HNX.out], by rw [HNX.out], by rw [HNX.out], by go_num, by omega, HU_b5.out⟩
              | ((repeat apply Exists.intro)
                 refine ⟨⟨b + 1, by omega, by rw [HNX.out], by rw [HNX.out], by rw [HNX.out], ?_, by omega, HU_b5.out⟩, rfl⟩
                 go_num)
            case measure => simp [intOf]; omega
          have HV2 := Lib.hid ((wholeV_can hcb).trans HM.out.2)
          have hb1 := hb9.1
          have hb2 : decide (mm ≥ 0) = true := by simpa using hb1
          rw [hca, hcb] at HST
          clear hca hcb ha9 hb9
          by_cases hf : t.far ≤ d
          case neg =>
            have e1 : decide (d ≥ t.far) = false := by simp; omega
            have e1n : decide (t.far ≤ d) = false := by simp; omega
            have HNX := Lib.hid (show t.pairIn a (b + 1) x = y by rw [HST.out, e1n]; rfl)
            clear hf
            have HQ1 := Lib.hid (fun (w' : World) (hb : Below wr.heap.size wr w') => (HV1.out ▸ HN.out ▸ wholeOf9_any Aw Af Ao Ap As cw cf co cp cs t A4 c4 a w' HOK.out (HT3.out.mono hb) HSM.out (HN.out.symm ▸ (HL3.out.mono hb)) HA.out : Calls Tryz.prog 108 #[.agg #[.int .i64 t.q.wells, .slice Aw t.q.nw cw, .slice Af t.q.nf cf, .slice Ao t.no co, .slice Ap t.np cp, .slice As t.ns cs, .int .i64 t.far, .int .i64 t.harm, .int .i64 t.many], .slice A4 n c4, .int .i64 (a : Int)] w' fun e w'' => e = .returned (.int .i64 m) ∧ Below w'.heap.size w' w''))
            have HQ2 := Lib.hid (fun (w' : World) (hb : Below wr.heap.size wr w') => (HV2.out ▸ HN.out ▸ wholeOf9_any Aw Af Ao Ap As cw cf co cp cs t A4 c4 b w' HOK.out (HT3.out.mono hb) HSM.out (HN.out.symm ▸ (HL3.out.mono hb)) HB.out : Calls Tryz.prog 108 #[.agg #[.int .i64 t.q.wells, .slice Aw t.q.nw cw, .slice Af t.q.nf cf, .slice Ao t.no co, .slice Ap t.np cp, .slice As t.ns cs, .int .i64 t.far, .int .i64 t.harm, .int .i64 t.many], .slice A4 n c4, .int .i64 (b : Int)] w' fun e w'' => e = .returned (.int .i64 mm) ∧ Below w'.heap.size w' w''))
            go_wp2_with fail
            refine wp_region_quiet_below (by kernel_rfl) (by kernel_rfl) ?_
            repeat (go_big_quiet_step (((first | (go_at_call 108; with_reducible exact Calls.regrown_of (HQ1.out _ (below_regrown _ _ _))) | (go_at_call 108; with_reducible exact Calls.regrown_of (HQ2.out _ (below_regrown _ _ _)))))))
            refine wpQuiet_nil ?_
            intro w4 hw9
            have hb := below_of_regrown hw9
            clear hw9
            clear HQ1 HQ2
            have hB4 : Below wr.heap.size wr w4 := bTrans (Below.refl _ _) hb
            have HD4 := Lib.hid (bTrans HD3.out hB4)
            have HT4 := Lib.hid (HT3.out.mono hB4)
            have HL4 := Lib.hid (HL3.out.mono hB4)
            have HU_a4 := Lib.hid (HU_a3.out.mono hB4)
            have HU_b4 := Lib.hid (HU_b3.out.mono hB4)
            have T4 := Lib.hid (T3.out.mono hB4)
            clear hb hB4 HD3 HT3 HL3 HU_a3 HU_b3 T3 T_0 T_1 T_2 T_3 T_4 T_5 T_6 T_7 T_8 T_l
            obtain ⟨T_0, T_1, T_2, T_3, T_4, T_5, T_6, T_7, T_8, T_l⟩ := T4.out.c9
            obtain ⟨bs, os_, Ar, Af2, Ax, cr, cf2, cx, hA, hbs, _, _, p0, _⟩ := HT4.out.spots.get HA.out
            obtain ⟨bs', os', Ar', Af2', Ax', cr', cf2', cx', hA', _, _, _, q0, _⟩ := HT4.out.spots.get HB.out
            obtain ⟨rfl, rfl⟩ : bs = bs' ∧ os_ = os' := by rw [hA] at hA'; injection hA' with hA'; injection hA' with h1 h2; exact ⟨h1, h2⟩
            rw [HUV.out.1] at p0
            rw [HUV.out.2] at q0
            subst hA
            clear hA'
            go_wp2_with fail
            refine wp_region_quiet_below (by kernel_rfl) (by kernel_rfl) ?_
            repeat (go_big_quiet_step ((go_at_call 58; exact Calls.regrown_of (HDI.out _))))
            refine wpQuiet_nil ?_
            intro w5 hw9
            have hb := below_of_regrown hw9
            clear hw9
            clear p0 q0 hbs HDI
            have hB5 : Below w4.heap.size w4 w5 := bTrans (Below.refl _ _) hb
            have HD5 := Lib.hid (bTrans HD4.out hB5)
            have HT5 := Lib.hid (HT4.out.mono hB5)
            have HL5 := Lib.hid (HL4.out.mono hB5)
            have HU_a5 := Lib.hid (HU_a4.out.mono hB5)
            have HU_b5 := Lib.hid (HU_b4.out.mono hB5)
            have T5 := Lib.hid (T4.out.mono hB5)
            clear hb hB5 HD4 HT4 HL4 HU_a4 HU_b4 T4 T_0 T_1 T_2 T_3 T_4 T_5 T_6 T_7 T_8 T_l
            obtain ⟨T_0, T_1, T_2, T_3, T_4, T_5, T_6, T_7, T_8, T_l⟩ := T5.out.c9
            go_wp2_with fail
            go_roundw
            case rel =>
              first
              | exact ⟨b + 1, by omega, by rw [HNX.out], by rw [HNX.out], by rw [HNX.out], by go_num, by omega, HU_b5.out⟩
              | ((repeat apply Exists.intro)
                 refine ⟨⟨b + 1, by omega, by rw [HNX.out], by rw [HNX.out], by rw [HNX.out], ?_, by omega, HU_b5.out⟩, rfl⟩
                 go_num)
            case measure => simp [intOf]; omega
          have e1 : decide (d ≥ t.far) = true := by simpa using hf
          have e1n : decide (t.far ≤ d) = true := by simpa using hf
          clear hf
          by_cases hl : y.least < 0
          case pos =>
            have e2 : decide (y.least < 0) = true := by simpa using hl
            have HNX := Lib.hid (show t.pairIn a (b + 1) x = ⟨a, b, m + mm⟩ by rw [HST.out, e1n, e2]; rfl)
            have HQ1 := Lib.hid (fun (w' : World) (hb : Below wr.heap.size wr w') => (HV1.out ▸ HN.out ▸ wholeOf9_any Aw Af Ao Ap As cw cf co cp cs t A4 c4 a w' HOK.out (HT3.out.mono hb) HSM.out (HN.out.symm ▸ (HL3.out.mono hb)) HA.out : Calls Tryz.prog 108 #[.agg #[.int .i64 t.q.wells, .slice Aw t.q.nw cw, .slice Af t.q.nf cf, .slice Ao t.no co, .slice Ap t.np cp, .slice As t.ns cs, .int .i64 t.far, .int .i64 t.harm, .int .i64 t.many], .slice A4 n c4, .int .i64 (a : Int)] w' fun e w'' => e = .returned (.int .i64 m) ∧ Below w'.heap.size w' w''))
            have HQ2 := Lib.hid (fun (w' : World) (hb : Below wr.heap.size wr w') => (HV2.out ▸ HN.out ▸ wholeOf9_any Aw Af Ao Ap As cw cf co cp cs t A4 c4 b w' HOK.out (HT3.out.mono hb) HSM.out (HN.out.symm ▸ (HL3.out.mono hb)) HB.out : Calls Tryz.prog 108 #[.agg #[.int .i64 t.q.wells, .slice Aw t.q.nw cw, .slice Af t.q.nf cf, .slice Ao t.no co, .slice Ap t.np cp, .slice As t.ns cs, .int .i64 t.far, .int .i64 t.harm, .int .i64 t.many], .slice A4 n c4, .int .i64 (b : Int)] w' fun e w'' => e = .returned (.int .i64 mm) ∧ Below w'.heap.size w' w''))
            go_wp2_with fail
            refine wp_region_quiet_below (by kernel_rfl) (by kernel_rfl) ?_
            repeat (go_big_quiet_step (((first | (go_at_call 108; with_reducible exact Calls.regrown_of (HQ1.out _ (below_regrown _ _ _))) | (go_at_call 108; with_reducible exact Calls.regrown_of (HQ2.out _ (below_regrown _ _ _)))))))
            refine wpQuiet_nil ?_
            intro w4 hw9
            have hb := below_of_regrown hw9
            clear hw9
            clear HQ1 HQ2
            have hB4 : Below wr.heap.size wr w4 := bTrans (Below.refl _ _) hb
            have HD4 := Lib.hid (bTrans HD3.out hB4)
            have HT4 := Lib.hid (HT3.out.mono hB4)
            have HL4 := Lib.hid (HL3.out.mono hB4)
            have HU_a4 := Lib.hid (HU_a3.out.mono hB4)
            have HU_b4 := Lib.hid (HU_b3.out.mono hB4)
            have T4 := Lib.hid (T3.out.mono hB4)
            clear hb hB4 HD3 HT3 HL3 HU_a3 HU_b3 T3 T_0 T_1 T_2 T_3 T_4 T_5 T_6 T_7 T_8 T_l
            obtain ⟨T_0, T_1, T_2, T_3, T_4, T_5, T_6, T_7, T_8, T_l⟩ := T4.out.c9
            obtain ⟨bs, os_, Ar, Af2, Ax, cr, cf2, cx, hA, hbs, _, _, p0, _⟩ := HT4.out.spots.get HA.out
            obtain ⟨bs', os', Ar', Af2', Ax', cr', cf2', cx', hA', _, _, _, q0, _⟩ := HT4.out.spots.get HB.out
            obtain ⟨rfl, rfl⟩ : bs = bs' ∧ os_ = os' := by rw [hA] at hA'; injection hA' with hA'; injection hA' with h1 h2; exact ⟨h1, h2⟩
            rw [HUV.out.1] at p0
            rw [HUV.out.2] at q0
            subst hA
            clear hA'
            go_wp2_with fail
            refine wp_region_quiet_below (by kernel_rfl) (by kernel_rfl) ?_
            repeat (go_big_quiet_step ((go_at_call 58; exact Calls.regrown_of (HDI.out _))))
            refine wpQuiet_nil ?_
            intro w5 hw9
            have hb := below_of_regrown hw9
            clear hw9
            clear p0 q0 hbs HDI
            have hB5 : Below w4.heap.size w4 w5 := bTrans (Below.refl _ _) hb
            have HD5 := Lib.hid (bTrans HD4.out hB5)
            have HT5 := Lib.hid (HT4.out.mono hB5)
            have HL5 := Lib.hid (HL4.out.mono hB5)
            have HU_a5 := Lib.hid (HU_a4.out.mono hB5)
            have HU_b5 := Lib.hid (HU_b4.out.mono hB5)
            have T5 := Lib.hid (T4.out.mono hB5)
            clear hb hB5 HD4 HT4 HL4 HU_a4 HU_b4 T4 T_0 T_1 T_2 T_3 T_4 T_5 T_6 T_7 T_8 T_l
            obtain ⟨T_0, T_1, T_2, T_3, T_4, T_5, T_6, T_7, T_8, T_l⟩ := T5.out.c9
            go_wp2_with fail
            go_roundw
            case rel =>
              first
              | exact ⟨b + 1, by omega, by rw [HNX.out], by rw [HNX.out], by rw [HNX.out], by go_num, by omega, HU_b5.out⟩
              | ((repeat apply Exists.intro)
                 refine ⟨⟨b + 1, by omega, by rw [HNX.out], by rw [HNX.out], by rw [HNX.out], ?_, by omega, HU_b5.out⟩, rfl⟩
                 go_num)
            case measure => simp [intOf]; omega
          have e2 : decide (y.least < 0) = false := by simp; omega
          by_cases hs : m + mm < y.least
          case pos =>
            have e3 : decide (m + mm < y.least) = true := by simpa using hs
            have HNX := Lib.hid (show t.pairIn a (b + 1) x = ⟨a, b, m + mm⟩ by rw [HST.out, e1n, e2, e3]; rfl)
            have HQ1 := Lib.hid (fun (w' : World) (hb : Below wr.heap.size wr w') => (HV1.out ▸ HN.out ▸ wholeOf9_any Aw Af Ao Ap As cw cf co cp cs t A4 c4 a w' HOK.out (HT3.out.mono hb) HSM.out (HN.out.symm ▸ (HL3.out.mono hb)) HA.out : Calls Tryz.prog 108 #[.agg #[.int .i64 t.q.wells, .slice Aw t.q.nw cw, .slice Af t.q.nf cf, .slice Ao t.no co, .slice Ap t.np cp, .slice As t.ns cs, .int .i64 t.far, .int .i64 t.harm, .int .i64 t.many], .slice A4 n c4, .int .i64 (a : Int)] w' fun e w'' => e = .returned (.int .i64 m) ∧ Below w'.heap.size w' w''))
            have HQ2 := Lib.hid (fun (w' : World) (hb : Below wr.heap.size wr w') => (HV2.out ▸ HN.out ▸ wholeOf9_any Aw Af Ao Ap As cw cf co cp cs t A4 c4 b w' HOK.out (HT3.out.mono hb) HSM.out (HN.out.symm ▸ (HL3.out.mono hb)) HB.out : Calls Tryz.prog 108 #[.agg #[.int .i64 t.q.wells, .slice Aw t.q.nw cw, .slice Af t.q.nf cf, .slice Ao t.no co, .slice Ap t.np cp, .slice As t.ns cs, .int .i64 t.far, .int .i64 t.harm, .int .i64 t.many], .slice A4 n c4, .int .i64 (b : Int)] w' fun e w'' => e = .returned (.int .i64 mm) ∧ Below w'.heap.size w' w''))
            go_wp2_with fail
            refine wp_region_quiet_below (by kernel_rfl) (by kernel_rfl) ?_
            repeat (go_big_quiet_step (((first | (go_at_call 108; with_reducible exact Calls.regrown_of (HQ1.out _ (below_regrown _ _ _))) | (go_at_call 108; with_reducible exact Calls.regrown_of (HQ2.out _ (below_regrown _ _ _)))))))
            refine wpQuiet_nil ?_
            intro w4 hw9
            have hb := below_of_regrown hw9
            clear hw9
            clear HQ1 HQ2
            have hB4 : Below wr.heap.size wr w4 := bTrans (Below.refl _ _) hb
            have HD4 := Lib.hid (bTrans HD3.out hB4)
            have HT4 := Lib.hid (HT3.out.mono hB4)
            have HL4 := Lib.hid (HL3.out.mono hB4)
            have HU_a4 := Lib.hid (HU_a3.out.mono hB4)
            have HU_b4 := Lib.hid (HU_b3.out.mono hB4)
            have T4 := Lib.hid (T3.out.mono hB4)
            clear hb hB4 HD3 HT3 HL3 HU_a3 HU_b3 T3 T_0 T_1 T_2 T_3 T_4 T_5 T_6 T_7 T_8 T_l
            obtain ⟨T_0, T_1, T_2, T_3, T_4, T_5, T_6, T_7, T_8, T_l⟩ := T4.out.c9
            obtain ⟨bs, os_, Ar, Af2, Ax, cr, cf2, cx, hA, hbs, _, _, p0, _⟩ := HT4.out.spots.get HA.out
            obtain ⟨bs', os', Ar', Af2', Ax', cr', cf2', cx', hA', _, _, _, q0, _⟩ := HT4.out.spots.get HB.out
            obtain ⟨rfl, rfl⟩ : bs = bs' ∧ os_ = os' := by rw [hA] at hA'; injection hA' with hA'; injection hA' with h1 h2; exact ⟨h1, h2⟩
            rw [HUV.out.1] at p0
            rw [HUV.out.2] at q0
            subst hA
            clear hA'
            go_wp2_with fail
            refine wp_region_quiet_below (by kernel_rfl) (by kernel_rfl) ?_
            repeat (go_big_quiet_step ((go_at_call 58; exact Calls.regrown_of (HDI.out _))))
            refine wpQuiet_nil ?_
            intro w5 hw9
            have hb := below_of_regrown hw9
            clear hw9
            clear p0 q0 hbs HDI
            have hB5 : Below w4.heap.size w4 w5 := bTrans (Below.refl _ _) hb
            have HD5 := Lib.hid (bTrans HD4.out hB5)
            have HT5 := Lib.hid (HT4.out.mono hB5)
            have HL5 := Lib.hid (HL4.out.mono hB5)
            have HU_a5 := Lib.hid (HU_a4.out.mono hB5)
            have HU_b5 := Lib.hid (HU_b4.out.mono hB5)
            have T5 := Lib.hid (T4.out.mono hB5)
            clear hb hB5 HD4 HT4 HL4 HU_a4 HU_b4 T4 T_0 T_1 T_2 T_3 T_4 T_5 T_6 T_7 T_8 T_l
            obtain ⟨T_0, T_1, T_2, T_3, T_4, T_5, T_6, T_7, T_8, T_l⟩ := T5.out.c9
            go_wp2_with fail
            go_roundw
            case rel =>
              first
              | exact ⟨b + 1, by omega, by rw [HNX.out], by rw [HNX.out], by rw [HNX.out], by go_num, by omega, HU_b5.out⟩
              | ((repeat apply Exists.intro)
                 refine ⟨⟨b + 1, by omega, by rw [HNX.out], by rw [HNX.out], by rw [HNX.out], ?_, by omega, HU_b5.out⟩, rfl⟩
                 go_num)
            case measure => simp [intOf]; omega
          have e3 : decide (m + mm < y.least) = false := by simp; omega
          have HNX := Lib.hid (show t.pairIn a (b + 1) x = y by rw [HST.out, e1n, e2, e3]; rfl)
          have HQ1 := Lib.hid (fun (w' : World) (hb : Below wr.heap.size wr w') => (HV1.out ▸ HN.out ▸ wholeOf9_any Aw Af Ao Ap As cw cf co cp cs t A4 c4 a w' HOK.out (HT3.out.mono hb) HSM.out (HN.out.symm ▸ (HL3.out.mono hb)) HA.out : Calls Tryz.prog 108 #[.agg #[.int .i64 t.q.wells, .slice Aw t.q.nw cw, .slice Af t.q.nf cf, .slice Ao t.no co, .slice Ap t.np cp, .slice As t.ns cs, .int .i64 t.far, .int .i64 t.harm, .int .i64 t.many], .slice A4 n c4, .int .i64 (a : Int)] w' fun e w'' => e = .returned (.int .i64 m) ∧ Below w'.heap.size w' w''))
          have HQ2 := Lib.hid (fun (w' : World) (hb : Below wr.heap.size wr w') => (HV2.out ▸ HN.out ▸ wholeOf9_any Aw Af Ao Ap As cw cf co cp cs t A4 c4 b w' HOK.out (HT3.out.mono hb) HSM.out (HN.out.symm ▸ (HL3.out.mono hb)) HB.out : Calls Tryz.prog 108 #[.agg #[.int .i64 t.q.wells, .slice Aw t.q.nw cw, .slice Af t.q.nf cf, .slice Ao t.no co, .slice Ap t.np cp, .slice As t.ns cs, .int .i64 t.far, .int .i64 t.harm, .int .i64 t.many], .slice A4 n c4, .int .i64 (b : Int)] w' fun e w'' => e = .returned (.int .i64 mm) ∧ Below w'.heap.size w' w''))
          go_wp2_with fail
          refine wp_region_quiet_below (by kernel_rfl) (by kernel_rfl) ?_
          repeat (go_big_quiet_step (((first | (go_at_call 108; with_reducible exact Calls.regrown_of (HQ1.out _ (below_regrown _ _ _))) | (go_at_call 108; with_reducible exact Calls.regrown_of (HQ2.out _ (below_regrown _ _ _)))))))
          refine wpQuiet_nil ?_
          intro w4 hw9
          have hb := below_of_regrown hw9
          clear hw9
          clear HQ1 HQ2
          have hB4 : Below wr.heap.size wr w4 := bTrans (Below.refl _ _) hb
          have HD4 := Lib.hid (bTrans HD3.out hB4)
          have HT4 := Lib.hid (HT3.out.mono hB4)
          have HL4 := Lib.hid (HL3.out.mono hB4)
          have HU_a4 := Lib.hid (HU_a3.out.mono hB4)
          have HU_b4 := Lib.hid (HU_b3.out.mono hB4)
          have T4 := Lib.hid (T3.out.mono hB4)
          clear hb hB4 HD3 HT3 HL3 HU_a3 HU_b3 T3 T_0 T_1 T_2 T_3 T_4 T_5 T_6 T_7 T_8 T_l
          obtain ⟨T_0, T_1, T_2, T_3, T_4, T_5, T_6, T_7, T_8, T_l⟩ := T4.out.c9
          obtain ⟨bs, os_, Ar, Af2, Ax, cr, cf2, cx, hA, hbs, _, _, p0, _⟩ := HT4.out.spots.get HA.out
          obtain ⟨bs', os', Ar', Af2', Ax', cr', cf2', cx', hA', _, _, _, q0, _⟩ := HT4.out.spots.get HB.out
          obtain ⟨rfl, rfl⟩ : bs = bs' ∧ os_ = os' := by rw [hA] at hA'; injection hA' with hA'; injection hA' with h1 h2; exact ⟨h1, h2⟩
          rw [HUV.out.1] at p0
          rw [HUV.out.2] at q0
          subst hA
          clear hA'
          go_wp2_with fail
          refine wp_region_quiet_below (by kernel_rfl) (by kernel_rfl) ?_
          repeat (go_big_quiet_step ((go_at_call 58; exact Calls.regrown_of (HDI.out _))))
          refine wpQuiet_nil ?_
          intro w5 hw9
          have hb := below_of_regrown hw9
          clear hw9
          clear p0 q0 hbs HDI
          have hB5 : Below w4.heap.size w4 w5 := bTrans (Below.refl _ _) hb
          have HD5 := Lib.hid (bTrans HD4.out hB5)
          have HT5 := Lib.hid (HT4.out.mono hB5)
          have HL5 := Lib.hid (HL4.out.mono hB5)
          have HU_a5 := Lib.hid (HU_a4.out.mono hB5)
          have HU_b5 := Lib.hid (HU_b4.out.mono hB5)
          have T5 := Lib.hid (T4.out.mono hB5)
          clear hb hB5 HD4 HT4 HL4 HU_a4 HU_b4 T4 T_0 T_1 T_2 T_3 T_4 T_5 T_6 T_7 T_8 T_l
          obtain ⟨T_0, T_1, T_2, T_3, T_4, T_5, T_6, T_7, T_8, T_l⟩ := T5.out.c9
          go_wp2_with fail
          go_roundw
          case rel =>
            first
            | exact ⟨b + 1, by omega, by rw [HNX.out], by rw [HNX.out], by rw [HNX.out], by go_num, by omega, HU_b5.out⟩
            | ((repeat apply Exists.intro)
               refine ⟨⟨b + 1, by omega, by rw [HNX.out], by rw [HNX.out], by rw [HNX.out], ?_, by omega, HU_b5.out⟩, rfl⟩
               go_num)
          case measure => simp [intOf]; omega
        have he_b : b = t.ns := by omega
        have HNA := Lib.hid (show t.pairTo (a + 1) = t.pairIn a b x by rw [he_b, ← HPX.out]; rfl)
        have hk9 : ¬ (b : Int) < (t.ns : Int) := by omega
        have hk8 : ¬ b < t.ns := by omega
        clear he_b
        go_wp2_with fail
        go_roundw
        case rel =>
          first
          | exact ⟨a + 1, by omega, by rw [HNA.out], by rw [HNA.out], by rw [HNA.out], by go_num, HU_a3.out⟩
          | ((repeat apply Exists.intro)
             refine ⟨⟨a + 1, by omega, by rw [HNA.out], by rw [HNA.out], by rw [HNA.out], ?_, HU_a3.out⟩, rfl⟩
             go_num)
        case measure => simp [intOf]; omega
    have he_a : a = t.ns := by omega
    obtain ⟨z, hz⟩ : ∃ z, t.pairTo a = z := ⟨_, rfl⟩
    rw [hz]
    have HR := Lib.hid (show t.pairOut = if z.least < 0 then (0, 0, 3) else (z.one, z.other, 0) by rw [HEZ.out, ← hz, he_a]; rfl)
    have hk9 : ¬ (a : Int) < (t.ns : Int) := by omega
    have hk8 : ¬ a < t.ns := by omega
    clear he_a hz
    by_cases hl : z.least < 0
    case pos =>
      have e2 : decide (z.least < 0) = true := by simpa using hl
      have HR2 := Lib.hid (HR.out.trans (if_pos hl))
      go_wp2_with fail
      go_ret3
      exact ⟨by rw [HR2.out] <;> rfl, HD2.out⟩
    have e2 : decide (z.least < 0) = false := by simp; omega
    have HR2 := Lib.hid (HR.out.trans (if_neg hl))
    go_wp2_with fail
    go_ret3
    exact ⟨by rw [HR2.out] <;> rfl, HD2.out⟩
end Go.Proofs.YtjpfdhhiofjpbaaGreatDoor

namespace Go.Proofs.YtjpfdhhiofjpbaaGreatDoor
open Go.RowKit Go.Sort
set_option maxHeartbeats 16000000 in
set_option maxRecDepth 100000 in
theorem placesWhole_any (Aw Af Ao Ap As : Option Addr) (cw cf co cp cs : Nat) (t : Pt) (n : Int) (w : World) (hs : t.Fits) (hT : PAt w Aw Af Ao Ap As t) (hB : TabAt w) (hN : NoneAt w) :
    Calls Tryz.prog 9 #[.agg #[.int .i64 t.q.wells, .slice Aw t.q.nw cw, .slice Af t.q.nf cf, .slice Ao t.no co, .slice Ap t.np cp, .slice As t.ns cs, .int .i64 t.far, .int .i64 t.harm, .int .i64 t.many], .int .i64 n] w fun e w' => e = .returned (.bool true) ∧ Below w.heap.size w w' := by
  have HD0 := Lib.hid (Below.refl w.heap.size w)
  have HFI := Lib.hid hs
  have HT0 := Lib.hid hT
  have HTB0 := Lib.hid hB
  have HNA0 := Lib.hid hN
  clear hs hT hB hN
  go_enter Tryz.func9, Tryz.ntmps9
  have HSM := Lib.hid HFI.out.small
  go_wp2_with fail
  refine (far9_any Aw Af Ao Ap As cw cf co cp cs t _ HSM.out (HT0.out.mono (bAlloc (Below.refl _ _) (.cells #[.int .i64 t.q.wells, .slice Aw t.q.nw cw, .slice Af t.q.nf cf, .slice Ao t.no co, .slice Ap t.np cp, .slice As t.ns cs, .int .i64 t.far, .int .i64 t.harm, .int .i64 t.many] 29)))).mono ?_
  rintro e w1 ⟨⟨bf, rfl⟩, hb⟩
  have hB1 : Below w.heap.size w w1 := bTrans (bAlloc (Below.refl _ _) (.cells #[.int .i64 t.q.wells, .slice Aw t.q.nw cw, .slice Af t.q.nf cf, .slice Ao t.no co, .slice Ap t.np cp, .slice As t.ns cs, .int .i64 t.far, .int .i64 t.harm, .int .i64 t.many] 29)) hb
  have HD1 := Lib.hid (bTrans HD0.out hB1)
  have HT1 := Lib.hid (HT0.out.mono hB1)
  have HTB1 := Lib.hid (HTB0.out.mono hB1)
  have HNA1 := Lib.hid (HNA0.out.mono hB1)
  have T1 := Lib.hid (show TBox w1 w.heap.size 29 #[.int .i64 t.q.wells, .slice Aw t.q.nw cw, .slice Af t.q.nf cf, .slice Ao t.no co, .slice Ap t.np cp, .slice As t.ns cs, .int .i64 t.far, .int .i64 t.harm, .int .i64 t.many] from by have := ((TBox.new w #[.int .i64 t.q.wells, .slice Aw t.q.nw cw, .slice Af t.q.nf cf, .slice Ao t.no co, .slice Ap t.np cp, .slice As t.ns cs, .int .i64 t.far, .int .i64 t.harm, .int .i64 t.many] 29).mono (Below.refl _ _)).mono hb; simpa using this)
  clear hb hB1 HD0 HT0 HTB0 HNA0
  obtain ⟨T_0, T_1, T_2, T_3, T_4, T_5, T_6, T_7, T_8, T_l⟩ := T1.out.c9
  cases bf
  case true =>
    go_wp2_with fail
    refine (works9_any _ HTB1.out HNA1.out).mono ?_
    rintro e w2 ⟨rfl, hb⟩
    have hB2 : Below w1.heap.size w1 w2 := bTrans (Below.refl _ _) hb
    have HD2 := Lib.hid (bTrans HD1.out hB2)
    have HT2 := Lib.hid (HT1.out.mono hB2)
    have HTB2 := Lib.hid (HTB1.out.mono hB2)
    have HNA2 := Lib.hid (HNA1.out.mono hB2)
    have T2 := Lib.hid (T1.out.mono hB2)
    clear hb hB2 HD1 HT1 HTB1 HNA1 T1 T_0 T_1 T_2 T_3 T_4 T_5 T_6 T_7 T_8 T_l
    obtain ⟨T_0, T_1, T_2, T_3, T_4, T_5, T_6, T_7, T_8, T_l⟩ := T2.out.c9
    go_wp2_with fail
    go_ret
    exact ⟨rfl, HD2.out⟩
  go_wp2_with fail
  refine (copy9_any Aw Af Ao Ap As cw cf co cp cs t _ HFI.out HT1.out).mono ?_
  rintro e w2 ⟨ho, hb⟩
  obtain ⟨_, _, _, _, _, rfl, hc⟩ := ho
  obtain ⟨Bw, dw, Bf, df, Bo, do_, Bp, dp, Bs, ds, rfl, rfl, rfl, rfl, rfl, hU⟩ := hc.pat
  have hB2 : Below w1.heap.size w1 w2 := bTrans (Below.refl _ _) hb
  have HD2 := Lib.hid (bTrans HD1.out hB2)
  have HT2 := Lib.hid (HT1.out.mono hB2)
  have HTB2 := Lib.hid (HTB1.out.mono hB2)
  have HNA2 := Lib.hid (HNA1.out.mono hB2)
  have HU2 := Lib.hid (hU)
  have T2 := Lib.hid (T1.out.mono hB2)
  clear hb hB2 HD1 HT1 HTB1 HNA1 T1 T_0 T_1 T_2 T_3 T_4 T_5 T_6 T_7 T_8 T_l
  obtain ⟨T_0, T_1, T_2, T_3, T_4, T_5, T_6, T_7, T_8, T_l⟩ := T2.out.c9
  clear hc hU
  go_wp2_with fail
  obtain ⟨x1, hx1⟩ : ∃ y, (t.wholeOut n).1 = y := ⟨_, rfl⟩
  obtain ⟨x2, hx2⟩ : ∃ y, (t.wholeOut n).2 = y := ⟨_, rfl⟩
  obtain ⟨y1, hy1⟩ : ∃ y, t.cheapestOut.1 = y := ⟨_, rfl⟩
  obtain ⟨y2, hy2⟩ : ∃ y, t.cheapestOut.2 = y := ⟨_, rfl⟩
  obtain ⟨z1, hz1⟩ : ∃ y, t.pairOut.1 = y := ⟨_, rfl⟩
  obtain ⟨z2, hz2⟩ : ∃ y, t.pairOut.2.1 = y := ⟨_, rfl⟩
  obtain ⟨z3, hz3⟩ : ∃ y, t.pairOut.2.2 = y := ⟨_, rfl⟩
  have HX := Lib.hid (And.intro hx1 hx2)
  have HY := Lib.hid (And.intro hy1 hy2)
  have HZZ := Lib.hid (And.intro hz1 (And.intro hz2 hz3))
  clear hx1 hx2 hy1 hy2 hz1 hz2 hz3
  refine ((by have := wholeP_any Bw Bf Bo Bp Bs dw df do_ dp ds t n (w2.alloc (.cells #[.int .i64 t.q.wells, .slice Bw t.q.nw dw, .slice Bf t.q.nf df, .slice Bo t.no do_, .slice Bp t.np dp, .slice Bs t.ns ds, .int .i64 t.far, .int .i64 t.harm, .int .i64 t.many] 29)) HSM.out (HU2.out.mono (bAlloc (Below.refl _ _) (.cells #[.int .i64 t.q.wells, .slice Bw t.q.nw dw, .slice Bf t.q.nf df, .slice Bo t.no do_, .slice Bp t.np dp, .slice Bs t.ns ds, .int .i64 t.far, .int .i64 t.harm, .int .i64 t.many] 29))) (HTB2.out.mono (bAlloc (Below.refl _ _) (.cells #[.int .i64 t.q.wells, .slice Bw t.q.nw dw, .slice Bf t.q.nf df, .slice Bo t.no do_, .slice Bp t.np dp, .slice Bs t.ns ds, .int .i64 t.far, .int .i64 t.harm, .int .i64 t.many] 29))) (HNA2.out.mono (bAlloc (Below.refl _ _) (.cells #[.int .i64 t.q.wells, .slice Bw t.q.nw dw, .slice Bf t.q.nf df, .slice Bo t.no do_, .slice Bp t.np dp, .slice Bs t.ns ds, .int .i64 t.far, .int .i64 t.harm, .int .i64 t.many] 29))); rw [HX.out.1, HX.out.2] at this; exact this : Calls Tryz.prog 49 #[.agg #[.int .i64 t.q.wells, .slice Bw t.q.nw dw, .slice Bf t.q.nf df, .slice Bo t.no do_, .slice Bp t.np dp, .slice Bs t.ns ds, .int .i64 t.far, .int .i64 t.harm, .int .i64 t.many], .int .i64 n] (w2.alloc (.cells #[.int .i64 t.q.wells, .slice Bw t.q.nw dw, .slice Bf t.q.nf df, .slice Bo t.no do_, .slice Bp t.np dp, .slice Bs t.ns ds, .int .i64 t.far, .int .i64 t.harm, .int .i64 t.many] 29)) fun e w' => e = .returned (.tuple #[.int .i64 x1, .int .i64 x2]) ∧ Below (w2.alloc (.cells #[.int .i64 t.q.wells, .slice Bw t.q.nw dw, .slice Bf t.q.nf df, .slice Bo t.no do_, .slice Bp t.np dp, .slice Bs t.ns ds, .int .i64 t.far, .int .i64 t.harm, .int .i64 t.many] 29)).heap.size (w2.alloc (.cells #[.int .i64 t.q.wells, .slice Bw t.q.nw dw, .slice Bf t.q.nf df, .slice Bo t.no do_, .slice Bp t.np dp, .slice Bs t.ns ds, .int .i64 t.far, .int .i64 t.harm, .int .i64 t.many] 29)) w')).mono ?_
  rintro e w3 ⟨rfl, hb⟩
  have hB3 : Below w2.heap.size w2 w3 := bTrans (bAlloc (Below.refl _ _) (.cells #[.int .i64 t.q.wells, .slice Bw t.q.nw dw, .slice Bf t.q.nf df, .slice Bo t.no do_, .slice Bp t.np dp, .slice Bs t.ns ds, .int .i64 t.far, .int .i64 t.harm, .int .i64 t.many] 29)) hb
  have HD3 := Lib.hid (bTrans HD2.out hB3)
  have HT3 := Lib.hid (HT2.out.mono hB3)
  have HTB3 := Lib.hid (HTB2.out.mono hB3)
  have HNA3 := Lib.hid (HNA2.out.mono hB3)
  have HU3 := Lib.hid (HU2.out.mono hB3)
  have T3 := Lib.hid (T2.out.mono hB3)
  have U3 := Lib.hid (show TBox w3 w2.heap.size 29 #[.int .i64 t.q.wells, .slice Bw t.q.nw dw, .slice Bf t.q.nf df, .slice Bo t.no do_, .slice Bp t.np dp, .slice Bs t.ns ds, .int .i64 t.far, .int .i64 t.harm, .int .i64 t.many] from by have := ((TBox.new w2 #[.int .i64 t.q.wells, .slice Bw t.q.nw dw, .slice Bf t.q.nf df, .slice Bo t.no do_, .slice Bp t.np dp, .slice Bs t.ns ds, .int .i64 t.far, .int .i64 t.harm, .int .i64 t.many] 29).mono (Below.refl _ _)).mono hb; simpa using this)
  clear hb hB3 HD2 HT2 HTB2 HNA2 HU2 T2 T_0 T_1 T_2 T_3 T_4 T_5 T_6 T_7 T_8 T_l
  obtain ⟨T_0, T_1, T_2, T_3, T_4, T_5, T_6, T_7, T_8, T_l⟩ := T3.out.c9
  obtain ⟨U_0, U_1, U_2, U_3, U_4, U_5, U_6, U_7, U_8, U_l⟩ := U3.out.c9
  go_wp2_with fail
  refine ((by have := whole9_any Aw Af Ao Ap As cw cf co cp cs t n w3 HSM.out HT3.out; rw [HX.out.1, HX.out.2] at this; exact this : Calls Tryz.prog 50 #[.agg #[.int .i64 t.q.wells, .slice Aw t.q.nw cw, .slice Af t.q.nf cf, .slice Ao t.no co, .slice Ap t.np cp, .slice As t.ns cs, .int .i64 t.far, .int .i64 t.harm, .int .i64 t.many], .int .i64 n] w3 fun e w' => e = .returned (.tuple #[.int .i64 x1, .int .i64 x2]) ∧ Below w3.heap.size w3 w')).mono ?_
  rintro e w4 ⟨rfl, hb⟩
  have hB4 : Below w3.heap.size w3 w4 := bTrans (Below.refl _ _) hb
  have HD4 := Lib.hid (bTrans HD3.out hB4)
  have HT4 := Lib.hid (HT3.out.mono hB4)
  have HTB4 := Lib.hid (HTB3.out.mono hB4)
  have HNA4 := Lib.hid (HNA3.out.mono hB4)
  have HU4 := Lib.hid (HU3.out.mono hB4)
  have T4 := Lib.hid (T3.out.mono hB4)
  have U4 := Lib.hid (U3.out.mono hB4)
  clear hb hB4 HD3 HT3 HTB3 HNA3 HU3 T3 T_0 T_1 T_2 T_3 T_4 T_5 T_6 T_7 T_8 T_l U3 U_0 U_1 U_2 U_3 U_4 U_5 U_6 U_7 U_8 U_l
  obtain ⟨T_0, T_1, T_2, T_3, T_4, T_5, T_6, T_7, T_8, T_l⟩ := T4.out.c9
  obtain ⟨U_0, U_1, U_2, U_3, U_4, U_5, U_6, U_7, U_8, U_l⟩ := U4.out.c9
  go_wp2_with fail
  refine ((by have := cheapestOutP_any Bw Bf Bo Bp Bs dw df do_ dp ds t w4 HSM.out HU4.out HTB4.out HNA4.out; rw [HY.out.1, HY.out.2] at this; exact this : Calls Tryz.prog 47 #[.agg #[.int .i64 t.q.wells, .slice Bw t.q.nw dw, .slice Bf t.q.nf df, .slice Bo t.no do_, .slice Bp t.np dp, .slice Bs t.ns ds, .int .i64 t.far, .int .i64 t.harm, .int .i64 t.many]] w4 fun e w' => e = .returned (.tuple #[.int .i64 y1, .int .i64 y2]) ∧ Below w4.heap.size w4 w')).mono ?_
  rintro e w5 ⟨rfl, hb⟩
  have hB5 : Below w4.heap.size w4 w5 := bTrans (Below.refl _ _) hb
  have HD5 := Lib.hid (bTrans HD4.out hB5)
  have HT5 := Lib.hid (HT4.out.mono hB5)
  have HTB5 := Lib.hid (HTB4.out.mono hB5)
  have HNA5 := Lib.hid (HNA4.out.mono hB5)
  have HU5 := Lib.hid (HU4.out.mono hB5)
  have T5 := Lib.hid (T4.out.mono hB5)
  have U5 := Lib.hid (U4.out.mono hB5)
  clear hb hB5 HD4 HT4 HTB4 HNA4 HU4 T4 T_0 T_1 T_2 T_3 T_4 T_5 T_6 T_7 T_8 T_l U4 U_0 U_1 U_2 U_3 U_4 U_5 U_6 U_7 U_8 U_l
  obtain ⟨T_0, T_1, T_2, T_3, T_4, T_5, T_6, T_7, T_8, T_l⟩ := T5.out.c9
  obtain ⟨U_0, U_1, U_2, U_3, U_4, U_5, U_6, U_7, U_8, U_l⟩ := U5.out.c9
  go_wp2_with fail
  refine ((by have := cheapest9_any Aw Af Ao Ap As cw cf co cp cs t w5 HSM.out HT5.out; rw [HY.out.1, HY.out.2] at this; exact this : Calls Tryz.prog 51 #[.agg #[.int .i64 t.q.wells, .slice Aw t.q.nw cw, .slice Af t.q.nf cf, .slice Ao t.no co, .slice Ap t.np cp, .slice As t.ns cs, .int .i64 t.far, .int .i64 t.harm, .int .i64 t.many]] w5 fun e w' => e = .returned (.tuple #[.int .i64 y1, .int .i64 y2]) ∧ Below w5.heap.size w5 w')).mono ?_
  rintro e w6 ⟨rfl, hb⟩
  have hB6 : Below w5.heap.size w5 w6 := bTrans (Below.refl _ _) hb
  have HD6 := Lib.hid (bTrans HD5.out hB6)
  have HT6 := Lib.hid (HT5.out.mono hB6)
  have HTB6 := Lib.hid (HTB5.out.mono hB6)
  have HNA6 := Lib.hid (HNA5.out.mono hB6)
  have HU6 := Lib.hid (HU5.out.mono hB6)
  have T6 := Lib.hid (T5.out.mono hB6)
  have U6 := Lib.hid (U5.out.mono hB6)
  clear hb hB6 HD5 HT5 HTB5 HNA5 HU5 T5 T_0 T_1 T_2 T_3 T_4 T_5 T_6 T_7 T_8 T_l U5 U_0 U_1 U_2 U_3 U_4 U_5 U_6 U_7 U_8 U_l
  obtain ⟨T_0, T_1, T_2, T_3, T_4, T_5, T_6, T_7, T_8, T_l⟩ := T6.out.c9
  obtain ⟨U_0, U_1, U_2, U_3, U_4, U_5, U_6, U_7, U_8, U_l⟩ := U6.out.c9
  go_wp2_with fail
  refine ((by have := pairP_any Bw Bf Bo Bp Bs dw df do_ dp ds t w6 HSM.out HU6.out HTB6.out HNA6.out; rw [HZZ.out.1, HZZ.out.2.1, HZZ.out.2.2] at this; exact this : Calls Tryz.prog 48 #[.agg #[.int .i64 t.q.wells, .slice Bw t.q.nw dw, .slice Bf t.q.nf df, .slice Bo t.no do_, .slice Bp t.np dp, .slice Bs t.ns ds, .int .i64 t.far, .int .i64 t.harm, .int .i64 t.many]] w6 fun e w' => e = .returned (.tuple #[.int .i64 z1, .int .i64 z2, .int .i64 z3]) ∧ Below w6.heap.size w6 w')).mono ?_
  rintro e w7 ⟨rfl, hb⟩
  have hB7 : Below w6.heap.size w6 w7 := bTrans (Below.refl _ _) hb
  have HD7 := Lib.hid (bTrans HD6.out hB7)
  have HT7 := Lib.hid (HT6.out.mono hB7)
  have HTB7 := Lib.hid (HTB6.out.mono hB7)
  have HNA7 := Lib.hid (HNA6.out.mono hB7)
  have HU7 := Lib.hid (HU6.out.mono hB7)
  have T7 := Lib.hid (T6.out.mono hB7)
  have U7 := Lib.hid (U6.out.mono hB7)
  clear hb hB7 HD6 HT6 HTB6 HNA6 HU6 T6 T_0 T_1 T_2 T_3 T_4 T_5 T_6 T_7 T_8 T_l U6 U_0 U_1 U_2 U_3 U_4 U_5 U_6 U_7 U_8 U_l
  obtain ⟨T_0, T_1, T_2, T_3, T_4, T_5, T_6, T_7, T_8, T_l⟩ := T7.out.c9
  obtain ⟨U_0, U_1, U_2, U_3, U_4, U_5, U_6, U_7, U_8, U_l⟩ := U7.out.c9
  go_wp2_with fail
  refine ((by have := pair9_any Aw Af Ao Ap As cw cf co cp cs t w7 HSM.out HT7.out; rw [HZZ.out.1, HZZ.out.2.1, HZZ.out.2.2] at this; exact this : Calls Tryz.prog 52 #[.agg #[.int .i64 t.q.wells, .slice Aw t.q.nw cw, .slice Af t.q.nf cf, .slice Ao t.no co, .slice Ap t.np cp, .slice As t.ns cs, .int .i64 t.far, .int .i64 t.harm, .int .i64 t.many]] w7 fun e w' => e = .returned (.tuple #[.int .i64 z1, .int .i64 z2, .int .i64 z3]) ∧ Below w7.heap.size w7 w')).mono ?_
  rintro e w8 ⟨rfl, hb⟩
  have hB8 : Below w7.heap.size w7 w8 := bTrans (Below.refl _ _) hb
  have HD8 := Lib.hid (bTrans HD7.out hB8)
  have HT8 := Lib.hid (HT7.out.mono hB8)
  have HTB8 := Lib.hid (HTB7.out.mono hB8)
  have HNA8 := Lib.hid (HNA7.out.mono hB8)
  have HU8 := Lib.hid (HU7.out.mono hB8)
  have T8 := Lib.hid (T7.out.mono hB8)
  have U8 := Lib.hid (U7.out.mono hB8)
  clear hb hB8 HD7 HT7 HTB7 HNA7 HU7 T7 T_0 T_1 T_2 T_3 T_4 T_5 T_6 T_7 T_8 T_l U7 U_0 U_1 U_2 U_3 U_4 U_5 U_6 U_7 U_8 U_l
  obtain ⟨T_0, T_1, T_2, T_3, T_4, T_5, T_6, T_7, T_8, T_l⟩ := T8.out.c9
  obtain ⟨U_0, U_1, U_2, U_3, U_4, U_5, U_6, U_7, U_8, U_l⟩ := U8.out.c9
  go_wp2_with fail
  refine (same9_any Bw Bf Bo Bp Bs dw df do_ dp ds t Aw Af Ao Ap As cw cf co cp cs _ HSM.out HU8.out HT8.out).mono ?_
  rintro e w9 ⟨rfl, hb⟩
  have hB9 : Below w8.heap.size w8 w9 := bTrans (Below.refl _ _) hb
  have HD9 := Lib.hid (bTrans HD8.out hB9)
  have HT9 := Lib.hid (HT8.out.mono hB9)
  have HTB9 := Lib.hid (HTB8.out.mono hB9)
  have HNA9 := Lib.hid (HNA8.out.mono hB9)
  have HU9 := Lib.hid (HU8.out.mono hB9)
  have T9 := Lib.hid (T8.out.mono hB9)
  have U9 := Lib.hid (U8.out.mono hB9)
  clear hb hB9 HD8 HT8 HTB8 HNA8 HU8 T8 T_0 T_1 T_2 T_3 T_4 T_5 T_6 T_7 T_8 T_l U8 U_0 U_1 U_2 U_3 U_4 U_5 U_6 U_7 U_8 U_l
  obtain ⟨T_0, T_1, T_2, T_3, T_4, T_5, T_6, T_7, T_8, T_l⟩ := T9.out.c9
  obtain ⟨U_0, U_1, U_2, U_3, U_4, U_5, U_6, U_7, U_8, U_l⟩ := U9.out.c9
  go_wp2_with fail
  refine (works9_any _ HTB9.out HNA9.out).mono ?_
  rintro e w10 ⟨rfl, hb⟩
  have hB10 : Below w9.heap.size w9 w10 := bTrans (Below.refl _ _) hb
  have HD10 := Lib.hid (bTrans HD9.out hB10)
  have HT10 := Lib.hid (HT9.out.mono hB10)
  have HTB10 := Lib.hid (HTB9.out.mono hB10)
  have HNA10 := Lib.hid (HNA9.out.mono hB10)
  have HU10 := Lib.hid (HU9.out.mono hB10)
  have T10 := Lib.hid (T9.out.mono hB10)
  have U10 := Lib.hid (U9.out.mono hB10)
  clear hb hB10 HD9 HT9 HTB9 HNA9 HU9 T9 T_0 T_1 T_2 T_3 T_4 T_5 T_6 T_7 T_8 T_l U9 U_0 U_1 U_2 U_3 U_4 U_5 U_6 U_7 U_8 U_l
  obtain ⟨T_0, T_1, T_2, T_3, T_4, T_5, T_6, T_7, T_8, T_l⟩ := T10.out.c9
  obtain ⟨U_0, U_1, U_2, U_3, U_4, U_5, U_6, U_7, U_8, U_l⟩ := U10.out.c9
  go_wp2_with fail
  go_ret
  exact ⟨rfl, HD10.out⟩
end Go.Proofs.YtjpfdhhiofjpbaaGreatDoor

