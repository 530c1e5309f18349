/- Parts joined: what all claims of this seat need. -/
import Derived.Test.YtifkjnmnflhnoaaGreatDoorNBK
set_option linter.unusedSimpArgs false
set_option linter.unusedVariables false
namespace Go.Proofs.YtifkjnmnflhnoaaGreatDoor
open Go.RowKit Go.Sort
attribute [local go_sem] Oper.semAt_some
set_option maxHeartbeats 4000000 in
set_option maxRecDepth 100000 in
theorem from_leaf (w0 : World) (b : Bk) (l fb yb ff B0 ny : Nat) (J : List Mt → World → Prop) (hY : MYield w0 B0 ny l J) (x : Mt) (u : Nat) (pre : List Mt) (W : World) (hE : MEnv w0 b l fb yb ff W) (hx : MAt W x) (hc : pre.length < 100000) (h0 : J pre W) :
    Calls Tryz.prog 79 #[.slice x.a x.l.length x.c, .int .i64 (b.n1 : Int), .int .u64 (u : Int), .pointer (some ⟨fb, 0, none⟩), .pointer (some ⟨yb, 0, none⟩), .pointer (some ⟨ff, 0, none⟩)] W fun e W' => FromOut w0 J pre [x.l] W W' e := by
  obtain ⟨B_0, B_1, B_2, B_3, B_4, B_5, B_l⟩ := hE.books.c6
  obtain ⟨Y_0, Y_l⟩ := hE.yield.c1
  have HY := Lib.hid (yieldAt_wide (m' := 1) (hY pre x W hc h0 hx))
  have g0 : ((b.n1 : Int) == (b.n1 : Int)) = true := by simp
  clear hE hx h0 hY
  refine (callsIn_wide (n := 2)).1 ?_
  refine callsIn_of_wp Tryz.func79 rfl trivial ?_ rfl
  simp only [Tryz.ntmps79, List.size_toArray, List.length_cons, List.length_nil, Nat.reduceAdd, Nat.reduceSub, Array.replicate_succ, Array.replicate_zero, List.push_toArray, List.append_toArray, List.nil_append, List.cons_append]
  obtain ⟨fn, tmps, assign, body, hy, hR⟩ := HY.out
  unfold encM at hy
  gi_wp2
  refine hR.mono ?_
  rintro e W3 ⟨rfl, hJ3, hk3, hkf⟩
  have HJ3 := Lib.hid hJ3
  have HK3 := Lib.hid hk3
  clear hJ3 hk3 hkf hy
  gi_wp2
  go_ret
  exact ⟨rfl, ⟨[x], rfl, HJ3.out⟩, HK3.out⟩
set_option maxHeartbeats 16000000 in
set_option maxRecDepth 100000 in
theorem from_any (w0 : World) (b : Bk) (l fb yb ff B0 ny : Nat) (J : List Mt → World → Prop) (ok : b.Ok) (hT : BkAt w0 b) (hJ : OwnFrom B0 J) (hY : MYield w0 B0 ny l J) :
    ∀ (left : Nat) (x : Mt) (one u : Nat) (pre : List Mt) (W : World), one + left = b.n1 → u < 32 → x.l.length ≤ one → MEnv w0 b l fb yb ff W → MAt W x → J pre W → pre.length + (matL (okB b) b.n2 left one u x.l).length ≤ 100000 →
    Calls Tryz.prog 79 #[.slice x.a x.l.length x.c, .int .i64 (one : Int), .int .u64 (u : Int), .pointer (some ⟨fb, 0, none⟩), .pointer (some ⟨yb, 0, none⟩), .pointer (some ⟨ff, 0, none⟩)] W fun e W' => FromOut w0 J pre (matL (okB b) b.n2 left one u x.l) W W' e
  | 0, x, one, u, pre, W, hone, hu, hlen, hE, hx, h0, hcnt => by
    obtain rfl : b.n1 = one := by omega
    exact from_leaf w0 b l fb yb ff B0 ny J hY x u pre W hE hx (by have e : (matL (okB b) b.n2 0 b.n1 u x.l).length = 1 := rfl; omega) h0
  | left + 1, x, one, u, pre, W, hone, hu, hlen, hE, hx, h0, hcnt => by
    have HCNT := Lib.hid hcnt
    have IH := Lib.hid (from_any w0 b l fb yb ff B0 ny J ok hT hJ hY left)
    have HOK := Lib.hid ok
    have HJ := Lib.hid hJ
    have HT := Lib.hid hT
    have HONE := Lib.hid hone
    have HU := Lib.hid hu
    have HLEN := Lib.hid hlen
    have HE := Lib.hid hE
    have HX := Lib.hid hx
    have HN1 := Lib.hid (show one ≤ 5 by have := ok.n1; omega)
    have g0 : ((one : Int) == (b.n1 : Int)) = false := by simp; omega
    have g1 : ¬ (one : Int) = (b.n1 : Int) := by omega
    have e1 : IntKind.i64.wrap ((one : Int) + 1) = ((one + 1 : Nat) : Int) := IntWalk.i64_in _ (by have := ok.n1; omega)
    have HC0 := Lib.hid (IH.out x (one + 1) u pre W (by omega) hu (by omega) hE hx h0 (by
      have h := matTo_len (ok := okB b) (n2 := b.n2) (left := left) (one := one) (u := u) (m := x.l) (Nat.zero_le b.n2)
      rw [matTo_zero] at h
      have h2 : (matTo (okB b) b.n2 left one u x.l b.n2).length = (matL (okB b) b.n2 (left + 1) one u x.l).length := rfl
      omega))
    obtain ⟨B_0, B_1, B_2, B_3, B_4, B_5, B_l⟩ := hE.books.c6
    obtain ⟨S_0, S_l⟩ := hE.self.c1
    clear ok hT hJ hY hone hu hlen hE hx h0 hcnt
    obtain ⟨n, hn⟩ : ∃ n, x.l.length = n := ⟨_, rfl⟩
    rw [hn] at HC0 ⊢
    have HN := Lib.hid hn
    clear hn
    go_enter Tryz.func79, Tryz.ntmps79
    go_wp2_with fail
    refine HC0.out.mono ?_
    rintro e w1 ⟨rfl, ⟨xs1, hxs1, hj1⟩, hk1⟩
    have HK1 := Lib.hid hk1
    have HJ1 := Lib.hid hj1
    have HXS1 := Lib.hid hxs1
    have HE1 := Lib.hid (HE.out.kp hk1)
    clear hk1 hj1 hxs1 B_0 B_1 B_2 B_3 B_4 B_5 B_l S_0 S_l
    obtain ⟨B_0, B_1, B_2, B_3, B_4, B_5, B_l⟩ := HE1.out.books.c6
    go_wp2_with fail
    clear B_0 B_1 B_2 B_3 B_4 B_5 B_l
    go_loopw [32] (fun s wr => ∃ (k : Nat) (xs : List Mt), k ≤ b.n2 ∧ s = .int .i64 (k : Int) ∧ xs.map Mt.l = matTo (okB b) b.n2 left one u x.l k ∧ J (pre ++ xs) wr ∧ KpM w0.heap.size W wr) (fun s _ => b.n2 - (intOf s).toNat)
    case atStart => exact ⟨0, xs1, Nat.zero_le _, rfl, by rw [matTo_zero]; exact HXS1.out, HJ1.out, HK1.out⟩
    case round =>
      obtain ⟨k, xs, hk, rfl, hxs, hj, hkp⟩ := hrel
      have HXS := Lib.hid hxs
      have HJK := Lib.hid hj
      have HKP := Lib.hid hkp
      have HEK := Lib.hid (HE.out.kp hkp)
      have k0 : (0 : Int) ≤ (k : Int) := by omega
      clear hxs hj hkp
      by_cases hlt : k < b.n2
      case pos =>
        have HLT := Lib.hid hlt
        have HK5 := Lib.hid (show k < 5 by have := HOK.out.n2; omega)
        have k1 : (k : Int) < (b.n2 : Int) := by omega
        obtain ⟨q, o, ha2, hl2, d0, d1, d2⟩ := (HT.out.mono HEK.out.below).others.get hlt
        obtain ⟨B_0, B_1, B_2, B_3, B_4, B_5, B_l⟩ := HEK.out.books.c6
        have HBT := Lib.hid (bit_fin ⟨u, HU.out⟩ ⟨k, HK5.out⟩)
        have ekn : IntKind.i64.wrap ((k : Int) + 1) = ((k + 1 : Nat) : Int) := IntWalk.i64_in _ (by have := HK5.out; omega)
        obtain ⟨bt, hbt⟩ : ∃ bt, bitU u k = bt := ⟨_, rfl⟩
        have hq : (bits BinOp.and IntKind.u64 ((u : Int) / 2 ^ min k 64) 1 == 1) = bt := HBT.out.trans hbt
        have HBT := Lib.hid hbt
        clear hbt
        cases bt
        case true =>
          go_wp2_with fail
          go_roundw
          case rel => exact ⟨k + 1, xs, HLT.out, by go_num, by rw [matTo_succ, HBT.out, HXS.out]; simp, HJ.out _ _ _ none HJK.out (grown_below (bAlloc (Below.refl _ _) _)) (fun r e => by cases e), HKP.out.trans (KpM.of_below (bAlloc (Below.refl _ _) _) HEK.out.below.size)⟩
          case measure => have := HLT.out; simp [intOf]; omega
        case false =>
          obtain ⟨q1, o1, ha1, hl1, c0, c1, c2⟩ := (HT.out.mono HEK.out.below).ones.get (show one < b.n1 by have := HONE.out; omega)
          have o0 : (0 : Int) ≤ (one : Int) := by omega
          have o9 : (one : Int) < (b.n1 : Int) := by have := HONE.out; omega
          have HSP1 := Lib.hid ((HT.out.mono HEK.out.below).ones.sp (show one < b.n1 by have := HONE.out; omega))
          have HSP2 := Lib.hid ((HT.out.mono HEK.out.below).others.sp HLT.out)
          go_wp2_with fail
          have HCO := Lib.hid (fun (w' : World) (hb : Below (wr.alloc (.cells #[.int .i64 (b.e2 k).day, .int .i64 (b.e2 k).who, .slice (b.e2 k).ca b.pl (b.e2 k).cc] 48)).heap.size (wr.alloc (.cells #[.int .i64 (b.e2 k).day, .int .i64 (b.e2 k).who, .slice (b.e2 k).ca b.pl (b.e2 k).cc] 48)) w') => common_any b.pl b.late (b.e1 one) (b.e2 k) w' HOK.out.pl.2 (HOK.out.e1 one (by have := HONE.out; omega)).day (HOK.out.e2 k HLT.out).day (HSP1.out.mono (bTrans (bAlloc (Below.refl _ _) _) hb)) (HSP2.out.mono (bTrans (bAlloc (Below.refl _ _) _) hb)))
          refine wp_region_call 8 (fun v w2 => CmOut w2 b.pl b.late (b.e1 one) (b.e2 k) v ∧ Below (wr.alloc (.cells #[.int .i64 (b.e2 k).day, .int .i64 (b.e2 k).who, .slice (b.e2 k).ca b.pl (b.e2 k).cc] 48)).heap.size (wr.alloc (.cells #[.int .i64 (b.e2 k).day, .int .i64 (b.e2 k).who, .slice (b.e2 k).ca b.pl (b.e2 k).cc] 48)) w2) (by kernel_rfl) (by decide +kernel) rfl ?_
          apply Exists.intro
          refine ⟨fun K hK => ?_, ?_, fun w1 hb1 K Q' hK => ?_, ?_⟩
          · skip
            repeat (first | (refine wpCalm_skip rfl ?_) | (refine wpCalm_step rfl (fun K hK => ?_); go_simp; (first | (refine hK _ ?_; clear hK K) | (apply Exists.intro; refine ⟨fun _ => ?_, hK _ ?_⟩; (fail); clear hK K))))
            refine wpCalm_nil ?_
            exact hK
          · rfl
          · go_simp
            refine (HCO.out w1 hb1).mono ?_
            rintro e w2 ⟨⟨v, rfl, ho⟩, hb2⟩
            exact hK v w2 ⟨ho, bTrans hb1 hb2⟩
          clear HCO
          rintro v w2 ⟨⟨A, c, rfl, hsp⟩, hb2⟩
          apply Exists.intro
          refine ⟨fun K hK => ?_, fun w3 hb3 => ?_⟩
          · skip
            repeat (first | (refine wpCalm_skip rfl ?_) | (refine wpCalm_step rfl (fun K hK => ?_); go_simp; (first | (refine hK _ ?_; clear hK K) | (apply Exists.intro; refine ⟨fun _ => ?_, hK _ ?_⟩; (fail); clear hK K))))
            refine wpCalm_nil ?_
            exact hK
          have hb := bTrans (bAlloc (Below.refl wr.heap.size wr) (.cells #[.int .i64 (b.e2 k).day, .int .i64 (b.e2 k).who, .slice (b.e2 k).ca b.pl (b.e2 k).cc] 48)) (bTrans hb2 hb3)
          have HB3 := Lib.hid hb
          have HE3 := Lib.hid (HEK.out.kp (KpM.of_below hb HEK.out.below.size))
          have HA1 := Lib.hid ha1
          have HA2 := Lib.hid ha2
          clear hb2 hb3 hsp c0 c1 c2 d0 d1 d2 ha1 ha2 hl1 hl2 hb B_0 B_1 B_2 B_3 B_4 B_5 B_l
          obtain ⟨is, his⟩ : ∃ is, comB b.late (b.e1 one) (b.e2 k) b.pl = is := ⟨_, rfl⟩
          have HIS := Lib.hid (show okB b one k = is from his)
          rw [his]
          clear his
          obtain ⟨S_0, S_l⟩ := HE3.out.self.c1
          cases is
          case false =>
            go_wp2_with fail
            refine wp_region_quiet_below (by kernel_rfl) (by kernel_rfl) ?_
            repeat (go_big_quiet_step ((fail)))
            refine wpQuiet_nil ?_
            intro w4 hw9
            have hb4 := below_of_regrown hw9
            clear hw9
            have HB4 := Lib.hid (bTrans HB3.out hb4)
            clear hb4
            go_wp2_with fail
            go_roundw
            case rel =>
              rw [HA1.out, HA2.out]
              (repeat apply Exists.intro)
              refine ⟨⟨k + 1, xs, HLT.out, ?_, by rw [matTo_succ, HBT.out, HIS.out, HXS.out]; simp, HJ.out _ _ _ none HJK.out (grown_below HB4.out) (fun r e => by cases e), HKP.out.trans (KpM.of_below HB4.out HEK.out.below.size)⟩, rfl⟩
              go_num
            case measure => have := HLT.out; simp [intOf]; omega
          case true =>
            have HX3 := Lib.hid ((HX.out.kp HKP.out).kp (KpM.of_below HB3.out HEK.out.below.size))
            have hcap := HX3.out.cap
            rw [HN.out] at hcap
            have n1 : (n : Int) ≤ (x.c : Int) := by omega
            have n0 : (0 : Int) ≤ (n : Int) := by omega
            have hor := or_fin ⟨u, HU.out⟩ ⟨k, HK5.out⟩ HBT.out
            have hsh := shl_fin ⟨k, HK5.out⟩
            simp only at hor hsh
            obtain ⟨z, hz⟩ : ∃ z, 2 ^ k = z := ⟨_, rfl⟩
            have HZ := Lib.hid hz
            rw [hz] at hor hsh
            obtain ⟨uz, huz⟩ : ∃ uz, u + z = uz := ⟨_, rfl⟩
            have HUZ := Lib.hid huz
            rw [huz] at hor
            obtain ⟨hor, hu2⟩ := hor
            have HU2 := Lib.hid hu2
            clear hz hu2 huz
            go_wp2_with fail
            refine wp_region_stir 20 [.const (.bool true), .const (.bool true), .const (.func (.func 79) #[] #[.pointer (some ⟨fb, 0, none⟩), .pointer (some ⟨yb, 0, none⟩), .pointer (some ⟨ff, 0, none⟩)]), .const (.slice x.a n x.c), .const (.slice x.a n x.c), .const (.int .i64 (n : Int)), .const (.slice x.a n x.c), .const (.int .i64 (n : Int)), .const (.slice x.a n n), .const (.int .i64 (one : Int)), .const (.int .i64 (k : Int)), .const (.agg #[.int .i64 (one : Int), .int .i64 (k : Int)]), .held (slS 1) (slR 1 [.int .i64 (one : Int), .int .i64 (k : Int)]), .held (ShapeOf (n + 1)) (fun w v => OwnE fpE w 0 v (x.l ++ [(one, k)])), .const (.int .i64 (one : Int)), .const (.int .i64 ((one + 1 : Nat) : Int)), .const (.int .u64 (u : Int)), .const (.int .i64 (k : Int)), .const (.int .u64 (z : Int)), .const (.int .u64 (uz : Int))] (by kernel_rfl) (by kernel_rfl) rfl ⟨trivial, trivial, trivial, trivial, trivial, trivial, trivial, trivial, trivial, trivial, trivial, trivial, slG, ⟨⟨_, 0, 0, rfl⟩, fun _ _ _ hb h => OwnE.mono h hb⟩, trivial, trivial, trivial, trivial, trivial, trivial, trivial⟩ (crossAll_no _ _ _ _ trivial) ?_
            refine wpStir_constG (by kernel_rfl) (fun w' hb' => by go_simp) ?_
            refine wpStir_constG (by kernel_rfl) (fun w' hb' => by go_simp) ?_
            simp only [Act.put, List.setIfInBounds_toArray, List.set_cons_succ, List.set_cons_zero]
            refine wpStir_constG (by kernel_rfl) (fun w' hb' => by
              obtain ⟨t0, tl⟩ := (HE3.out.self.mono hb').c1
              go_simp) ?_
            clear S_0 S_l
            iterate 9
              simp only [Act.put, List.setIfInBounds_toArray, List.set_cons_succ, List.set_cons_zero]
              refine wpStir_constG (by kernel_rfl) (fun w' hb' => by go_simp) ?_
            simp only [Act.put, List.setIfInBounds_toArray, List.set_cons_succ, List.set_cons_zero]
            refine wpStir_heldG (by kernel_rfl) (fun w' hb' hd => ?_) (fun v' hv' => ?_)
            · clear hd
              go_simp
              exact ⟨bAlloc (Below.refl _ _) _, ⟨_, rfl⟩, slR_new 1 w' #[.int .i64 (one : Int), .int .i64 (k : Int)] 89⟩
            obtain ⟨b1, rfl⟩ := hv'
            simp only [Act.put, List.setIfInBounds_toArray, List.set_cons_succ, List.set_cons_zero]
            refine wpStir_heldG (by kernel_rfl) (fun w' hb' hd => ?_) (fun v' hv' => ?_)
            · have h1 := hd.1 (by kernel_rfl) b1 rfl
              clear hd
              rw [show ShapeOf (n + 1) = ShapeOf (x.l.length + 1) by rw [HN.out]]
              refine stir_full fpG w' (Operand.tmp 62) (Operand.tmp 66) rfl x.a x.l (one, k) ?_ HX3.out.nil (HX3.out.row.mono hb').row b1 rfl h1.2 (by rw [HN.out]; have := HLEN.out; rw [HN.out] at this; have := HN1.out; omega) 0 (Nat.zero_le _)
              rw [HN.out]
              rfl
            obtain ⟨g', c', rfl⟩ := hv'
            iterate 6
              simp only [Act.put, List.setIfInBounds_toArray, List.set_cons_succ, List.set_cons_zero]
              refine wpStir_constG (by kernel_rfl) (fun w' hb' => by go_simp) ?_
            refine wpStir_end (fun w5 hb5 hd => ?_)
            have HOW := Lib.hid (hd.1)
            clear hd
            simp only [List.drop_succ_cons, List.drop_zero]
            simp only [Act.put, List.setIfInBounds_toArray, List.set_cons_succ, List.set_cons_zero]
            have HB5 := Lib.hid (bTrans HB3.out hb5)
            clear hb5
            obtain ⟨g2, c2, e2, hma⟩ := HOW.out.mat (by simp)
            simp only [Value.slice.injEq, Option.some.injEq, Addr.mk.injEq, and_true] at e2
            obtain ⟨rfl, _, rfl⟩ := e2
            have HKP5 := Lib.hid (HKP.out.trans (KpM.of_below HB5.out HEK.out.below.size))
            have HIH := Lib.hid (show Calls Tryz.prog 79 #[.slice (some ⟨g', 0, none⟩) (n + 1) c', .int .i64 ((one + 1 : Nat) : Int), .int .u64 (uz : Int), .pointer (some ⟨fb, 0, none⟩), .pointer (some ⟨yb, 0, none⟩), .pointer (some ⟨ff, 0, none⟩)] w5 fun e W' => FromOut w0 J (pre ++ xs) (matL (okB b) b.n2 left (one + 1) uz (x.l ++ [(one, k)])) w5 W' e from by
              have h := IH.out ⟨some ⟨g', 0, none⟩, c', x.l ++ [(one, k)]⟩ (one + 1) uz (pre ++ xs) w5 (by have := HONE.out; omega) HU2.out (by have := HLEN.out; simp; omega) (HE.out.kp HKP5.out) hma (HJ.out _ _ _ none HJK.out (grown_below HB5.out) (fun r e => by cases e)) (by
                have h1 := matTo_count (ok := okB b) (n2 := b.n2) (left := left) (one := one) (u := u) (m := x.l) HLT.out HBT.out HIS.out
                have h2 := congrArg List.length HXS.out
                rw [HZ.out, HUZ.out] at h1
                rw [List.length_map] at h2
                have h3 := HCNT.out
                rw [List.length_append]
                show pre.length + xs.length + (matL (okB b) b.n2 left (one + 1) uz (x.l ++ [(one, k)])).length ≤ 100000
                omega)
              have e9 : (x.l ++ [(one, k)]).length = n + 1 := by rw [List.length_append, HN.out]; rfl
              simp only [e9] at h
              exact h)
            clear hma
            refine wpList_enter (by kernel_rfl) (by go_simp) HIH.out ?_
            rintro e w6 ⟨rfl, ⟨xs2, hxs2, hj6⟩, hk6⟩
            have HK6 := Lib.hid (HKP5.out.trans hk6)
            have HXS2 := Lib.hid hxs2
            have HJ6 := Lib.hid hj6
            clear hxs2 hj6 hk6
            refine ⟨_, rfl, ?_⟩
            simp only [Act.put, List.setIfInBounds_toArray, List.set_cons_succ, List.set_cons_zero]
            go_wp2_with fail
            go_roundw
            case rel =>
              rw [HA1.out, HA2.out]
              refine ⟨_, _, _, _, _, _, ⟨k + 1, HLT.out, ?_, xs ++ xs2, ?_, ?_, HK6.out⟩, rfl, rfl, rfl, rfl, rfl, rfl, rfl, rfl⟩
              · go_num
              · rw [List.map_append, HXS.out, HXS2.out, matTo_succ, HBT.out, HIS.out, HZ.out, HUZ.out]
                simp
              · rw [← List.append_assoc]
                exact HJ6.out
            case measure => have := HLT.out; simp [intOf]; omega
      case neg =>
        obtain rfl : k = b.n2 := by omega
        go_wp2_with fail
        go_ret
        exact ⟨rfl, ⟨xs, HXS.out, HJK.out⟩, HKP.out⟩
end Go.Proofs.YtifkjnmnflhnoaaGreatDoor

namespace Go.Proofs.YtifkjnmnflhnoaaGreatDoor
open Go.RowKit Go.Sort
attribute [local go_sem] Oper.semAt_some
set_option maxHeartbeats 4000000 in
set_option maxRecDepth 100000 in
theorem matchings_any (b : Bk) (w : World) :
    Calls Tryz.prog 59 #[.agg #[.int .i64 b.base, .int .i64 (b.pl : Int), .int .i64 b.pers, .int .i64 b.late, .slice b.a1 b.n1 b.c1, .slice b.a2 b.n2 b.c2]] w fun e w' => (e = .returned (.func (.func 78) #[] #[.pointer (some ⟨w.heap.size, 0, none⟩)]) ∧ TBox w' w.heap.size 41 #[.int .i64 b.base, .int .i64 (b.pl : Int), .int .i64 b.pers, .int .i64 b.late, .slice b.a1 b.n1 b.c1, .slice b.a2 b.n2 b.c2]) ∧ Below w.heap.size w w' := by
  have HB := Lib.hid (TBox.new w #[.int .i64 b.base, .int .i64 (b.pl : Int), .int .i64 b.pers, .int .i64 b.late, .slice b.a1 b.n1 b.c1, .slice b.a2 b.n2 b.c2] 41)
  have HD0 := Lib.hid (Below.refl w.heap.size w)
  go_enter Tryz.func59, Tryz.ntmps59
  go_wp2_with fail
  go_ret
  exact ⟨⟨rfl, HB.out⟩, (bTrans HD0.out (bAlloc (Below.refl _ _) (.cells #[.int .i64 b.base, .int .i64 (b.pl : Int), .int .i64 b.pers, .int .i64 b.late, .slice b.a1 b.n1 b.c1, .slice b.a2 b.n2 b.c2] 41)))⟩
set_option maxHeartbeats 4000000 in
set_option maxRecDepth 100000 in
theorem match_seq (n fb : Nat) (b : Bk) (w0 w : World) (ok : b.Ok) (hT : BkAt w0 b) (hb0 : Below w0.heap.size w0 w) (hf : TBox w fb 41 #[.int .i64 b.base, .int .i64 (b.pl : Int), .int .i64 b.pers, .int .i64 b.late, .slice b.a1 b.n1 b.c1, .slice b.a2 b.n2 b.c2]) :
    SeqM Fence.wide n Tryz.prog 78 #[] #[.pointer (some ⟨fb, 0, none⟩)] encM (KpM w0.heap.size) (fun xs => xs.map Mt.l = matL (okB b) b.n2 b.n1 0 0 []) (fun pre x W => pre.length < 100000 ∧ MAt W x) w := by
  intro l J W hW hJ hY h0
  refine callsIn_wide.2 ?_
  rw [show (#[] ++ #[.func (.yield l) #[] #[]] ++ #[.pointer (some ⟨fb, 0, none⟩)] : Array Value) = #[.func (.yield l) #[] #[], .pointer (some ⟨fb, 0, none⟩)] from by simp]
  have hA : Below W.heap.size W ((W.alloc (.cells #[.func (.yield l) #[] #[]] 132)).alloc (.cells #[.func (.func 79) #[] #[.pointer (some ⟨fb, 0, none⟩), .pointer (some ⟨W.heap.size, 0, none⟩), .pointer (some ⟨W.heap.size + 1, 0, none⟩)]] 133)) := bAlloc (bAlloc (Below.refl _ _) _) _
  have HE := Lib.hid (show MEnv w0 b l fb W.heap.size (W.heap.size + 1) ((W.alloc (.cells #[.func (.yield l) #[] #[]] 132)).alloc (.cells #[.func (.func 79) #[] #[.pointer (some ⟨fb, 0, none⟩), .pointer (some ⟨W.heap.size, 0, none⟩), .pointer (some ⟨W.heap.size + 1, 0, none⟩)]] 133)) from
    ⟨bTrans hb0 (bTrans hW hA), (hf.mono hW).mono hA, (TBox.new W _ _).mono (bAlloc (Below.refl _ _) _), by have h := TBox.new (W.alloc (.cells #[.func (.yield l) #[] #[]] 132)) #[.func (.func 79) #[] #[.pointer (some ⟨fb, 0, none⟩), .pointer (some ⟨W.heap.size, 0, none⟩), .pointer (some ⟨W.heap.size + 1, 0, none⟩)]] 133; rw [World.size_alloc] at h; exact h⟩)
  have HC := Lib.hid (from_any w0 b l fb W.heap.size (W.heap.size + 1) W.heap.size (n - 1) J ok hT hJ (fun pre x W1 h0 h1 h2 => hY pre x W1 h1 ⟨h0, h2⟩) b.n1 ⟨none, 0, []⟩ 0 0 [] _ (by omega) (by omega) (Nat.le_refl _) HE.out ⟨fun _ => rfl, .inl rfl, Nat.le_refl _, by decide⟩ (hJ _ _ _ none h0 (grown_below hA) (fun r e => by cases e)) (by
    have h := matL_bd (okB b) b.n2 b.n1 0 0 []
    have h2 : (b.n2 + 1) ^ b.n1 ≤ 6 ^ 5 := Nat.le_trans (Nat.pow_le_pow_left (by have := ok.n2; omega) _) (Nat.pow_le_pow_right (by omega) ok.n1)
    show ([] : List Mt).length + (matL (okB b) b.n2 b.n1 0 0 []).length ≤ 100000
    have h3 : (6 : Nat) ^ 5 ≤ 99999 := by decide
    simp only [List.length_nil]
    omega))
  clear hA hW hJ hY h0 hb0 hT ok hf
  go_enter Tryz.func78, Tryz.ntmps78
  go_wp2_with fail
  refine HC.out.mono ?_
  rintro e w1 ⟨rfl, ⟨xs, hxs, hj⟩, _⟩
  rw [List.nil_append] at hj
  have HJ := Lib.hid hj
  have HX := Lib.hid hxs
  clear hj hxs
  go_wp2_with fail
  first
  | exact bodyPost_end (results_none rfl _ _ _) rfl ⟨⟨_, rfl⟩, xs, HX.out, HJ.out⟩
  | (go_ret
     exact ⟨xs, HX.out, HJ.out⟩)
end Go.Proofs.YtifkjnmnflhnoaaGreatDoor

namespace Go.Proofs.YtifkjnmnflhnoaaGreatDoor
open Go.RowKit Go.Sort
def stepM (out : List Mt) (x : Mt) : List Mt := match out with
  | [] => [x]
  | y :: ys => if y.l.length < x.l.length then [x] else if x.l.length = y.l.length then (y :: ys) ++ [x] else y :: ys
def bigM (xs : List Mt) : List Mt := xs.foldl stepM []
theorem bigM_snoc (xs : List Mt) (x : Mt) : bigM (xs ++ [x]) = stepM (bigM xs) x := by unfold bigM; rw [List.foldl_append]; rfl
theorem stepM_len (out : List Mt) (x : Mt) : (stepM out x).length ≤ out.length + 1 := by
  cases out with
  | nil => exact Nat.le_refl _
  | cons y ys =>
    unfold stepM
    simp only
    split
    · simp
    · split
      · simp
      · exact Nat.le_succ _
theorem bigM_len : ∀ xs : List Mt, (bigM xs).length ≤ xs.length := by
  intro xs
  induction h : xs.length generalizing xs with
  | zero => obtain rfl := List.eq_nil_of_length_eq_zero h; exact Nat.le_refl _
  | succ n ih =>
    obtain ⟨ys, y, rfl⟩ : ∃ ys y, xs = ys ++ [y] := ⟨xs.dropLast, xs.getLast (by intro e; rw [e] at h; cases h), (List.dropLast_concat_getLast _).symm⟩
    rw [bigM_snoc]
    have h1 : ys.length = n := by simpa using h
    have := ih ys h1
    exact Nat.le_trans (stepM_len _ _) (by omega)
def stepL (out : List PrL) (m : PrL) : List PrL := match out with
  | [] => [m]
  | y :: ys => if y.length < m.length then [m] else if m.length = y.length then (y :: ys) ++ [m] else y :: ys
def bigL (L : List PrL) : List PrL := L.foldl stepL []
theorem stepM_map (out : List Mt) (x : Mt) : (stepM out x).map Mt.l = stepL (out.map Mt.l) x.l := by
  cases out with
  | nil => rfl
  | cons y ys =>
    unfold stepM stepL
    simp only [List.map_cons]
    split
    · rfl
    · split
      · simp
      · rfl
theorem foldM_map : ∀ (xs : List Mt) (out : List Mt), (xs.foldl stepM out).map Mt.l = (xs.map Mt.l).foldl stepL (out.map Mt.l)
  | [], _ => rfl
  | x :: xs, out => by
    rw [List.foldl_cons, List.map_cons, List.foldl_cons, foldM_map xs, stepM_map]
theorem bigM_map (xs : List Mt) : (bigM xs).map Mt.l = bigL (xs.map Mt.l) := foldM_map xs []
theorem matL_congr {ok ok' : Nat → Nat → Bool} {n1 n2 : Nat} (h : ∀ i j, i < n1 → j < n2 → ok i j = ok' i j) : ∀ left one u m, one + left ≤ n1 → matL ok n2 left one u m = matL ok' n2 left one u m
  | 0, _, _, _, _ => rfl
  | left + 1, one, u, m, hl => by
    show matL ok n2 left (one + 1) u m ++ (List.range n2).flatMap _ = matL ok' n2 left (one + 1) u m ++ (List.range n2).flatMap _
    rw [matL_congr h left (one + 1) u m (by omega)]
    congr 1
    rw [List.flatMap_def, List.flatMap_def]
    congr 1
    refine List.map_congr_left fun o ho => ?_
    have ho' : o < n2 := List.mem_range.1 ho
    rw [h one o (by omega) ho', matL_congr h left (one + 1) (u + 2 ^ o) (m ++ [(one, o)]) (by omega)]
def diag (n : Nat) : PrL := (List.range n).map fun i => (i, i)
theorem big_diag : ∀ n : Fin 5, bigL (matL (fun i j => i == j) n.1 n.1 0 0 []) = [diag n.1] := by decide +kernel
theorem one_of_map {l : List Mt} {m : PrL} (h : l.map Mt.l = [m]) : ∃ x, l = [x] ∧ x.l = m := by
  match l, h with
  | [x], h => exact ⟨x, rfl, by simpa using h⟩
theorem bigM_diag {ok : Nat → Nat → Bool} {n : Nat} (hn : n ≤ 4) (h : ∀ i j, i < n → j < n → ok i j = (i == j)) {xs : List Mt} (hx : xs.map Mt.l = matL ok n n 0 0 []) : ∃ x, bigM xs = [x] ∧ x.l = diag n := by
  have h1 := bigM_map xs
  rw [hx, matL_congr (n1 := n) h n 0 0 [] (by omega), big_diag ⟨n, by omega⟩] at h1
  exact one_of_map h1
theorem diag_len (n : Nat) : (diag n).length = n := by unfold diag; simp
theorem diag_get {n i : Nat} (h : i < n) : (diag n)[i]? = some (i, i) := by unfold diag; simp [h]
end Go.Proofs.YtifkjnmnflhnoaaGreatDoor

namespace Go.Proofs.YtifkjnmnflhnoaaGreatDoor
open Go.RowKit Go.Sort
attribute [local go_sem] Oper.semAt_some
def mtE : Elem Mt := { enc := fun x => [.slice x.a x.l.length x.c], size := 1, ty := 87, sl := 85, z := .slice none 0 0, bytes := 24 }
theorem mtG : mtE.Good :=
  ⟨by kernel_rfl, by kernel_rfl, rfl, Nat.one_pos, fun _ => rfl, fun x u hu => by
    obtain rfl := (by simpa [mtE] using hu : u = .slice x.a x.l.length x.c)
    rfl, by decide⟩
theorem KpM.put {N : Nat} {W : World} {l : Nat} {o : Obj} (hN : N ≤ l) (hl : W.heap[l]? = some o) (ho : o.isCells = false) (o' : Obj) : KpM N W (W.putObj l o') :=
  ⟨⟨rfl, rfl, rfl, by simp [World.putObj], fun k hk => World.putObj_heap_other (by omega)⟩, by simp [World.putObj], fun b cs t fr hb _ => World.putObj_heap_other (fun e => by subst e; rw [hl] at hb; cases hb; cases ho)⟩
/-- what the variable out of largest holds -/
structure IOut (w : World) (ob base : Nat) (pre : List Mt) (W : World) : Prop where
  out : ∃ V, TBox W ob 85 #[V] ∧ OwnE mtE W base V (bigM pre)
  mats : ∀ x ∈ bigM pre, MAt W x
  below : Below w.heap.size w W
theorem kept_cells {l : List TypeId} {W W' : World} {row : Option Nat} (hg : W.grownBy W' row) (hr : ∀ r, row = some r → ∃ o : Obj, W.heap[r]? = some o ∧ o.isCells = false) : Kept l W W' :=
  ⟨hg.size, fun b cs t fr hb _ => hg.block b (Array.getElem?_eq_some_iff.1 hb).1 (fun e => by
    obtain ⟨o, ho, hc⟩ := hr b e.symm
    rw [hb] at ho
    cases ho
    cases hc)⟩
theorem MAt.kept {W W' : World} {x : Mt} (h : MAt W x) (k : Kept [89] W W') : MAt W' x := ⟨h.nil, h.row.kept k (by simp), h.cap⟩
theorem below_two {N : Nat} {w W W' : World} (h : Below N w W) (h' : Below N w W') (hz : W.heap.size ≤ W'.heap.size) : Below N W W' :=
  ⟨h'.os.trans h.os.symm, h'.tape.trans h.tape.symm, h'.output.trans h.output.symm, hz, fun k hk => (h'.block k hk).trans (h.block k hk).symm⟩
theorem fin_store {w WS w5 : World} {ob base : Nat} {Vs v' : Value} {l0 : List Mt} {x : Mt} (hV : TBox WS ob 85 #[Vs]) (hO : OwnE mtE WS base Vs l0) (hx : MAt WS x) (hM : ∀ y ∈ l0, MAt WS y) (hB : Below w.heap.size w WS) (hob : w.heap.size ≤ ob) (hba : ob < base) (h5 : OwnE mtE w5 base v' (l0 ++ [x])) (hg : (WS.alloc (.cells #[.slice x.a x.l.length x.c] 87)).grownBy w5 Vs.ownBlock) :
    (∀ M, KeepsFrom M WS (w5.setCell ⟨ob, 0, none⟩ v')) ∧ KpM w.heap.size WS (w5.setCell ⟨ob, 0, none⟩ v') ∧ TBox (w5.setCell ⟨ob, 0, none⟩ v') ob 85 #[v'] ∧ OwnE mtE (w5.setCell ⟨ob, 0, none⟩ v') base v' (l0 ++ [x]) ∧ (∀ y ∈ l0 ++ [x], MAt (w5.setCell ⟨ob, 0, none⟩ v') y) ∧ Below w.heap.size w (w5.setCell ⟨ob, 0, none⟩ v') := by
  have hbA : Below WS.heap.size WS (WS.alloc (.cells #[.slice x.a x.l.length x.c] 87)) := bAlloc (Below.refl _ _) _
  have hO2 := hO.mono hbA
  have hlt : ∀ q, Vs.ownBlock = some q → base ≤ q := fun q hq => (World.ownsRow.lt hO2 q hq).1
  have hV5 : TBox w5 ob 85 #[Vs] := (hV.mono hbA).grown hg (fun e => by have := hlt ob e.symm; omega)
  have hk1 : Kept tysM WS w5 := (Kept.of_below hbA).trans (Kept.of_own hg hO2 (by decide))
  have hk2 : Kept tysM WS (w5.setCell ⟨ob, 0, none⟩ v') := hk1.trans (Kept.set hV5 (by decide) 0 v')
  have hB5 : Below w.heap.size w w5 := (bTrans hB hbA).grown hg (bTrans hB hbA).size (fun q hq => by have := hlt q hq; omega)
  have hB6 : Below w.heap.size w (w5.setCell ⟨ob, 0, none⟩ v') := Below.setCell (p := ⟨ob, 0, none⟩) hB5 hob v'
  have hkp : KpM w.heap.size WS (w5.setCell ⟨ob, 0, none⟩ v') := ⟨below_two hB hB6 hk2.1, hk2⟩
  refine ⟨fun M => ?_, hkp, ?_, OwnE.set h5 hba 0 v', fun y hy => ?_, hB6⟩
  · refine ((keeps_below hbA).trans ((KeepsOthers.of_grownBy hg fun r o e ho => ?_).from _)).trans ((KeepsOthers.setCell _ _ _).from _)
    obtain ⟨_, cur, hcur⟩ := owns_typed hO2 r e
    rw [hcur] at ho
    injection ho with ho
    rw [← ho]
    rfl
  · have h := hV5.set 0 v'
    simpa using h
  · rcases List.mem_append.1 hy with hy | hy
    · exact (hM y hy).kp hkp
    · rw [List.mem_singleton.1 hy]; exact hx.kp hkp
def BigOut (w' : World) (base : Nat) (b : Bk) (e : Ending) : Prop := ∃ V xs, e = .returned V ∧ OwnE mtE w' base V (bigM xs) ∧ (∀ x ∈ bigM xs, MAt w' x) ∧ xs.map Mt.l = matL (okB b) b.n2 b.n1 0 0 []
theorem OwnE.cells {α : Type} {E : Elem α} {W W' : World} {base : Nat} {V : Value} {l : List α} {row : Option Nat} (h : OwnE E W base V l) (hg : W.grownBy W' row) (hr : ∀ r, row = some r → ∃ o : Obj, W.heap[r]? = some o ∧ o.isCells = false) : OwnE E W' base V l :=
  ⟨h.1, h.2.imp id (fun ⟨g, cap, cur, e, h2, h3, h4⟩ => ⟨g, cap, cur, e, h2, (hg.block g (Array.getElem?_eq_some_iff.1 h3).1 (fun e2 => by
    obtain ⟨o, ho, hc⟩ := hr g e2.symm
    rw [h3] at ho
    cases ho
    cases hc)).trans h3, h4⟩)⟩
set_option maxHeartbeats 8000000 in
set_option maxRecDepth 100000 in
theorem largest_any (b : Bk) (w : World) (ok : b.Ok) (hT : BkAt w b) :
    Calls Tryz.prog 36 #[.agg #[.int .i64 b.base, .int .i64 (b.pl : Int), .int .i64 b.pers, .int .i64 b.late, .slice b.a1 b.n1 b.c1, .slice b.a2 b.n2 b.c2]] w fun e w' => BigOut w' w.heap.size b e ∧ Below w.heap.size w w' := by
  have HOK := Lib.hid ok
  have HT := Lib.hid hT
  have HA := Lib.hid (show Below w.heap.size w ((w.alloc (.cells #[.int .i64 b.base, .int .i64 (b.pl : Int), .int .i64 b.pers, .int .i64 b.late, .slice b.a1 b.n1 b.c1, .slice b.a2 b.n2 b.c2] 41)).alloc (.cells #[.slice none 0 0] 85)) from bAlloc (bAlloc (Below.refl _ _) _) _)
  have HOB := Lib.hid (show TBox ((w.alloc (.cells #[.int .i64 b.base, .int .i64 (b.pl : Int), .int .i64 b.pers, .int .i64 b.late, .slice b.a1 b.n1 b.c1, .slice b.a2 b.n2 b.c2] 41)).alloc (.cells #[.slice none 0 0] 85)) (w.heap.size + 1) 85 #[.slice none 0 0] from by have h := TBox.new (w.alloc (.cells #[.int .i64 b.base, .int .i64 (b.pl : Int), .int .i64 b.pers, .int .i64 b.late, .slice b.a1 b.n1 b.c1, .slice b.a2 b.n2 b.c2] 41)) #[.slice none 0 0] 85; rw [World.size_alloc] at h; exact h)
  clear ok hT
  refine (callsIn_wide (n := 7)).1 ?_
  refine callsIn_of_wp_marks Tryz.func36 rfl trivial ?_ rfl
  simp only [Tryz.ntmps36, List.size_toArray, List.length_cons, List.length_nil, Nat.reduceAdd, Nat.reduceSub, Array.replicate_succ, Array.replicate_zero, List.push_toArray, List.append_toArray, List.nil_append, List.cons_append]
  gi_wp2
  refine ⟨trivial, (callsIn_wide.2 (matchings_any b _)).mono ?_⟩
  rintro e w1 ⟨⟨rfl, hf⟩, hb⟩
  obtain ⟨fb, hfb⟩ : ∃ fb, (((w.alloc (.cells #[.int .i64 b.base, .int .i64 (b.pl : Int), .int .i64 b.pers, .int .i64 b.late, .slice b.a1 b.n1 b.c1, .slice b.a2 b.n2 b.c2] 41)).alloc (.cells #[.slice none 0 0] 85))).heap.size = fb := ⟨_, rfl⟩
  rw [hfb] at hf
  have HSEQ := Lib.hid (match_seq 6 fb b w w1 HOK.out HT.out (bTrans HA.out hb) hf)
  have HO1 := Lib.hid (HOB.out.mono hb)
  have HB1 := Lib.hid (bTrans HA.out hb)
  have hz1 := hb.size
  simp only [World.size_alloc] at hz1
  clear hf hb
  gi_wp2
  clear hfb
  refine wpIn_range_all (gf := 78) (bnd := #[]) (lb := #[.pointer (some ⟨fb, 0, none⟩)]) rfl (by decide) rfl trivial (enters_of Tryz.func78 (by kernel_rfl)) HSEQ.out (fun h k => h.trans k) (fun W l o o' hl ho hc => KpM.put (by omega) ho hc o') (fun _ => rfl)
    (fun pre W => IOut w (w.heap.size + 1) (w.heap.size + 2) pre W)
    (fun pre W W' row ⟨⟨V, hV, hO⟩, hM, hB⟩ hg hr => ⟨⟨V, hV.kept (kept_cells (l := [85]) hg (fun r e => (hr r e).2)) (by simp), hO.cells hg (fun r e => (hr r e).2)⟩, fun x hx => (hM x hx).kept (kept_cells hg (fun r e => (hr r e).2)), hB.grown hg (by have := hB.size; omega) (fun q hq => by have := (hr q hq).1; omega)⟩)
    ⟨⟨_, HO1.out, OwnE.nil _ _ _⟩, fun x hx => by simp [bigM] at hx, HB1.out⟩
    (fun x a' W => a' = { tmps := #[.agg #[.int .i64 b.base, .int .i64 (b.pl : Int), .int .i64 b.pers, .int .i64 b.late, .slice b.a1 b.n1 b.c1, .slice b.a2 b.n2 b.c2], .pointer (some ⟨w.heap.size, 0, none⟩), .slice none 0 0, .pointer (some ⟨w.heap.size + 1, 0, none⟩), .slice x.a x.l.length x.c, .agg #[.int .i64 b.base, .int .i64 (b.pl : Int), .int .i64 b.pers, .int .i64 b.late, .slice b.a1 b.n1 b.c1, .slice b.a2 b.n2 b.c2], .func (.func 78) #[] #[.pointer (some ⟨fb, 0, none⟩)], .slice x.a x.l.length x.c, undef, undef, undef, undef, undef, undef, undef, undef, undef, undef, undef, undef, undef, undef, undef, undef, undef, undef, undef, undef, undef, undef, undef, undef, undef, undef, undef, undef, undef], defers := [] } ∧ MAt W x)
    (fun x a' _ X Y row ⟨h1, h2⟩ hg hr => ⟨h1, h2.kept (kept_cells hg (fun r e => (hr r e).2))⟩) ?assign ?body ?done
  case assign =>
    rintro l pre x W K hsz hI ⟨_, hmx⟩ hK
    simp only [encM]
    gi_wp2
    exact hK _ _ (KeepsFrom.refl _ _) (KpM.refl _ _ (by omega)) hI ⟨rfl, hmx⟩
  case body =>
    rintro l pre x a' W hsz - ⟨⟨V, hV, hO⟩, hM, hB⟩ ⟨rfl, hmx⟩ ⟨W0, hlen, _⟩
    have HV := Lib.hid hV
    have HO := Lib.hid hO
    have HM := Lib.hid hM
    have HBL := Lib.hid hB
    have HMX := Lib.hid hmx
    have hbl : (bigM pre).length ≤ 100000 := Nat.le_trans (bigM_len pre) (by omega)
    have HBLN := Lib.hid hbl
    have HNX := Lib.hid (bigM_snoc pre x)
    have v1 := hV.frozen 0
    obtain ⟨A, c, e, hr⟩ := hO.read
    subst e
    obtain ⟨out, hout⟩ : ∃ out, bigM pre = out := ⟨_, rfl⟩
    rw [hout] at HO HM HBLN HNX hr
    rw [hout] at HV
    obtain ⟨v0, v2⟩ := HV.out.c1
    clear hV hO hM hB hmx hbl hlen hout
    cases out with
    | nil =>
      have hzz : w.heap.size + 2 ≤ W.heap.size := by omega
      gi_wp2_with (gi_at_builtin; refine wpListIn_snocE mtG _ rfl (Operand.tmp 32) (Operand.tmp 34) rfl (w.heap.size + 2) (.slice A 0 c) [] x rfl ?q1 W.heap.size rfl ?q2 ?q3 ?q4 ?_)
      case q1 => exact HO.out.mono (bAlloc (Below.refl _ _) _)
      case q2 =>
        intro a u hu
        match a, hu with
        | 0, hu =>
          obtain rfl : Value.slice x.a x.l.length x.c = u := by simpa [mtE] using hu
          simp [go_sem]
      case q3 => first | exact Nat.zero_le _ | exact HBLN.out | (have := HBLN.out; simp at this ⊢; omega)
      case q4 => first | omega | (simp; omega)
      intro v' w5 hown5 hb5 hg5
      obtain ⟨g5, c5, hv5⟩ := owns_some hown5 (by simp)
      replace hv5 : ∃ n5, v' = .slice (some ⟨g5, 0, none⟩) n5 c5 := ⟨_, hv5⟩
      obtain ⟨n5, hv5⟩ := hv5
      subst hv5
      have FIN := Lib.hid (fin_store (w := w) (ob := w.heap.size + 1) (base := w.heap.size + 2) HV.out HO.out HMX.out HM.out HBL.out (Nat.le_succ _) (Nat.lt_succ_self _) hown5 hg5)
      have hV5 : TBox w5 (w.heap.size + 1) 85 #[.slice A 0 c] := (HV.out.mono (bAlloc (Below.refl _ _) _)).grown hg5 (fun e => by have := (World.ownsRow.lt (HO.out.mono (bAlloc (Below.refl W.heap.size W) (.cells #[.slice x.a x.l.length x.c] 87))) _ e.symm).1; omega)
      obtain ⟨y5, z5⟩ := hV5.c1
      have y6 := hV5.frozen 0
      clear hown5 hb5 hg5 hV5 v0 v1 v2
      gi_wp2
      obtain ⟨f1, f2, f3, f4, f5, f6⟩ := FIN.out
      exact ⟨f1 _, f2, ⟨⟨_, f3, by rw [HNX.out]; exact f4⟩, by rw [HNX.out]; exact f5, f6⟩⟩
    | cons y ys =>
      have hzz : w.heap.size + 2 ≤ W.heap.size := by omega
      rcases hr with h | ⟨q, o, rfl, hl, hc⟩
      · have := congrArg List.length h
        rw [Elem.cells_len mtG] at this
        simp [mtE] at this
      have c0 := hc 0 (.slice y.a y.l.length y.c) (by simp [Elem.cells, mtE])
      rw [Nat.add_zero] at c0
      clear hc
      have g0 : (0 : Int) < ((ys.length + 1 : Nat) : Int) := by omega
      have g0b : (0 : Int) < (ys.length : Int) + 1 := by omega
      have g9 : ¬ ((ys.length : Int) + 1 = 0) := by omega
      have g8 : (((ys.length : Int) + 1) == 0) = false := by simp; omega
      by_cases h1 : y.l.length < x.l.length
      · have q1 : (y.l.length : Int) < (x.l.length : Int) := by omega
        have HNY := Lib.hid (show stepM (y :: ys) x = [x] by unfold stepM; simp [h1])
        have HVN := Lib.hid (show TBox (W.setCell ⟨w.heap.size + 1, 0, none⟩ (.slice none 0 0)) (w.heap.size + 1) 85 #[.slice none 0 0] from by have h := HV.out.set 0 (.slice none 0 0); simpa using h)
        have HMN := Lib.hid (HMX.out.kept (Kept.set (l := [89]) HV.out (by decide) 0 (.slice none 0 0)))
        have HBN := Lib.hid (Below.setCell (p := ⟨w.heap.size + 1, 0, none⟩) HBL.out (Nat.le_succ _) (.slice none 0 0))
        have HKN := Lib.hid (show KpM w.heap.size W (W.setCell ⟨w.heap.size + 1, 0, none⟩ (.slice none 0 0)) from ⟨below_two HBL.out HBN.out (by simp [World.setCell]), Kept.set HV.out (by decide) 0 (.slice none 0 0)⟩)
        gi_wp2_with (gi_at_builtin; refine wpListIn_snocE mtG _ rfl (Operand.tmp 32) (Operand.tmp 34) rfl (w.heap.size + 2) (.slice none 0 0) [] x rfl ?q1 W.heap.size rfl ?q2 ?q3 ?q4 ?_)
        case q1 => exact (OwnE.nil mtE (W.setCell ⟨w.heap.size + 1, 0, none⟩ (.slice none 0 0)) (w.heap.size + 2)).mono (bAlloc (Below.refl _ _) _)
        case q2 =>
          intro a u hu
          match a, hu with
          | 0, hu =>
            obtain rfl : Value.slice x.a x.l.length x.c = u := by simpa [mtE] using hu
            simp [go_sem]
        case q3 => first | exact Nat.zero_le _ | exact HBLN.out | (have := HBLN.out; simp at this ⊢; omega)
        case q4 => first | omega | (simp; omega)
        intro v' w5 hown5 hb5 hg5
        obtain ⟨g5, c5, hv5⟩ := owns_some hown5 (by simp)
        replace hv5 : ∃ n5, v' = .slice (some ⟨g5, 0, none⟩) n5 c5 := ⟨_, hv5⟩
        obtain ⟨n5, hv5⟩ := hv5
        subst hv5
        have FIN := Lib.hid (fin_store (w := w) (ob := w.heap.size + 1) (base := w.heap.size + 2) HVN.out (OwnE.nil _ _ _) HMN.out (fun y hy => by simp at hy) HBN.out (Nat.le_succ _) (Nat.lt_succ_self _) hown5 hg5)
        have hV5 : TBox w5 (w.heap.size + 1) 85 #[.slice none 0 0] := (HVN.out.mono (bAlloc (Below.refl _ _) _)).grown hg5 (fun e => by have := (World.ownsRow.lt ((OwnE.nil mtE (W.setCell ⟨w.heap.size + 1, 0, none⟩ (.slice none 0 0)) (w.heap.size + 2)).mono (bAlloc (Below.refl (W.setCell ⟨w.heap.size + 1, 0, none⟩ (.slice none 0 0)).heap.size (W.setCell ⟨w.heap.size + 1, 0, none⟩ (.slice none 0 0))) (.cells #[.slice x.a x.l.length x.c] 87))) _ e.symm).1; omega)
        obtain ⟨y5, z5⟩ := hV5.c1
        have y6 := hV5.frozen 0
        clear hown5 hb5 hg5 hV5 v0 v1 v2
        gi_wp2
        obtain ⟨f1, f2, f3, f4, f5, f6⟩ := FIN.out
        exact ⟨((KeepsOthers.setCell _ _ _).from _).trans (f1 _), HKN.out.trans f2, ⟨⟨_, f3, by rw [HNX.out, HNY.out]; exact f4⟩, by rw [HNX.out, HNY.out]; exact f5, f6⟩⟩
      · have q1 : ¬ (y.l.length : Int) < (x.l.length : Int) := by omega
        have q1b : decide ((x.l.length : Int) > (y.l.length : Int)) = false := by simp; omega
        by_cases h2 : x.l.length = y.l.length
        · have q2 : ((x.l.length : Int) == (y.l.length : Int)) = true := by simp [h2]
          have HNY := Lib.hid (show stepM (y :: ys) x = (y :: ys) ++ [x] by unfold stepM; simp [h1, h2])
          clear h2
          gi_wp2_with (gi_at_builtin; refine wpListIn_snocE mtG _ rfl (Operand.tmp 32) (Operand.tmp 34) rfl (w.heap.size + 2) (.slice (some ⟨q, o, none⟩) (ys.length + 1) c) (y :: ys) x rfl ?q1 W.heap.size rfl ?q2 ?q3 ?q4 ?_)
          case q1 => exact HO.out.mono (bAlloc (Below.refl _ _) _)
          case q2 =>
            intro a u hu
            match a, hu with
            | 0, hu =>
              obtain rfl : Value.slice x.a x.l.length x.c = u := by simpa [mtE] using hu
              simp [go_sem]
          case q3 => first | exact Nat.zero_le _ | exact HBLN.out | (have := HBLN.out; simp at this ⊢; omega)
          case q4 => first | omega | (simp; omega)
          intro v' w5 hown5 hb5 hg5
          obtain ⟨g5, c5, hv5⟩ := owns_some hown5 (by simp)
          replace hv5 : ∃ n5, v' = .slice (some ⟨g5, 0, none⟩) n5 c5 := ⟨_, hv5⟩
          obtain ⟨n5, hv5⟩ := hv5
          subst hv5
          have FIN := Lib.hid (fin_store (w := w) (ob := w.heap.size + 1) (base := w.heap.size + 2) HV.out HO.out HMX.out HM.out HBL.out (Nat.le_succ _) (Nat.lt_succ_self _) hown5 hg5)
          have hV5 : TBox w5 (w.heap.size + 1) 85 #[.slice (some ⟨q, o, none⟩) (ys.length + 1) c] := (HV.out.mono (bAlloc (Below.refl _ _) _)).grown hg5 (fun e => by have := (World.ownsRow.lt (HO.out.mono (bAlloc (Below.refl W.heap.size W) (.cells #[.slice x.a x.l.length x.c] 87))) _ e.symm).1; omega)
          obtain ⟨y5, z5⟩ := hV5.c1
          have y6 := hV5.frozen 0
          clear hown5 hb5 hg5 hV5 v0 v1 v2
          gi_wp2
          obtain ⟨f1, f2, f3, f4, f5, f6⟩ := FIN.out
          exact ⟨f1 _, f2, ⟨⟨_, f3, by rw [HNX.out, HNY.out]; exact f4⟩, by rw [HNX.out, HNY.out]; exact f5, f6⟩⟩
        · have q2 : ((x.l.length : Int) == (y.l.length : Int)) = false := by simp; omega
          have q3 : ¬ (x.l.length : Int) = (y.l.length : Int) := by omega
          have HNY := Lib.hid (show stepM (y :: ys) x = y :: ys by unfold stepM; simp [h1, h2])
          gi_wp2
          exact ⟨KeepsFrom.refl _ _, KpM.refl _ _ (by omega), ⟨⟨_, HV.out, by rw [HNX.out, HNY.out]; exact HO.out⟩, by rw [HNX.out, HNY.out]; exact HM.out, HBL.out⟩⟩
  case done =>
    rintro D xs W hD hxs ⟨⟨V, hV, hO⟩, hM, hB⟩ hK
    have HV := Lib.hid hV
    have HO := Lib.hid hO
    have HM := Lib.hid hM
    have HBL := Lib.hid hB
    have HXS := Lib.hid hxs
    have v1 := hV.frozen 0
    obtain ⟨v0, v2⟩ := hV.c1
    clear hV hO hM hB hxs
    gi_wp2
    refine ⟨by simp, .inl ⟨_, _, rfl, run_takeDeferred hK, ?_⟩⟩
    exact ⟨_, results_tmp rfl _ _ _, ⟨V, xs, rfl, OwnE.lower (ownsRow_putObj HO.out _ hK rfl) (Nat.le_add_right _ _), fun x hx => (HM.out x hx).kept (kept_cells (grownBy_putObj' W D _) (fun r e => by cases e; exact ⟨_, hK, rfl⟩)), HXS.out⟩, below_put HBL.out (by have := HBL.out.size; omega) (by omega) _⟩
end Go.Proofs.YtifkjnmnflhnoaaGreatDoor

namespace Go.Proofs.YtifkjnmnflhnoaaGreatDoor
open Go.RowKit Go.Sort
def bgS (v : Value) : Prop := ∃ g l c, v = .slice (some ⟨g, 0, none⟩) (l + 1) c
def bgR (m : Nat) (w : World) (v : Value) : Prop := ∃ g l c a c2, v = .slice (some ⟨g, 0, none⟩) (l + 1) c ∧ g < w.heap.size ∧ w.cell? ⟨g, 0, none⟩ = some (.slice a m c2)
theorem bgG {m : Nat} : (Stir.held bgS (bgR m)).good := ⟨⟨_, 0, 0, 0, rfl⟩, fun _ _ _ hb ⟨g, l, c, a, c2, e, h1, h2⟩ => ⟨g, l, c, a, c2, e, Nat.lt_of_lt_of_le h1 hb.size, (hb.cell (p := ⟨g, 0, none⟩) h1).trans h2⟩⟩
def ptHd (m : Nat) (w : World) (v : Value) : Prop := ∀ g, v = .pointer (some ⟨g, 0, none⟩) → g < w.heap.size ∧ ∃ a c2, w.cell? ⟨g, 0, none⟩ = some (.slice a m c2)
theorem ptHG {m : Nat} : (Stir.held (ptS 0) (ptHd m)).good := ⟨⟨_, 0, rfl⟩, fun _ _ _ hb h g e => by
  obtain ⟨h1, a, c2, h2⟩ := h g e
  exact ⟨Nat.lt_of_lt_of_le h1 hb.size, a, c2, (hb.cell (p := ⟨g, 0, none⟩) h1).trans h2⟩⟩
def lnS (m : Nat) (v : Value) : Prop := ∃ a c, v = .slice a m c
theorem lnG {m : Nat} : (Stir.held (lnS m) anyR).good := ⟨⟨_, none, 0, rfl⟩, fun _ _ _ _ _ => trivial⟩
def Heads (b : Bk) (m : Nat) : Prop := ∀ xs : List Mt, xs.map Mt.l = matL (okB b) b.n2 b.n1 0 0 [] → ∃ y ys, bigM xs = y :: ys ∧ y.l.length = m
theorem mt_head {w : World} {base : Nat} {V : Value} {y : Mt} {ys : List Mt} (h : OwnE mtE w base V (y :: ys)) : ∃ g c, V = .slice (some ⟨g, 0, none⟩) (ys.length + 1) c ∧ g < w.heap.size ∧ w.cell? ⟨g, 0, none⟩ = some (.slice y.a y.l.length y.c) := by
  obtain ⟨g, c, e⟩ := owns_some h (Nat.succ_pos _)
  subst e
  obtain ⟨A, c2, e2, hr⟩ := h.read
  simp only [Value.slice.injEq] at e2
  obtain ⟨rfl, _, rfl⟩ := e2
  rcases hr with hr | ⟨q, o, e3, hl, hc⟩
  · have := congrArg List.length hr
    rw [Elem.cells_len mtG] at this
    simp [mtE] at this
  · simp only [Option.some.injEq, Addr.mk.injEq, and_true] at e3
    obtain ⟨rfl, rfl⟩ := e3
    have c0 := hc 0 (.slice y.a y.l.length y.c) (by simp [Elem.cells, mtE])
    exact ⟨g, c, rfl, hl, c0⟩
set_option maxHeartbeats 4000000 in
set_option maxRecDepth 100000 in
theorem fewF_any (b : Bk) (m : Nat) (w : World) (ok : b.Ok) (hT : BkAt w b) (hH : Heads b m) (hm : m ≤ 10) :
    Calls Tryz.prog 35 #[.agg #[.int .i64 b.base, .int .i64 (b.pl : Int), .int .i64 b.pers, .int .i64 b.late, .slice b.a1 b.n1 b.c1, .slice b.a2 b.n2 b.c2]] w fun e w' => e = .returned (.int .i64 ((b.n1 : Int) + (b.n2 : Int) - (m : Int))) ∧ Below w.heap.size w w' := by
  have e1 : IntKind.i64.wrap ((b.n1 : Int) + (b.n2 : Int)) = (b.n1 : Int) + (b.n2 : Int) := IntWalk.i64_in _ (by have := ok.n1; have := ok.n2; omega)
  have e2 : IntKind.i64.wrap ((b.n1 : Int) + (b.n2 : Int) - (m : Int)) = (b.n1 : Int) + (b.n2 : Int) - (m : Int) := IntWalk.i64_in _ (by have := ok.n1; have := ok.n2; omega)
  have HD0 := Lib.hid (Below.refl w.heap.size w)
  have HOK := Lib.hid ok
  have HT0 := Lib.hid hT
  have HH := Lib.hid hH
  clear ok hT hH
  go_enter Tryz.func35, Tryz.ntmps35
  have HCO := Lib.hid (fun (w' : World) (hb : Below (w.alloc (.cells #[.int .i64 b.base, .int .i64 (b.pl : Int), .int .i64 b.pers, .int .i64 b.late, .slice b.a1 b.n1 b.c1, .slice b.a2 b.n2 b.c2] 41)).heap.size (w.alloc (.cells #[.int .i64 b.base, .int .i64 (b.pl : Int), .int .i64 b.pers, .int .i64 b.late, .slice b.a1 b.n1 b.c1, .slice b.a2 b.n2 b.c2] 41)) w') => largest_any b w' HOK.out ((HT0.out.mono (bAlloc (Below.refl _ _) (.cells #[.int .i64 b.base, .int .i64 (b.pl : Int), .int .i64 b.pers, .int .i64 b.late, .slice b.a1 b.n1 b.c1, .slice b.a2 b.n2 b.c2] 41))).mono hb))
  go_wp2_with fail
  refine wp_region_stir 13 [.const (.pointer (some ⟨w.heap.size, 4, none⟩)), .const (.slice b.a1 b.n1 b.c1), .const (.int .i64 (b.n1 : Int)), .const (.pointer (some ⟨w.heap.size, 5, none⟩)), .const (.slice b.a2 b.n2 b.c2), .const (.int .i64 (b.n2 : Int)), .const (.int .i64 ((b.n1 : Int) + (b.n2 : Int))), .const (.agg #[.int .i64 b.base, .int .i64 (b.pl : Int), .int .i64 b.pers, .int .i64 b.late, .slice b.a1 b.n1 b.c1, .slice b.a2 b.n2 b.c2]), .held bgS (bgR m), .held (ptS 0) (ptHd m), .held (lnS m) anyR, .const (.int .i64 (m : Int)), .const (.int .i64 ((b.n1 : Int) + (b.n2 : Int) - (m : Int)))] (by kernel_rfl) (by kernel_rfl) rfl ⟨trivial, trivial, trivial, trivial, trivial, trivial, trivial, trivial, bgG, ptHG, lnG, trivial, trivial, trivial⟩ (crossAll_no _ _ _ _ trivial) ?_
  iterate 8 refine wpStir_const (by go_simp) ?_
  refine wpStir_held rfl (fun w' hb' hd => ?_) (fun v' hv' => ?_)
  · clear hd
    go_simp
    refine (HCO.out w' hb').mono ?_
    rintro e w2 ⟨⟨V, xs, rfl, hO, _, hX⟩, hb2⟩
    obtain ⟨y, ys, hy, hl⟩ := HH.out xs hX
    rw [hy] at hO
    obtain ⟨g, c, rfl, hg, hc⟩ := mt_head hO
    rw [hl] at hc
    exact ⟨_, rfl, hb2, ⟨g, _, c, rfl⟩, g, _, c, _, _, rfl, hg, hc⟩
  clear HCO
  obtain ⟨g, l, c, rfl⟩ := hv'
  have l0 : (0 : Int) < (l : Int) + 1 := by omega
  simp only [Act.put, List.setIfInBounds_toArray, List.set_cons_succ, List.set_cons_zero]
  refine wpStir_held rfl (fun w' hb' hd => ?_) (fun v' hv' => ?_)
  · obtain ⟨g', l', c', a, c2, e1, hg, hc⟩ := hd.1 (by kernel_rfl)
    clear hd
    simp only [Value.slice.injEq, Option.some.injEq, Addr.mk.injEq, and_true] at e1
    obtain ⟨rfl, _, _⟩ := e1
    go_simp
    refine ⟨⟨_, rfl⟩, fun a' e => ?_⟩
    obtain rfl : g = a' := by simpa using e
    exact ⟨hg, a, c2, hc⟩
  obtain ⟨g2, rfl⟩ := hv'
  simp only [Act.put, List.setIfInBounds_toArray, List.set_cons_succ, List.set_cons_zero]
  refine wpStir_held rfl (fun w' hb' hd => ?_) (fun v' hv' => ?_)
  · obtain ⟨hg, a, c2, hc⟩ := hd.1 (by kernel_rfl) g2 rfl
    clear hd
    go_simp
    exact ⟨⟨a, c2, rfl⟩, trivial⟩
  obtain ⟨a3, c3, rfl⟩ := hv'
  simp only [Act.put, List.setIfInBounds_toArray, List.set_cons_succ, List.set_cons_zero]
  iterate 2 refine wpStir_const (by go_simp) ?_
  refine wpStir_end (fun w3 hb5 hd => ?_)
  clear hd
  simp only [List.drop_succ_cons, List.drop_zero]
  simp only [Act.put, List.setIfInBounds_toArray, List.set_cons_succ, List.set_cons_zero]
  have hb := hb5
  clear hb5
  have hB3 : Below w.heap.size w w3 := bTrans (bAlloc (Below.refl _ _) (.cells #[.int .i64 b.base, .int .i64 (b.pl : Int), .int .i64 b.pers, .int .i64 b.late, .slice b.a1 b.n1 b.c1, .slice b.a2 b.n2 b.c2] 41)) hb
  have HD3 := Lib.hid (bTrans HD0.out hB3)
  have HT3 := Lib.hid (HT0.out.mono hB3)
  have B3 := Lib.hid (show TBox w3 w.heap.size 41 #[.int .i64 b.base, .int .i64 (b.pl : Int), .int .i64 b.pers, .int .i64 b.late, .slice b.a1 b.n1 b.c1, .slice b.a2 b.n2 b.c2] from by have := ((TBox.new w #[.int .i64 b.base, .int .i64 (b.pl : Int), .int .i64 b.pers, .int .i64 b.late, .slice b.a1 b.n1 b.c1, .slice b.a2 b.n2 b.c2] 41).mono (Below.refl _ _)).mono hb; simpa using this)
  clear hb hB3 HD0 HT0
  obtain ⟨B_0, B_1, B_2, B_3, B_4, B_5, B_l⟩ := B3.out.c6
  go_wp2_with fail
  go_ret
  exact ⟨rfl, HD3.out⟩
set_option maxHeartbeats 4000000 in
set_option maxRecDepth 100000 in
theorem fewestF_any (b : Bk) (m : Nat) (w : World) (ok : b.Ok) (hT : BkAt w b) (hH : Heads b m) (hm : m ≤ 10) :
    Calls Tryz.prog 13 #[.agg #[.int .i64 b.base, .int .i64 (b.pl : Int), .int .i64 b.pers, .int .i64 b.late, .slice b.a1 b.n1 b.c1, .slice b.a2 b.n2 b.c2]] w fun e w' => e = .returned (.tuple #[.int .i64 ((b.n1 : Int) + (b.n2 : Int) - (m : Int)), .int .i64 0]) ∧ Below w.heap.size w w' := by
  have HD0 := Lib.hid (Below.refl w.heap.size w)
  have HOK := Lib.hid ok
  have HT0 := Lib.hid hT
  have HH := Lib.hid hH
  have HM := Lib.hid hm
  clear ok hT hH hm
  go_enter Tryz.func13, Tryz.ntmps13
  go_wp2_with fail
  refine (checkF_any b _ HOK.out (HT0.out.mono (bAlloc (Below.refl _ _) (.cells #[.int .i64 b.base, .int .i64 (b.pl : Int), .int .i64 b.pers, .int .i64 b.late, .slice b.a1 b.n1 b.c1, .slice b.a2 b.n2 b.c2] 41)))).mono ?_
  rintro e w1 ⟨rfl, hb⟩
  have hB1 : Below w.heap.size w w1 := bTrans (bAlloc (Below.refl _ _) (.cells #[.int .i64 b.base, .int .i64 (b.pl : Int), .int .i64 b.pers, .int .i64 b.late, .slice b.a1 b.n1 b.c1, .slice b.a2 b.n2 b.c2] 41)) hb
  have HD1 := Lib.hid (bTrans HD0.out hB1)
  have HT1 := Lib.hid (HT0.out.mono hB1)
  have B1 := Lib.hid (show TBox w1 w.heap.size 41 #[.int .i64 b.base, .int .i64 (b.pl : Int), .int .i64 b.pers, .int .i64 b.late, .slice b.a1 b.n1 b.c1, .slice b.a2 b.n2 b.c2] from by have := ((TBox.new w #[.int .i64 b.base, .int .i64 (b.pl : Int), .int .i64 b.pers, .int .i64 b.late, .slice b.a1 b.n1 b.c1, .slice b.a2 b.n2 b.c2] 41).mono (Below.refl _ _)).mono hb; simpa using this)
  clear hb hB1 HD0 HT0
  obtain ⟨B_0, B_1, B_2, B_3, B_4, B_5, B_l⟩ := B1.out.c6
  go_wp2_with fail
  refine (fewF_any b m _ HOK.out HT1.out HH.out HM.out).mono ?_
  rintro e w2 ⟨rfl, hb⟩
  have hB2 : Below w1.heap.size w1 w2 := bTrans (Below.refl _ _) hb
  have HD2 := Lib.hid (bTrans HD1.out hB2)
  have HT2 := Lib.hid (HT1.out.mono hB2)
  have B2 := Lib.hid (B1.out.mono hB2)
  clear hb hB2 HD1 HT1 B1 B_0 B_1 B_2 B_3 B_4 B_5 B_l
  obtain ⟨B_0, B_1, B_2, B_3, B_4, B_5, B_l⟩ := B2.out.c6
  go_wp2_with fail
  go_ret2
  exact ⟨rfl, HD2.out⟩
end Go.Proofs.YtifkjnmnflhnoaaGreatDoor

