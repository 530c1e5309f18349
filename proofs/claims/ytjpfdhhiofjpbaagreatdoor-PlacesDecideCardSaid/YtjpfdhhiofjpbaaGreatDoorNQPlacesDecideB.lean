/- Parts joined: what the claim PlacesDecide needs beyond the others. -/
import Derived.Deep.LoopGhost
import Derived.Test.YtjpfdhhiofjpbaaGreatDoorNQPlacesDecideA
set_option linter.unusedSimpArgs false
set_option linter.unusedVariables false
namespace Go.Proofs.YtjpfdhhiofjpbaaGreatDoor
open Go.RowKit Go.Sort
/-- two worlds that are left are told apart if they must be -/
def Pt.goodQ (t : Pt) (i : Nat) (l : List Tp) (x y : Nat) : Prop := t.unlike i (intL0 t.q.leftL x) (intL0 t.q.leftL y) = true → t.q.someB l (intL0 t.q.leftL x) (intL0 t.q.leftL y) = true
theorem decB_good {t : Pt} {i : Nat} {l : List Tp} {n : Nat} (hn : t.q.leftL.length = n) (h : ∀ x y, x < n → y < x → t.goodQ i l x y) : t.decB i l = true := by
  unfold Pt.decB
  rw [Bool.not_eq_true', anyB_false, hn]
  refine fun x hx => anyB_false.2 fun y hy => ?_
  have h1 := h x y hx hy
  unfold Pt.goodQ at h1
  cases hu : t.unlike i (intL0 t.q.leftL x) (intL0 t.q.leftL y)
  · rfl
  · rw [h1 hu]; rfl
theorem decB_bad {t : Pt} {i : Nat} {l : List Tp} {x y : Nat} (hx : x < t.q.leftL.length) (hy : y < x) (h1 : t.unlike i (intL0 t.q.leftL x) (intL0 t.q.leftL y) = true) (h2 : t.q.someB l (intL0 t.q.leftL x) (intL0 t.q.leftL y) = false) : t.decB i l = false := by
  unfold Pt.decB
  rw [Bool.not_eq_false', anyB_true]
  exact ⟨x, hx, anyB_true.2 ⟨y, hy, by rw [h1, h2]; rfl⟩⟩
theorem someB_none {t : Qt} {l : List Tp} {a b : Int} (h : ∀ z, z < l.length → t.apart (tget l z) a b = false) : t.someB l a b = false := by
  unfold Qt.someB
  rw [← any_tget, anyB_false]
  exact h
theorem someB_hit {t : Qt} {l : List Tp} {a b : Int} {z : Nat} (hz : z < l.length) (h : t.apart (tget l z) a b = true) : t.someB l a b = true := by
  unfold Qt.someB
  rw [← any_tget, anyB_true]
  exact ⟨z, hz, h⟩
set_option maxHeartbeats 16000000 in
set_option maxRecDepth 100000 in
theorem decideP_any (C : Nat) (Aw Af Ao Ap As : Option Addr) (cw cf co cp cs : Nat) (t : Pt) (Al : Option Addr) (cl i : Nat) (A : Option Addr) (c : Nat) (l : List Tp) (w : World) (hst : StreetAt w C Aw Af Ao Ap As cw cf co cp cs t Al cl) (ok : t.Ok) (hi : i < t.ns) (hl : t.q.TestsOk l) (hA : RowAt w A (tstE.cells l)) (hlen : l.length ≤ 100000) :
    Calls Tryz.prog 111 #[.pointer (some ⟨C, 0, none⟩), .int .i64 i, .slice A l.length c] w fun e w' => e = .returned (.bool (t.decB i l)) ∧ Below w.heap.size w w' := by
  have HST := Lib.hid hst
  have HOK := Lib.hid ok
  have HI := Lib.hid hi
  have HLO := Lib.hid hl
  have HAA := Lib.hid hA
  have hl6 := left_len ok.q
  have hcap := hst.sep.2
  have hbx := hst.box
  obtain ⟨n, hn⟩ : ∃ n, t.q.leftL.length = n := ⟨_, rfl⟩
  obtain ⟨m, hm⟩ : ∃ m, l.length = m := ⟨_, rfl⟩
  have HN := Lib.hid hn
  have HM := Lib.hid hm
  rw [hn] at hl6 hcap hbx
  rw [hm] at hlen ⊢
  obtain ⟨B, hB⟩ : ∃ B, t.decB i l = B := ⟨_, rfl⟩
  have HBB := Lib.hid hB
  rw [hB]
  obtain ⟨c0, c1, c2, c3, c4, c5, c6, c7, c8, c9, hCl⟩ := hbx.c10
  clear hst ok hi hl hA hn hm hB hbx
  go_enter Tryz.func111, Tryz.ntmps111
  go_wp2_with fail
  clear c0 c1 c2 c3 c4 c5 c6 c7 c8 c9 hCl
  go_loopg [18] n (fun g s18 wr => ∃ j : Nat, j + g = n ∧ s18 = .int .i64 (j : Int) ∧ (∀ x y, x < j → y < x → t.goodQ i l x y) ∧ Below w.heap.size w wr)
  case atStart => exact ⟨0, by omega, rfl, fun x y h => absurd h (Nat.not_lt_zero _), Below.refl _ _⟩
  case round =>
    obtain ⟨j, hjg, rfl, hgd, hbel⟩ := hrel
    have HGD := Lib.hid hgd
    have HL := Lib.hid hbel
    have hbx := (HST.out.mono hbel).box
    rw [HN.out] at hbx
    obtain ⟨c0, c1, c2, c3, c4, c5, c6, c7, c8, c9, hCl⟩ := hbx.c10
    clear hbel hgd hbx
    cases gk with
    | zero =>
      have h1 : ¬ (j : Int) < (n : Int) := by omega
      have HR := Lib.hid (show B = true by rw [← HBB.out]; exact decB_good HN.out fun x y hx hy => HGD.out x y (by omega) hy)
      go_wp2_with fail
      go_ret
      exact ⟨by rw [HR.out] <;> rfl, HL.out⟩
    | succ g =>
      have h1 : (j : Int) < (n : Int) := by omega
      have hjn : j < n := by omega
      obtain ⟨bl, ol, a, hA4, hbl, cl0, ha, haw⟩ := left_get (t := t) (HST.out.mono HL.out).left (k := j) (by rw [HN.out]; exact hjn)
      subst hA4
      have HAJ := Lib.hid ha
      have HAW := Lib.hid haw
      have j0 : (0 : Int) ≤ (j : Int) := by omega
      have jc : (j : Int) ≤ (cl : Int) := by omega
      clear ha haw
      go_wp2_with fail
      go_step3
      go_wp2_with fail
      go_step3
      go_wp2_with fail
      clear cl0 hbl c0 c1 c2 c3 c4 c5 c6 c7 c8 c9 hCl
      go_loopg [30] j (fun g2 s30 wx => ∃ k : Nat, k + g2 = j ∧ s30 = .int .i64 (k : Int) ∧ (∀ y, y < k → t.goodQ i l j y) ∧ Below w.heap.size w wx)
      case atStart => exact ⟨0, by omega, rfl, fun y h => absurd h (Nat.not_lt_zero _), HL.out⟩
      case round =>
        obtain ⟨k, hkg, rfl, hgk, hbel⟩ := hrel
        have HGK := Lib.hid hgk
        have HX := Lib.hid hbel
        clear hbel hgk
        cases gk with
        | zero =>
          have h2 : ¬ (k : Int) < (j : Int) := by omega
          have HG2 := Lib.hid (show ∀ x y, x < j + 1 → y < x → t.goodQ i l x y from fun x y hx hy => by
            rcases Nat.lt_or_ge x j with h | h
            · exact HGD.out x y h hy
            · obtain rfl : x = j := by omega
              exact HGK.out y (by omega))
          go_wp2_with fail
          go_roundg g
          case measure => omega
          case rel =>
            first
            | exact ⟨j + 1, by omega, by go_num, HG2.out, HX.out⟩
            | ((repeat apply Exists.intro)
               refine ⟨⟨j + 1, by omega, ?_, HG2.out, HX.out⟩, rfl⟩
               go_num)
        | succ g2 =>
          have h2 : (k : Int) < (j : Int) := by omega
          have hkj : k < j := by omega
          obtain ⟨bl', ol', b, hA5, hbl, cl0, hb, hbw⟩ := left_get (t := t) (HST.out.mono HX.out).left (k := k) (by rw [HN.out]; omega)
          simp only [Option.some.injEq, Addr.mk.injEq, and_true] at hA5
          obtain ⟨rfl, rfl⟩ := hA5
          have HBK := Lib.hid hb
          have HBW := Lib.hid hbw
          obtain ⟨u, hu⟩ : ∃ u, t.unlike i (a : Int) (b : Int) = u := ⟨_, rfl⟩
          have HU := Lib.hid hu
          clear hb hbw hu
          go_wp2_with fail
          refine (HU.out ▸ unlikeP_any C Aw Af Ao Ap As cw cf co cp cs t _ cl i a b _ (HST.out.mono HX.out) HOK.out HI.out HAW.out HBW.out).mono ?_
          rintro e w4 ⟨rfl, hb4⟩
          have HX4 := Lib.hid (bTrans HX.out hb4)
          clear hb4 cl0 hbl
          cases u
          · have HG2 := Lib.hid (show ∀ y, y < k + 1 → t.goodQ i l j y from fun y hy => by
              rcases Nat.lt_or_ge y k with h | h
              · exact HGK.out y h
              · obtain rfl : y = k := by omega
                unfold Pt.goodQ
                rw [HAJ.out, HBK.out, HU.out]
                intro h; cases h)
            go_wp2_with fail
            go_roundg g2
            case measure => omega
            case rel =>
              first
              | exact ⟨k + 1, by omega, by go_num, HG2.out, HX4.out⟩
              | ((repeat apply Exists.intro)
                 refine ⟨⟨k + 1, by omega, ?_, HG2.out, HX4.out⟩, rfl⟩
                 go_num)
          · go_wp2_with fail
            go_loopg [42] m (fun g3 s42 wy => ∃ z : Nat, z + g3 = m ∧ s42 = .int .i64 (z : Int) ∧ (∀ y, y < z → t.q.apart (tget l y) (a : Int) (b : Int) = false) ∧ Below w.heap.size w wy)
            case atStart => exact ⟨0, by omega, rfl, fun y h => absurd h (Nat.not_lt_zero _), HX4.out⟩
            case round =>
              obtain ⟨z, hzg, rfl, hgz, hbel⟩ := hrel
              have HGZ := Lib.hid hgz
              have HZ := Lib.hid hbel
              clear hbel hgz
              cases gk with
              | zero =>
                have h3 : ¬ (z : Int) < (m : Int) := by omega
                have HR := Lib.hid (show B = false by
                  rw [← HBB.out]
                  exact decB_bad (x := j) (y := k) (by rw [HN.out]; exact hjn) hkj (by rw [HAJ.out, HBK.out]; exact HU.out) (by rw [HAJ.out, HBK.out]; exact someB_none fun y hy => HGZ.out y (by rw [HM.out] at hy; omega)))
                go_wp2_with fail
                go_ret
                exact ⟨by rw [HR.out] <;> rfl, HZ.out⟩
              | succ g3 =>
                have h3 : (z : Int) < (m : Int) := by omega
                have hzm : z < m := by omega
                have hget := tget_some (l := l) (i := z) (by rw [HM.out]; exact hzm)
                have HTO := Lib.hid (HLO.out _ (tget_mem (l := l) (i := z) (by rw [HM.out]; exact hzm)))
                obtain ⟨x, hx⟩ : ∃ x, tget l z = x := ⟨_, rfl⟩
                rw [hx] at hget HTO
                have HXE := Lib.hid hx
                obtain ⟨bs, os, hAs, hbs, d0, d1⟩ := SliceE.tst (HAA.out.mono HZ.out) hget
                subst hAs
                obtain ⟨p, q⟩ := x
                obtain ⟨v, hv⟩ : ∃ v, t.q.apart (p, q) (a : Int) (b : Int) = v := ⟨_, rfl⟩
                have HV := Lib.hid hv
                clear hx hget hv
                go_wp2_with fail
                refine (HV.out ▸ tellsP_any C Aw Af Ao Ap As cw cf co cp cs t _ cl p q a b _ ((HST.out.mono HZ.out).mono (bAlloc (Below.refl _ _) _)) HOK.out HTO.out.1 HTO.out.2 HAW.out HBW.out).mono ?_
                rintro e w5 ⟨rfl, hb5⟩
                have HZ5 := Lib.hid (bTrans HZ.out (bTrans (bAlloc (Below.refl _ _) _) hb5))
                clear hb5 d0 d1 hbs
                cases v
                · have HG3 := Lib.hid (show ∀ y, y < z + 1 → t.q.apart (tget l y) (a : Int) (b : Int) = false from fun y hy => by
                    rcases Nat.lt_or_ge y z with h | h
                    · exact HGZ.out y h
                    · obtain rfl : y = z := by omega
                      rw [HXE.out]; exact HV.out)
                  go_wp2_with fail
                  go_roundg g3
                  case measure => omega
                  case rel =>
                    first
                    | exact ⟨z + 1, by omega, by go_num, HG3.out, HZ5.out⟩
                    | ((repeat apply Exists.intro)
                       refine ⟨⟨z + 1, by omega, ?_, HG3.out, HZ5.out⟩, rfl⟩
                       go_num)
                · have HG2 := Lib.hid (show ∀ y, y < k + 1 → t.goodQ i l j y from fun y hy => by
                    rcases Nat.lt_or_ge y k with h | h
                    · exact HGK.out y h
                    · obtain rfl : y = k := by omega
                      unfold Pt.goodQ
                      rw [HAJ.out, HBK.out]
                      exact fun _ => someB_hit (z := z) (by rw [HM.out]; exact hzm) (by rw [HXE.out]; exact HV.out))
                  go_wp2_with fail
                  go_roundg g2
                  case measure => omega
                  case rel =>
                    first
                    | exact ⟨k + 1, by omega, by go_num, HG2.out, HZ5.out⟩
                    | ((repeat apply Exists.intro)
                       refine ⟨⟨k + 1, by omega, ?_, HG2.out, HZ5.out⟩, rfl⟩
                       go_num)
end Go.Proofs.YtjpfdhhiofjpbaaGreatDoor

namespace Go.Proofs.YtjpfdhhiofjpbaaGreatDoor
open Go.RowKit Go.Sort
set_option maxHeartbeats 4000000 in
set_option maxRecDepth 100000 in
theorem toldR_any (Aw Af Ao Ap As : Option Addr) (cw cf co cp cs : Nat) (t : Pt) (A : Option Addr) (c : Nat) (l : List Tp) (a b : Nat) (w : World) (ok : t.Ok) (hT : PAt w Aw Af Ao Ap As t) (hl : t.q.TestsOk l) (hlen : l.length ≤ 100000) (hA : RowAt w A (tstE.cells l)) (ha : a < t.q.nw) (hb : b < t.q.nw) :
    Calls Tryz.prog 162 #[.agg #[.int .i64 t.q.wells, .slice Aw t.q.nw cw, .slice Af t.q.nf cf, .slice Ao t.no co, .slice Ap t.np cp, .slice As t.ns cs, .int .i64 t.far, .int .i64 t.harm, .int .i64 t.many], .slice A l.length c, .int .i64 a, .int .i64 b] w fun e w' => e = .returned (.bool (t.q.someB l (a : Int) (b : Int))) ∧ Below w.heap.size w w' := by
  obtain ⟨n, hn⟩ : ∃ n, l.length = n := ⟨_, rfl⟩
  have HN := Lib.hid hn
  rw [hn] at hlen ⊢
  clear hn
  have HD0 := Lib.hid (Below.refl w.heap.size w)
  have HOK := Lib.hid ok
  have HT0 := Lib.hid hT
  have HLO := Lib.hid hl
  have HAA0 := Lib.hid hA
  have HA := Lib.hid ha
  have HB := Lib.hid hb
  clear ok hT hl hA ha hb
  go_enter Tryz.func162, Tryz.ntmps162
  go_wp2_with fail
  go_loopw [9] (fun s9 wr => ∃ k : Nat, k ≤ n ∧ s9 = .int .i64 (k : Int) ∧ (∀ y, y < k → t.q.apart (tget l y) (a : Int) (b : Int) = false) ∧ Below (w.alloc (.cells #[.int .i64 t.q.wells, .slice Aw t.q.nw cw, .slice Af t.q.nf cf, .slice Ao t.no co, .slice Ap t.np cp, .slice As t.ns cs, .int .i64 t.far, .int .i64 t.harm, .int .i64 t.many] 29)).heap.size (w.alloc (.cells #[.int .i64 t.q.wells, .slice Aw t.q.nw cw, .slice Af t.q.nf cf, .slice Ao t.no co, .slice Ap t.np cp, .slice As t.ns cs, .int .i64 t.far, .int .i64 t.harm, .int .i64 t.many] 29)) wr) (fun s9 _ => n - (intOf s9).toNat)
  case atStart => exact ⟨0, Nat.zero_le _, rfl, fun y h => absurd h (Nat.not_lt_zero _), Below.refl _ _⟩
  case round =>
    obtain ⟨k, hk_k, rfl, hno, hb⟩ := hrel
    have HBk := Lib.hid hb
    have HNO := Lib.hid hno
    clear hno
    have hB1 : Below w.heap.size w wr := bTrans (bAlloc (Below.refl _ _) (.cells #[.int .i64 t.q.wells, .slice Aw t.q.nw cw, .slice Af t.q.nf cf, .slice Ao t.no co, .slice Ap t.np cp, .slice As t.ns cs, .int .i64 t.far, .int .i64 t.harm, .int .i64 t.many] 29)) hb
    have HD1 := Lib.hid (bTrans HD0.out hB1)
    have HT1 := Lib.hid (HT0.out.mono hB1)
    have HAA1 := Lib.hid (HAA0.out.mono hB1)
    have HU_k1 := Lib.hid ((show Upto (w.alloc (.cells #[.int .i64 t.q.wells, .slice Aw t.q.nw cw, .slice Af t.q.nf cf, .slice Ao t.no co, .slice Ap t.np cp, .slice As t.ns cs, .int .i64 t.far, .int .i64 t.harm, .int .i64 t.many] 29)) wr from HBk.out))
    have T1 := Lib.hid (show TBox wr w.heap.size 29 #[.int .i64 t.q.wells, .slice Aw t.q.nw cw, .slice Af t.q.nf cf, .slice Ao t.no co, .slice Ap t.np cp, .slice As t.ns cs, .int .i64 t.far, .int .i64 t.harm, .int .i64 t.many] from by have := ((TBox.new w #[.int .i64 t.q.wells, .slice Aw t.q.nw cw, .slice Af t.q.nf cf, .slice Ao t.no co, .slice Ap t.np cp, .slice As t.ns cs, .int .i64 t.far, .int .i64 t.harm, .int .i64 t.many] 29).mono (Below.refl _ _)).mono hb; simpa using this)
    clear hb hB1
    obtain ⟨T_0, T_1, T_2, T_3, T_4, T_5, T_6, T_7, T_8, T_l⟩ := T1.out.c9
    by_cases hlt_k : k < n
    case pos =>
      have h1_k : (k : Int) < (n : Int) := by omega
      have h0_k : (0 : Int) ≤ (k : Int) := by omega
      have hget := tget_some (l := l) (i := k) (by rw [HN.out]; exact hlt_k)
      have HTO := Lib.hid (HLO.out _ (tget_mem (l := l) (i := k) (by rw [HN.out]; exact hlt_k)))
      obtain ⟨x, hx⟩ : ∃ x, tget l k = x := ⟨_, rfl⟩
      rw [hx] at hget HTO
      have HXE := Lib.hid hx
      obtain ⟨bs, os, hAs, hbs, d0, d1⟩ := SliceE.tst HAA1.out hget
      subst hAs
      obtain ⟨p, q⟩ := x
      obtain ⟨v, hv⟩ : ∃ v, t.q.apart (p, q) (a : Int) (b : Int) = v := ⟨_, rfl⟩
      have HV := Lib.hid hv
      have HKN := Lib.hid hlt_k
      clear hx hget hv
      have HF := Lib.hid (fun (w' : World) (hb : Below wr.heap.size wr w') => (HV.out ▸ apart5_any Aw Af cw cf t.q p q a b w' HOK.out.q (HT1.out.mono hb).q HTO.out.1 HTO.out.2 HA.out HB.out : Calls Tryz.prog 181 #[.agg #[.int .i64 t.q.wells, .slice Aw t.q.nw cw, .slice Af t.q.nf cf], .agg #[.int .i64 p, .int .i64 q], .int .i64 a, .int .i64 b] w' fun e w'' => e = .returned (.bool v) ∧ Below w'.heap.size w' w''))
      go_wp2_with fail
      refine wp_region_quiet_below (by kernel_rfl) (by kernel_rfl) ?_
      repeat (go_big_quiet_step (((go_at_call 181; with_reducible exact Calls.regrown_of (HF.out _ (below_regrown _ _ _))))))
      refine wpQuiet_nil ?_
      intro w2 hw9
      have hb := below_of_regrown hw9
      clear hw9
      clear d0 d1 hbs HF
      have hB2 : Below wr.heap.size wr w2 := bTrans (Below.refl _ _) hb
      have HD2 := Lib.hid (bTrans HD1.out hB2)
      have HT2 := Lib.hid (HT1.out.mono hB2)
      have HAA2 := Lib.hid (HAA1.out.mono hB2)
      have HU_k2 := Lib.hid (HU_k1.out.mono hB2)
      have T2 := Lib.hid (T1.out.mono hB2)
      clear hb hB2 HD1 HT1 HAA1 HU_k1 T1 T_0 T_1 T_2 T_3 T_4 T_5 T_6 T_7 T_8 T_l
      obtain ⟨T_0, T_1, T_2, T_3, T_4, T_5, T_6, T_7, T_8, T_l⟩ := T2.out.c9
      cases v
      · skip
        have HN2 := Lib.hid (show ∀ y, y < k + 1 → t.q.apart (tget l y) (a : Int) (b : Int) = false from fun y hy => by
          rcases Nat.lt_or_ge y k with h | h
          · exact HNO.out y h
          · obtain rfl : y = k := by omega
            rw [HXE.out]; exact HV.out)
        go_wp2_with fail
        go_roundw
        case rel =>
          first
          | exact ⟨k + 1, by omega, by go_num, HN2.out, HU_k2.out⟩
          | ((repeat apply Exists.intro)
             refine ⟨⟨k + 1, by omega, ?_, HN2.out, HU_k2.out⟩, rfl⟩
             go_num)
        case measure => simp [intOf]; omega
      · skip
        have HR := Lib.hid (show t.q.someB l (a : Int) (b : Int) = true from someB_hit (z := k) (by rw [HN.out]; exact HKN.out) (by rw [HXE.out]; exact HV.out))
        go_wp2_with fail
        go_ret
        exact ⟨by rw [HR.out] <;> rfl, HD2.out⟩
    have he_k : k = n := by omega
    have hk9 : ¬ (k : Int) < (n : Int) := by omega
    have hk8 : ¬ k < n := by omega
    have HR := Lib.hid (show t.q.someB l (a : Int) (b : Int) = false from someB_none fun y hy => HNO.out y (by rw [HN.out] at hy; omega))
    clear he_k
    go_wp2_with fail
    go_ret
    exact ⟨by rw [HR.out] <;> rfl, HD1.out⟩
set_option maxHeartbeats 4000000 in
set_option maxRecDepth 100000 in
theorem differ9_any (Aw Af Ao Ap As : Option Addr) (cw cf co cp cs : Nat) (t : Pt) (i a b : Nat) (w : World) (ok : t.Ok) (hT : PAt w Aw Af Ao Ap As t) (hi : i < t.ns) (ha : a < t.q.nw) (hb : b < t.q.nw) :
    Calls Tryz.prog 161 #[.agg #[.int .i64 t.q.wells, .slice Aw t.q.nw cw, .slice Af t.q.nf cf, .slice Ao t.no co, .slice Ap t.np cp, .slice As t.ns cs, .int .i64 t.far, .int .i64 t.harm, .int .i64 t.many], .int .i64 i, .int .i64 a, .int .i64 b] w fun e w' => e = .returned (.bool (t.unlike i (a : Int) (b : Int))) ∧ Below w.heap.size w w' := by
  have hno4 : t.no ≤ 4 := by have := ok.no; have := ok.q.w1; omega
  have HD0 := Lib.hid (Below.refl w.heap.size w)
  have HOK := Lib.hid ok
  have HT0 := Lib.hid hT
  have HI := Lib.hid hi
  have HA := Lib.hid ha
  have HB := Lib.hid hb
  clear ok hT hi ha hb
  go_enter Tryz.func161, Tryz.ntmps161
  go_wp2_with fail
  go_loopw [9] (fun s9 wr => ∃ k : Nat, k ≤ t.no ∧ s9 = .int .i64 (k : Int) ∧ (∀ v : Nat, v < k → t.forb i v (a : Int) = t.forb i v (b : Int)) ∧ Below (w.alloc (.cells #[.int .i64 t.q.wells, .slice Aw t.q.nw cw, .slice Af t.q.nf cf, .slice Ao t.no co, .slice Ap t.np cp, .slice As t.ns cs, .int .i64 t.far, .int .i64 t.harm, .int .i64 t.many] 29)).heap.size (w.alloc (.cells #[.int .i64 t.q.wells, .slice Aw t.q.nw cw, .slice Af t.q.nf cf, .slice Ao t.no co, .slice Ap t.np cp, .slice As t.ns cs, .int .i64 t.far, .int .i64 t.harm, .int .i64 t.many] 29)) wr) (fun s9 _ => t.no - (intOf s9).toNat)
  case atStart => exact ⟨0, Nat.zero_le _, rfl, fun v h => absurd h (Nat.not_lt_zero _), Below.refl _ _⟩
  case round =>
    obtain ⟨k, hk_k, rfl, hno, hb⟩ := hrel
    have HBk := Lib.hid hb
    have HNO := Lib.hid hno
    clear hno
    have hB1 : Below w.heap.size w wr := bTrans (bAlloc (Below.refl _ _) (.cells #[.int .i64 t.q.wells, .slice Aw t.q.nw cw, .slice Af t.q.nf cf, .slice Ao t.no co, .slice Ap t.np cp, .slice As t.ns cs, .int .i64 t.far, .int .i64 t.harm, .int .i64 t.many] 29)) hb
    have HD1 := Lib.hid (bTrans HD0.out hB1)
    have HT1 := Lib.hid (HT0.out.mono hB1)
    have HU_k1 := Lib.hid ((show Upto (w.alloc (.cells #[.int .i64 t.q.wells, .slice Aw t.q.nw cw, .slice Af t.q.nf cf, .slice Ao t.no co, .slice Ap t.np cp, .slice As t.ns cs, .int .i64 t.far, .int .i64 t.harm, .int .i64 t.many] 29)) wr from HBk.out))
    have T1 := Lib.hid (show TBox wr w.heap.size 29 #[.int .i64 t.q.wells, .slice Aw t.q.nw cw, .slice Af t.q.nf cf, .slice Ao t.no co, .slice Ap t.np cp, .slice As t.ns cs, .int .i64 t.far, .int .i64 t.harm, .int .i64 t.many] from by have := ((TBox.new w #[.int .i64 t.q.wells, .slice Aw t.q.nw cw, .slice Af t.q.nf cf, .slice Ao t.no co, .slice Ap t.np cp, .slice As t.ns cs, .int .i64 t.far, .int .i64 t.harm, .int .i64 t.many] 29).mono (Below.refl _ _)).mono hb; simpa using this)
    clear hb hB1
    obtain ⟨T_0, T_1, T_2, T_3, T_4, T_5, T_6, T_7, T_8, T_l⟩ := T1.out.c9
    by_cases hlt_k : k < t.no
    case pos =>
      have h1_k : (k : Int) < (t.no : Int) := by omega
      have h0_k : (0 : Int) ≤ (k : Int) := by omega
      have hb_k : k < 100 := by omega
      have hkw : (k : Int) < t.q.wells := by have := HOK.out.no; omega
      have HKW := Lib.hid hkw
      have HKM := Lib.hid (show k < t.m by rw [Pt.m_no HOK.out]; exact hlt_k)
      obtain ⟨fa, hfa⟩ : ∃ f, t.forb i k (a : Int) = f := ⟨_, rfl⟩
      obtain ⟨fb, hfb⟩ : ∃ f, t.forb i k (b : Int) = f := ⟨_, rfl⟩
      have HFA := Lib.hid hfa
      have HFB := Lib.hid hfb
      clear hfa hfb
      have HC1 := Lib.hid (fun (w' : World) (hb : Below wr.heap.size wr w') => (HFA.out ▸ isForb9_any Aw Af Ao Ap As cw cf co cp cs t a i k w' HOK.out (HT1.out.mono hb) HI.out HKW.out HA.out : Calls Tryz.prog 44 #[.agg #[.int .i64 t.q.wells, .slice Aw t.q.nw cw, .slice Af t.q.nf cf, .slice Ao t.no co, .slice Ap t.np cp, .slice As t.ns cs, .int .i64 t.far, .int .i64 t.harm, .int .i64 t.many], .int .i64 a, .int .i64 i, .int .i64 k] w' fun e w'' => e = .returned (.bool fa) ∧ Below w'.heap.size w' w''))
      have HC2 := Lib.hid (fun (w' : World) (hb : Below wr.heap.size wr w') => (HFB.out ▸ isForb9_any Aw Af Ao Ap As cw cf co cp cs t b i k w' HOK.out (HT1.out.mono hb) HI.out HKW.out HB.out : Calls Tryz.prog 44 #[.agg #[.int .i64 t.q.wells, .slice Aw t.q.nw cw, .slice Af t.q.nf cf, .slice Ao t.no co, .slice Ap t.np cp, .slice As t.ns cs, .int .i64 t.far, .int .i64 t.harm, .int .i64 t.many], .int .i64 b, .int .i64 i, .int .i64 k] w' fun e w'' => e = .returned (.bool fb) ∧ Below w'.heap.size w' w''))
      go_wp2_with fail
      refine wp_region_quiet_below (by kernel_rfl) (by kernel_rfl) ?_
      repeat (go_big_quiet_step (((first | (go_at_call 44; with_reducible exact Calls.regrown_of (HC1.out _ (below_regrown _ _ _))) | (go_at_call 44; with_reducible exact Calls.regrown_of (HC2.out _ (below_regrown _ _ _)))))))
      refine wpQuiet_nil ?_
      intro w2 hw9
      have hb := below_of_regrown hw9
      clear hw9
      clear HC1 HC2
      have hB2 : Below wr.heap.size wr w2 := bTrans (Below.refl _ _) hb
      have HD2 := Lib.hid (bTrans HD1.out hB2)
      have HT2 := Lib.hid (HT1.out.mono hB2)
      have HU_k2 := Lib.hid (HU_k1.out.mono hB2)
      have T2 := Lib.hid (T1.out.mono hB2)
      clear hb hB2 HD1 HT1 HU_k1 T1 T_0 T_1 T_2 T_3 T_4 T_5 T_6 T_7 T_8 T_l
      obtain ⟨T_0, T_1, T_2, T_3, T_4, T_5, T_6, T_7, T_8, T_l⟩ := T2.out.c9
      cases fa <;> cases fb
      · skip
        have HN2 := Lib.hid (show ∀ v : Nat, v < k + 1 → t.forb i v (a : Int) = t.forb i v (b : Int) from fun v hv => by
          rcases Nat.lt_or_ge v k with h1 | h1
          · exact HNO.out v h1
          · obtain rfl : v = k := by omega
            rw [HFA.out, HFB.out])
        go_wp2_with fail
        go_roundw
        case rel =>
          first
          | exact ⟨k + 1, by omega, by go_num, HN2.out, HU_k2.out⟩
          | ((repeat apply Exists.intro)
             refine ⟨⟨k + 1, by omega, ?_, HN2.out, HU_k2.out⟩, rfl⟩
             go_num)
        case measure => simp [intOf]; omega
      · skip
        have HR := Lib.hid (show t.unlike i (a : Int) (b : Int) = true from anyB_true.2 ⟨k, HKM.out, by rw [HFA.out, HFB.out]; rfl⟩)
        go_wp2_with fail
        go_ret
        exact ⟨by rw [HR.out] <;> rfl, HD2.out⟩
      · skip
        have HR := Lib.hid (show t.unlike i (a : Int) (b : Int) = true from anyB_true.2 ⟨k, HKM.out, by rw [HFA.out, HFB.out]; rfl⟩)
        go_wp2_with fail
        go_ret
        exact ⟨by rw [HR.out] <;> rfl, HD2.out⟩
      · skip
        have HN2 := Lib.hid (show ∀ v : Nat, v < k + 1 → t.forb i v (a : Int) = t.forb i v (b : Int) from fun v hv => by
          rcases Nat.lt_or_ge v k with h1 | h1
          · exact HNO.out v h1
          · obtain rfl : v = k := by omega
            rw [HFA.out, HFB.out])
        go_wp2_with fail
        go_roundw
        case rel =>
          first
          | exact ⟨k + 1, by omega, by go_num, HN2.out, HU_k2.out⟩
          | ((repeat apply Exists.intro)
             refine ⟨⟨k + 1, by omega, ?_, HN2.out, HU_k2.out⟩, rfl⟩
             go_num)
        case measure => simp [intOf]; omega
    have he_k : k = t.no := by omega
    have hk9 : ¬ (k : Int) < (t.no : Int) := by omega
    have hk8 : ¬ k < t.no := by omega
    have HR := Lib.hid (show t.unlike i (a : Int) (b : Int) = false from anyB_false.2 fun v hv => by rw [HNO.out v (by rw [Pt.m_no HOK.out] at hv; omega)]; simp)
    clear he_k
    go_wp2_with fail
    go_ret
    exact ⟨by rw [HR.out] <;> rfl, HD1.out⟩
set_option maxHeartbeats 4000000 in
set_option maxRecDepth 100000 in
theorem decides9_any (Aw Af Ao Ap As : Option Addr) (cw cf co cp cs : Nat) (t : Pt) (A : Option Addr) (c : Nat) (l : List Tp) (Al : Option Addr) (cl i : Nat) (w : World) (ok : t.Ok) (hT : PAt w Aw Af Ao Ap As t) (hl : t.q.TestsOk l) (hlen : l.length ≤ 100000) (hA : RowAt w A (tstE.cells l)) (hL : IntsAt w Al t.q.leftL.length (intL0 t.q.leftL)) (hi : i < t.ns) :
    Calls Tryz.prog 114 #[.agg #[.int .i64 t.q.wells, .slice Aw t.q.nw cw, .slice Af t.q.nf cf, .slice Ao t.no co, .slice Ap t.np cp, .slice As t.ns cs, .int .i64 t.far, .int .i64 t.harm, .int .i64 t.many], .slice A l.length c, .slice Al t.q.leftL.length cl, .int .i64 i] w fun e w' => e = .returned (.bool (t.decB i l)) ∧ Below w.heap.size w w' := by
  have hl6 := left_len ok.q
  obtain ⟨n, hn⟩ : ∃ n, t.q.leftL.length = n := ⟨_, rfl⟩
  obtain ⟨m, hm⟩ : ∃ m, l.length = m := ⟨_, rfl⟩
  have HN := Lib.hid hn
  have HM := Lib.hid hm
  have hL := (hn ▸ hL : IntsAt w Al n (intL0 t.q.leftL))
  have HLEN := Lib.hid hlen
  rw [hn] at hl6
  rw [hm] at hlen
  rw [hn, hm]
  clear hn hm
  have HD0 := Lib.hid (Below.refl w.heap.size w)
  have HOK := Lib.hid ok
  have HT0 := Lib.hid hT
  have HLO := Lib.hid hl
  have HAA0 := Lib.hid hA
  have HL0 := Lib.hid hL
  have HI := Lib.hid hi
  clear ok hT hl hA hL hi
  go_enter Tryz.func114, Tryz.ntmps114
  go_wp2_with fail
  go_loopw [9] (fun s9 wr => ∃ j : Nat, j ≤ n ∧ s9 = .int .i64 (j : Int) ∧ (∀ x y, x < j → y < x → t.goodQ i l x y) ∧ Below (w.alloc (.cells #[.int .i64 t.q.wells, .slice Aw t.q.nw cw, .slice Af t.q.nf cf, .slice Ao t.no co, .slice Ap t.np cp, .slice As t.ns cs, .int .i64 t.far, .int .i64 t.harm, .int .i64 t.many] 29)).heap.size (w.alloc (.cells #[.int .i64 t.q.wells, .slice Aw t.q.nw cw, .slice Af t.q.nf cf, .slice Ao t.no co, .slice Ap t.np cp, .slice As t.ns cs, .int .i64 t.far, .int .i64 t.harm, .int .i64 t.many] 29)) wr) (fun s9 _ => n - (intOf s9).toNat)
  case atStart => exact ⟨0, Nat.zero_le _, rfl, fun x y h => absurd h (Nat.not_lt_zero _), Below.refl _ _⟩
  case round =>
    obtain ⟨j, hk_j, rfl, hgd, hb⟩ := hrel
    have HBj := Lib.hid hb
    have HGD := Lib.hid hgd
    clear hgd
    have hB1 : Below w.heap.size w wr := bTrans (bAlloc (Below.refl _ _) (.cells #[.int .i64 t.q.wells, .slice Aw t.q.nw cw, .slice Af t.q.nf cf, .slice Ao t.no co, .slice Ap t.np cp, .slice As t.ns cs, .int .i64 t.far, .int .i64 t.harm, .int .i64 t.many] 29)) hb
    have HD1 := Lib.hid (bTrans HD0.out hB1)
    have HT1 := Lib.hid (HT0.out.mono hB1)
    have HAA1 := Lib.hid (HAA0.out.mono hB1)
    have HL1 := Lib.hid (HL0.out.mono hB1)
    have HU_j1 := Lib.hid ((show Upto (w.alloc (.cells #[.int .i64 t.q.wells, .slice Aw t.q.nw cw, .slice Af t.q.nf cf, .slice Ao t.no co, .slice Ap t.np cp, .slice As t.ns cs, .int .i64 t.far, .int .i64 t.harm, .int .i64 t.many] 29)) wr from HBj.out))
    have T1 := Lib.hid (show TBox wr w.heap.size 29 #[.int .i64 t.q.wells, .slice Aw t.q.nw cw, .slice Af t.q.nf cf, .slice Ao t.no co, .slice Ap t.np cp, .slice As t.ns cs, .int .i64 t.far, .int .i64 t.harm, .int .i64 t.many] from by have := ((TBox.new w #[.int .i64 t.q.wells, .slice Aw t.q.nw cw, .slice Af t.q.nf cf, .slice Ao t.no co, .slice Ap t.np cp, .slice As t.ns cs, .int .i64 t.far, .int .i64 t.harm, .int .i64 t.many] 29).mono (Below.refl _ _)).mono hb; simpa using this)
    clear hb hB1
    obtain ⟨T_0, T_1, T_2, T_3, T_4, T_5, T_6, T_7, T_8, T_l⟩ := T1.out.c9
    by_cases hlt_j : j < n
    case pos =>
      have h1_j : (j : Int) < (n : Int) := by omega
      have h0_j : (0 : Int) ≤ (j : Int) := by omega
      have hb_j : j < 100 := by omega
      obtain ⟨bl, ol, a, hA4, hbl, cl0, ha, haw⟩ := left_get (t := t) (HN.out.symm ▸ HL1.out) (by rw [HN.out]; exact hlt_j : j < t.q.leftL.length)
      subst hA4
      have HAJ := Lib.hid ha
      have HAW := Lib.hid haw
      have HJN := Lib.hid hlt_j
      clear ha haw cl0 hbl
      go_wp2_with fail
      obtain ⟨wl256, hwl⟩ : ∃ y, y = wr := ⟨_, rfl⟩
      subst hwl
      clear T_0 T_1 T_2 T_3 T_4 T_5 T_6 T_7 T_8 T_l
      go_loopw [10] (fun s10 wr => ∃ k : Nat, k ≤ j ∧ s10 = .int .i64 (k : Int) ∧ (∀ y, y < k → t.goodQ i l j y) ∧ Below wl256.heap.size wl256 wr) (fun s10 _ => j - (intOf s10).toNat)
      case atStart => exact ⟨0, Nat.zero_le _, rfl, fun y h => absurd h (Nat.not_lt_zero _), Below.refl _ _⟩
      case round =>
        obtain ⟨k, hk_k, rfl, hgk, hb⟩ := hrel
        have HBk := Lib.hid hb
        have HGK := Lib.hid hgk
        clear hgk
        have hB2 : Below wl256.heap.size wl256 wr := bTrans (Below.refl _ _) hb
        have HD2 := Lib.hid (bTrans HD1.out hB2)
        have HT2 := Lib.hid (HT1.out.mono hB2)
        have HAA2 := Lib.hid (HAA1.out.mono hB2)
        have HL2 := Lib.hid (HL1.out.mono hB2)
        have HU_j2 := Lib.hid (HU_j1.out.mono hB2)
        have HU_k2 := Lib.hid ((show Upto wl256 wr from HBk.out))
        have T2 := Lib.hid (T1.out.mono hB2)
        clear hb hB2
        obtain ⟨T_0, T_1, T_2, T_3, T_4, T_5, T_6, T_7, T_8, T_l⟩ := T2.out.c9
        by_cases hlt_k : k < j
        case pos =>
          have h1_k : (k : Int) < (j : Int) := by omega
          have h0_k : (0 : Int) ≤ (k : Int) := by omega
          have hb_k : k < 100 := by omega
          obtain ⟨bl', ol', b, hA5, hbl, cl0, hb, hbw⟩ := left_get (t := t) (HN.out.symm ▸ HL2.out) (k := k) (by rw [HN.out]; omega)
          simp only [Option.some.injEq, Addr.mk.injEq, and_true] at hA5
          obtain ⟨rfl, rfl⟩ := hA5
          obtain ⟨bl'', ol'', a', hA6, _, cl1, ha, _⟩ := left_get (t := t) (HN.out.symm ▸ HL2.out) (k := j) (by rw [HN.out]; omega)
          simp only [Option.some.injEq, Addr.mk.injEq, and_true] at hA6
          obtain ⟨rfl, rfl⟩ := hA6
          obtain rfl : a = a' := by have := HAJ.out.symm.trans ha; omega
          have HBK := Lib.hid hb
          have HBW := Lib.hid hbw
          obtain ⟨u, hu⟩ : ∃ u, t.unlike i (a : Int) (b : Int) = u := ⟨_, rfl⟩
          have HU := Lib.hid hu
          obtain ⟨v, hv⟩ : ∃ v, t.q.someB l (a : Int) (b : Int) = v := ⟨_, rfl⟩
          have HV := Lib.hid hv
          have HKJ := Lib.hid hlt_k
          have hjn1 : (j : Int) < (n : Int) := by have := HJN.out; omega
          have hkn1 : (k : Int) < (n : Int) := by have := HJN.out; omega
          have h0_j : (0 : Int) ≤ (j : Int) := by omega
          clear hb hbw hu hv ha
          have HC1 := Lib.hid (fun (w' : World) (hb : Below wr.heap.size wr w') => (HU.out ▸ differ9_any Aw Af Ao Ap As cw cf co cp cs t i a b w' HOK.out (HT2.out.mono hb) HI.out HAW.out HBW.out : Calls Tryz.prog 161 #[.agg #[.int .i64 t.q.wells, .slice Aw t.q.nw cw, .slice Af t.q.nf cf, .slice Ao t.no co, .slice Ap t.np cp, .slice As t.ns cs, .int .i64 t.far, .int .i64 t.harm, .int .i64 t.many], .int .i64 i, .int .i64 a, .int .i64 b] w' fun e w'' => e = .returned (.bool u) ∧ Below w'.heap.size w' w''))
          have HC2 := Lib.hid (fun (w' : World) (hb : Below wr.heap.size wr w') => (HM.out ▸ HV.out ▸ toldR_any Aw Af Ao Ap As cw cf co cp cs t A c l a b w' HOK.out (HT2.out.mono hb) HLO.out HLEN.out (HAA2.out.mono hb) HAW.out HBW.out : Calls Tryz.prog 162 #[.agg #[.int .i64 t.q.wells, .slice Aw t.q.nw cw, .slice Af t.q.nf cf, .slice Ao t.no co, .slice Ap t.np cp, .slice As t.ns cs, .int .i64 t.far, .int .i64 t.harm, .int .i64 t.many], .slice A m c, .int .i64 a, .int .i64 b] w' fun e w'' => e = .returned (.bool v) ∧ Below w'.heap.size w' w''))
          cases u <;> cases v
          · skip
            have HG2 := Lib.hid (show ∀ y, y < k + 1 → t.goodQ i l j y from fun y hy => by
              rcases Nat.lt_or_ge y k with h | h
              · exact HGK.out y h
              · obtain rfl : y = k := by omega
                unfold Pt.goodQ
                rw [HAJ.out, HBK.out, HU.out, HV.out]
                simp)
            go_wp2_with fail
            refine wp_region_quiet_below (by kernel_rfl) (by kernel_rfl) ?_
            repeat (go_big_quiet_step (((first | (go_at_call 161; with_reducible exact Calls.regrown_of (HC1.out _ (below_regrown _ _ _))) | (go_at_call 162; with_reducible exact Calls.regrown_of (HC2.out _ (below_regrown _ _ _)))))))
            refine wpQuiet_nil ?_
            intro w3 hw9
            have hb := below_of_regrown hw9
            clear hw9
            clear HC1 HC2 cl0 cl1 hbl
            have hB3 : Below wr.heap.size wr w3 := bTrans (Below.refl _ _) hb
            have HD3 := Lib.hid (bTrans HD2.out hB3)
            have HT3 := Lib.hid (HT2.out.mono hB3)
            have HAA3 := Lib.hid (HAA2.out.mono hB3)
            have HL3 := Lib.hid (HL2.out.mono hB3)
            have HU_j3 := Lib.hid (HU_j2.out.mono hB3)
            have HU_k3 := Lib.hid (HU_k2.out.mono hB3)
            have T3 := Lib.hid (T2.out.mono hB3)
            clear hb hB3 HD2 HT2 HAA2 HL2 HU_j2 HU_k2 T2 T_0 T_1 T_2 T_3 T_4 T_5 T_6 T_7 T_8 T_l
            obtain ⟨T_0, T_1, T_2, T_3, T_4, T_5, T_6, T_7, T_8, T_l⟩ := T3.out.c9
            go_wp2_with fail
            go_roundw
            case rel =>
              first
              | exact ⟨k + 1, by omega, by go_num, HG2.out, HU_k3.out⟩
              | ((repeat apply Exists.intro)
                 refine ⟨⟨k + 1, by omega, ?_, HG2.out, HU_k3.out⟩, rfl⟩
                 go_num)
            case measure => simp [intOf]; omega
          · skip
            have HG2 := Lib.hid (show ∀ y, y < k + 1 → t.goodQ i l j y from fun y hy => by
              rcases Nat.lt_or_ge y k with h | h
              · exact HGK.out y h
              · obtain rfl : y = k := by omega
                unfold Pt.goodQ
                rw [HAJ.out, HBK.out, HU.out, HV.out]
                simp)
            go_wp2_with fail
            refine wp_region_quiet_below (by kernel_rfl) (by kernel_rfl) ?_
            repeat (go_big_quiet_step (((first | (go_at_call 161; with_reducible exact Calls.regrown_of (HC1.out _ (below_regrown _ _ _))) | (go_at_call 162; with_reducible exact Calls.regrown_of (HC2.out _ (below_regrown _ _ _)))))))
            refine wpQuiet_nil ?_
            intro w3 hw9
            have hb := below_of_regrown hw9
            clear hw9
            clear HC1 HC2 cl0 cl1 hbl
            have hB3 : Below wr.heap.size wr w3 := bTrans (Below.refl _ _) hb
            have HD3 := Lib.hid (bTrans HD2.out hB3)
            have HT3 := Lib.hid (HT2.out.mono hB3)
            have HAA3 := Lib.hid (HAA2.out.mono hB3)
            have HL3 := Lib.hid (HL2.out.mono hB3)
            have HU_j3 := Lib.hid (HU_j2.out.mono hB3)
            have HU_k3 := Lib.hid (HU_k2.out.mono hB3)
            have T3 := Lib.hid (T2.out.mono hB3)
            clear hb hB3 HD2 HT2 HAA2 HL2 HU_j2 HU_k2 T2 T_0 T_1 T_2 T_3 T_4 T_5 T_6 T_7 T_8 T_l
            obtain ⟨T_0, T_1, T_2, T_3, T_4, T_5, T_6, T_7, T_8, T_l⟩ := T3.out.c9
            go_wp2_with fail
            go_roundw
            case rel =>
              first
              | exact ⟨k + 1, by omega, by go_num, HG2.out, HU_k3.out⟩
              | ((repeat apply Exists.intro)
                 refine ⟨⟨k + 1, by omega, ?_, HG2.out, HU_k3.out⟩, rfl⟩
                 go_num)
            case measure => simp [intOf]; omega
          · skip
            have HR := Lib.hid (show t.decB i l = false from decB_bad (x := j) (y := k) (by rw [HN.out]; exact HJN.out) HKJ.out (by rw [HAJ.out, HBK.out]; exact HU.out) (by rw [HAJ.out, HBK.out]; exact HV.out))
            go_wp2_with fail
            refine wp_region_quiet_below (by kernel_rfl) (by kernel_rfl) ?_
            repeat (go_big_quiet_step (((first | (go_at_call 161; with_reducible exact Calls.regrown_of (HC1.out _ (below_regrown _ _ _))) | (go_at_call 162; with_reducible exact Calls.regrown_of (HC2.out _ (below_regrown _ _ _)))))))
            refine wpQuiet_nil ?_
            intro w3 hw9
            have hb := below_of_regrown hw9
            clear hw9
            clear HC1 HC2 cl0 cl1 hbl
            have hB3 : Below wr.heap.size wr w3 := bTrans (Below.refl _ _) hb
            have HD3 := Lib.hid (bTrans HD2.out hB3)
            have HT3 := Lib.hid (HT2.out.mono hB3)
            have HAA3 := Lib.hid (HAA2.out.mono hB3)
            have HL3 := Lib.hid (HL2.out.mono hB3)
            have HU_j3 := Lib.hid (HU_j2.out.mono hB3)
            have HU_k3 := Lib.hid (HU_k2.out.mono hB3)
            have T3 := Lib.hid (T2.out.mono hB3)
            clear hb hB3 HD2 HT2 HAA2 HL2 HU_j2 HU_k2 T2 T_0 T_1 T_2 T_3 T_4 T_5 T_6 T_7 T_8 T_l
            obtain ⟨T_0, T_1, T_2, T_3, T_4, T_5, T_6, T_7, T_8, T_l⟩ := T3.out.c9
            go_wp2_with fail
            go_ret
            exact ⟨by rw [HR.out] <;> rfl, HD3.out⟩
          · skip
            have HG2 := Lib.hid (show ∀ y, y < k + 1 → t.goodQ i l j y from fun y hy => by
              rcases Nat.lt_or_ge y k with h | h
              · exact HGK.out y h
              · obtain rfl : y = k := by omega
                unfold Pt.goodQ
                rw [HAJ.out, HBK.out, HU.out, HV.out]
                simp)
            go_wp2_with fail
            refine wp_region_quiet_below (by kernel_rfl) (by kernel_rfl) ?_
            repeat (go_big_quiet_step (((first | (go_at_call 161; with_reducible exact Calls.regrown_of (HC1.out _ (below_regrown _ _ _))) | (go_at_call 162; with_reducible exact Calls.regrown_of (HC2.out _ (below_regrown _ _ _)))))))
            refine wpQuiet_nil ?_
            intro w3 hw9
            have hb := below_of_regrown hw9
            clear hw9
            clear HC1 HC2 cl0 cl1 hbl
            have hB3 : Below wr.heap.size wr w3 := bTrans (Below.refl _ _) hb
            have HD3 := Lib.hid (bTrans HD2.out hB3)
            have HT3 := Lib.hid (HT2.out.mono hB3)
            have HAA3 := Lib.hid (HAA2.out.mono hB3)
            have HL3 := Lib.hid (HL2.out.mono hB3)
            have HU_j3 := Lib.hid (HU_j2.out.mono hB3)
            have HU_k3 := Lib.hid (HU_k2.out.mono hB3)
            have T3 := Lib.hid (T2.out.mono hB3)
            clear hb hB3 HD2 HT2 HAA2 HL2 HU_j2 HU_k2 T2 T_0 T_1 T_2 T_3 T_4 T_5 T_6 T_7 T_8 T_l
            obtain ⟨T_0, T_1, T_2, T_3, T_4, T_5, T_6, T_7, T_8, T_l⟩ := T3.out.c9
            go_wp2_with fail
            go_roundw
            case rel =>
              first
              | exact ⟨k + 1, by omega, by go_num, HG2.out, HU_k3.out⟩
              | ((repeat apply Exists.intro)
                 refine ⟨⟨k + 1, by omega, ?_, HG2.out, HU_k3.out⟩, rfl⟩
                 go_num)
            case measure => simp [intOf]; omega
        have he_k : k = j := by omega
        have hk9 : ¬ (k : Int) < (j : Int) := by omega
        have hk8 : ¬ k < j := by omega
        have HG2 := Lib.hid (show ∀ x y, x < j + 1 → y < x → t.goodQ i l x y from fun x y hx hy => by
          rcases Nat.lt_or_ge x j with h | h
          · exact HGD.out x y h hy
          · obtain rfl : x = j := by omega
            exact HGK.out y (by omega))
        clear he_k
        go_wp2_with fail
        go_roundw
        case rel =>
          first
          | exact ⟨j + 1, by omega, by go_num, HG2.out, HU_j2.out⟩
          | ((repeat apply Exists.intro)
             refine ⟨⟨j + 1, by omega, ?_, HG2.out, HU_j2.out⟩, rfl⟩
             go_num)
        case measure => simp [intOf]; omega
    have he_j : j = n := by omega
    have hk9 : ¬ (j : Int) < (n : Int) := by omega
    have hk8 : ¬ j < n := by omega
    have HR := Lib.hid (show t.decB i l = true from decB_good HN.out fun x y hx hy => HGD.out x y (by omega) hy)
    clear he_j
    go_wp2_with fail
    go_ret
    exact ⟨by rw [HR.out] <;> rfl, HD1.out⟩
set_option maxHeartbeats 4000000 in
set_option maxRecDepth 100000 in
theorem lists9_any (tl : List Tp) (A : Option Addr) (c : Nat) (h16 : tl.length ≤ 16) : ∀ (many from_ : Nat) (w : World), many ≤ 100 → from_ ≤ tl.length → RowAt w A (tstE.cells tl) →
    Calls Tryz.prog 115 #[.slice A tl.length c, .int .i64 (from_ : Int), .int .i64 (many : Int)] w fun e w' => (∃ v, e = .returned v ∧ ListsAt w' w.heap.size v (listsL (tl.drop from_) many)) ∧ Below w.heap.size w w' := by
  intro many
  induction many with
  | zero =>
    intro from_ w hm hf hA
    go_enter Tryz.func115, Tryz.ntmps115
    go_wp2_with fail
    go_ret
    refine ⟨⟨_, rfl, ?_⟩, bAlloc (Below.refl _ _) _⟩
    rw [listsL_zero]
    exact ⟨[.slice none 0 0], World.ownsRow_lit (base := w.heap.size) (e := 71) (size := 1) w #[.slice none 0 0] 1 (Nat.le_refl _) (by decide) rfl, rfl, fun j u l h1 h2 => by
      match j, h1, h2 with
      | 0, h1, h2 =>
        simp at h1 h2
        subst h1 h2
        exact ⟨none, 0, rfl, .inl rfl⟩⟩
  | succ many ih =>
    intro from_ w hm hf hA
    have HA := Lib.hid hA
    have HIH := Lib.hid (fun (f : Nat) (w' : World) (h1 : f ≤ tl.length) (h2 : RowAt w' A (tstE.cells tl)) => ih f w' (by omega) h1 h2)
    have HM := Lib.hid hm
    obtain ⟨N, hN⟩ : ∃ N, tl.length = N := ⟨_, rfl⟩
    have HN := Lib.hid hN
    rw [hN] at h16 hf ⊢
    have hmz : ((many + 1 : Nat) : Int) = (many : Int) + 1 := by omega
    have hm0 : ((many : Int) + 1 == 0) = false := by simp; omega
    have hmy : many ≤ 99 := by omega
    rw [hmz]
    clear ih hA hm hN hmz
    go_enter Tryz.func115, Tryz.ntmps115
    go_wp2_with fail
    go_loopw [7, 8] (fun s7 s8 wr => ∃ (n : Nat) (us : List Value), from_ + n ≤ N ∧ s8 = .int .i64 ((from_ + n : Nat) : Int) ∧ wr.ownsRow w.heap.size 71 1 s7 (listsTo tl many from_ n).length us ∧ TRows wr (listsTo tl many from_ n) us ∧ Below w.heap.size w wr) (fun _ s _ => N - (intOf s).toNat)
    case atStart => exact ⟨0, [], by omega, by rw [Nat.add_zero], World.ownsRow_nil _ _ _ _, ⟨rfl, fun j u l h1 _ => by simp at h1⟩, Below.refl _ _⟩
    case round =>
      obtain ⟨n, us, hn, rfl, hown, hrows, hbel⟩ := hrel
      have HO := Lib.hid hown
      have HR := Lib.hid hrows
      have HL := Lib.hid hbel
      obtain ⟨f, hf2⟩ : ∃ f, from_ + n = f := ⟨_, rfl⟩
      have HF := Lib.hid hf2
      rw [hf2] at hn ⊢
      clear hown hrows hbel hf2
      by_cases hlt : f < N
      · have f1 : (f : Int) < (N : Int) := by omega
        have f0 : (0 : Int) ≤ (f : Int) := by omega
        obtain ⟨LL, hLL⟩ : ∃ LL, listsL (tl.drop (f + 1)) many = LL := ⟨_, rfl⟩
        have HC := Lib.hid (by
          have := HIH.out (f + 1) wr (by rw [HN.out]; omega) (HA.out.mono HL.out)
          rw [HN.out, hLL, show ((f + 1 : Nat) : Int) = (f : Int) + 1 by omega] at this
          exact this : Calls Tryz.prog 115 #[.slice A N c, .int .i64 ((f : Int) + 1), .int .i64 (many : Int)] wr fun e w' => (∃ v, e = .returned v ∧ ListsAt w' wr.heap.size v LL) ∧ Below wr.heap.size wr w')
        have HLL := Lib.hid hLL
        obtain ⟨m, hm⟩ : ∃ m, LL.length = m := ⟨_, rfl⟩
        have HMM := Lib.hid hm
        have HSM := Lib.hid (show (listsTo tl many from_ n).length + m ≤ 65536 by
          have := listsTo_small (tl := tl) (k := many) (from_ := from_) (n := n) (by rw [HN.out]; exact h16) (by rw [HF.out, HN.out]; exact hlt)
          rw [HF.out, hLL, hm] at this
          exact this)
        have hm65 : m ≤ 65536 := by have := HSM.out; omega
        clear hLL hm
        go_wp2_with fail
        refine HC.out.mono ?_
        rintro e w2 ⟨⟨v, rfl, us2, ho2, hr2⟩, hb2⟩
        rw [HMM.out] at ho2
        have hV0 := fun g hg => (owns_typed ho2 g hg).1
        obtain ⟨A2, c2, rfl, hk2⟩ := RowK.own ho2
        have HV2 := Lib.hid hk2.row
        have HR2 := Lib.hid hr2
        have HO2 := Lib.hid (owns_below HO.out hb2)
        have HRW2 := Lib.hid (HR.out.kept (Kept.of_below (l := [79]) hb2) (by simp))
        have HB2 := Lib.hid (HL.out.trans (hb2.mono HL.out.size))
        have HAP := Lib.hid (show ApartV u7 A2 from fun g b h1 h2 e => by
          have h3 := HO.out.lt g h1
          subst h2
          have := hV0 b.block rfl
          omega)
        clear ho2 hr2 hb2 hV0 hk2 HC
        go_wp2_with fail
        go_loopw [7, 10] (fun s7 s10 wx => ∃ (k : Nat) (us : List Value), k ≤ m ∧ s10 = .int .i64 (k : Int) ∧ wx.ownsRow w.heap.size 71 1 s7 (listsTo tl many from_ n ++ (LL.take k).map (tget tl f :: ·)).length us ∧ TRows wx (listsTo tl many from_ n ++ (LL.take k).map (tget tl f :: ·)) us ∧ RowAt wx A2 us2 ∧ TRows wx LL us2 ∧ ApartV s7 A2 ∧ Below w.heap.size w wx) (fun _ s _ => m - (intOf s).toNat)
        case atStart => exact ⟨0, us, Nat.zero_le _, rfl, by simpa using HO2.out, by simpa using HRW2.out, HV2.out, HR2.out, HAP.out, HB2.out⟩
        case round =>
          obtain ⟨k, ws, hk, rfl, hown, hrows, hrv, hrl, hap, hbel⟩ := hrel
          have HOX := Lib.hid hown
          have HRX := Lib.hid hrows
          have HVX := Lib.hid hrv
          have HLX := Lib.hid hrl
          have HAX := Lib.hid hap
          have HBX := Lib.hid hbel
          clear hown hrows hrv hrl hap hbel
          by_cases hlk : k < m
          · obtain ⟨l, hl⟩ : ∃ l, LL[k]? = some l := ⟨_, List.getElem?_eq_getElem (by rw [HMM.out]; exact hlk)⟩
            obtain ⟨u, hu⟩ : ∃ u, us2[k]? = some u := ⟨_, List.getElem?_eq_getElem (by rw [HLX.out.1, HMM.out]; exact hlk)⟩
            obtain ⟨Au, cu, rfl, hru⟩ := HLX.out.2 k u l hu hl
            rcases HVX.out with h0 | ⟨b2, o2, rfl, hb2, hc2⟩
            · rw [h0] at hu; simp at hu
            have d0 := hc2 k _ hu
            obtain ⟨x, hx⟩ : ∃ x, tl[f]? = some x := ⟨_, List.getElem?_eq_getElem (by rw [HN.out]; exact hlt)⟩
            obtain ⟨b, o, rfl, hb, c0, c1⟩ := SliceE.tst (HA.out.mono HBX.out) hx
            have hxt : tget tl f = x := by unfold tget; rw [hx]; rfl
            have HRU := Lib.hid hru
            have k1 : (k : Int) < (m : Int) := by omega
            have k0 : (0 : Int) ≤ (k : Int) := by omega
            obtain ⟨nl, hnl⟩ : ∃ nl, l.length = nl := ⟨_, rfl⟩
            have hl16 : nl ≤ 16 := by
              have h1 := List.mem_of_getElem? hl
              rw [← HLL.out] at h1
              have h2 := (listsL_mem.1 h1).1.length_le
              rw [List.length_drop, HN.out] at h2
              omega
            have HNL := Lib.hid hnl
            rw [hnl] at d0
            have HST := Lib.hid (show listsTo tl many from_ n ++ (LL.take (k + 1)).map (tget tl f :: ·) = (listsTo tl many from_ n ++ (LL.take k).map (tget tl f :: ·)) ++ [tget tl f :: l] by
              rw [List.take_add_one, hl]
              simp)
            have HSZ := Lib.hid (show (listsTo tl many from_ n ++ (LL.take k).map (tget tl f :: ·)).length ≤ 65536 by
              have h1 := HSM.out
              have h2 := List.length_take_le k LL
              have h3 := HMM.out
              rw [List.length_append, List.length_map]
              omega)
            obtain ⟨p, q⟩ := x
            have HXT := Lib.hid hxt
            obtain ⟨LN, hLN⟩ : ∃ LN, listsTo tl many from_ n ++ (LL.take k).map (tget tl f :: ·) = LN := ⟨_, rfl⟩
            rw [hLN] at HOX HRX HST HSZ
            obtain ⟨z, hz⟩ : ∃ z, LN.length = z := ⟨_, rfl⟩
            rw [hz] at HOX HSZ
            have HZZ := Lib.hid hz
            clear hru hl hu hc2 hx hxt hnl hLN hz
            go_wp2_with fail
            refine wp_region_pin 12 [.const u7, .const (.slice (some ⟨b, o, none⟩) N c), .const (.int .i64 f), .const (.pointer (some ⟨b, o + f * 2, none⟩)), .const (.agg #[.int .i64 (p : Int), .int .i64 (q : Int)]), .held one1 (newT [.int .i64 (p : Int), .int .i64 (q : Int)]), .const (.slice (some ⟨b2, o2, none⟩) m c2), .const (.int .i64 k), .const (.pointer (some ⟨b2, o2 + k, none⟩)), .const (.slice Au nl cu), .held (ShapeOf (nl + 1)) (rowT (nl + 1) (tstE.cells ((p, q) :: l))), .held one1 (cellT ((p, q) :: l))]
              [] (by kernel_rfl) (by kernel_rfl) rfl ⟨trivial, trivial, trivial, trivial, trivial, newT_G, trivial, trivial, trivial, trivial, rowT_G, cellT_G, trivial⟩ (crossAll_no _ _ _ _ trivial) rfl rfl (fun j u hj => by simp at hj) ?_
            iterate 5 refine wpStir_const (by go_simp) ?_
            refine wpStir_held rfl (fun w' hb hd => ?_) (fun v hv => ?_)
            · clear hd
              go_simp
              refine ⟨bAlloc (Below.refl _ _) _, ⟨_, rfl⟩, fun b' e' => ?_⟩
              obtain rfl : w'.heap.size = b' := by simpa using e'
              exact .inr ⟨_, 0, _, _, rfl, heap_alloc_new _ _, fun j u hj => by simpa using hj⟩
            obtain ⟨bn, rfl⟩ := hv
            iterate 4 refine wpStir_const (by go_simp) ?_
            simp only [Act.put, List.setIfInBounds_toArray, List.set_cons_succ, List.set_cons_zero]
            refine wpStir_held rfl (fun w' hb hd => ?_) (fun v hv => ?_)
            · have h1 : newT [.int .i64 (p : Int), .int .i64 (q : Int)] w' (.slice (some ⟨bn, 0, none⟩) 1 1) := hd.1 (by kernel_rfl)
              clear hd
              exact stir_cons w' (Operand.tmp 38) (Operand.tmp 42) 71 rfl 79 (.agg #[.int .i64 0, .int .i64 0]) 2 16 infoT Tryz.underlying71 rfl (by decide) bn [.int .i64 (p : Int), .int .i64 (q : Int)] rfl Au nl cu (tstE.cells l) rfl (h1 bn rfl) rfl (by rw [Elem.cells_len tstG, HNL.out]; rfl) ((HRU.out.mono hb).row) (by omega) (by decide)
            obtain ⟨b3, c3, rfl⟩ := hv
            refine wpStir_held rfl (fun w' hb hd => ?_) (fun v hv => ?_)
            · have h1 : rowT (nl + 1) (tstE.cells ((p, q) :: l)) w' (.slice (some ⟨b3, 0, none⟩) (nl + 1) c3) := hd.1 (by kernel_rfl)
              clear hd
              obtain ⟨A3, c4, e3, h3⟩ := h1
              injection e3 with e3 _ e4
              subst e3 e4
              go_simp
              refine ⟨bAlloc (Below.refl _ _) _, ⟨_, rfl⟩, fun b' hb' => ?_⟩
              obtain rfl : w'.heap.size = b' := by simpa using hb'
              exact ⟨.slice (some ⟨b3, 0, none⟩) (nl + 1) c3, by simp [go_sem], ⟨some ⟨b3, 0, none⟩, c3, by simp [HNL.out], h3.mono (bAlloc (Below.refl _ _) _)⟩, rfl⟩
            obtain ⟨b4, rfl⟩ := hv
            simp only [Act.put, List.setIfInBounds_toArray, List.set_cons_succ, List.set_cons_zero]
            refine wpStir_end (fun w5 hb5 hd => ?_)
            obtain ⟨u4, h4, h5, h6⟩ := hd.1 b4 rfl
            clear hd
            have HO5 := Lib.hid (owns_below HOX.out hb5)
            have HR5 := Lib.hid (HRX.out.kept (Kept.of_below (l := [79]) hb5) (by simp))
            have HL5 := Lib.hid (HLX.out.kept (Kept.of_below (l := [79]) hb5) (by simp))
            have HV5 := Lib.hid (HVX.out.mono hb5)
            have HB5 := Lib.hid (HBX.out.trans (hb5.mono HBX.out.size))
            have HT5 := Lib.hid h5
            have HBZ := Lib.hid hb5.size
            have hlt5 := Nat.lt_of_lt_of_le hb2 hb5.size
            refine stir_own2 (Operand.tmp 33) (Operand.tmp 44) 124 rfl w.heap.size 71 (.slice none 0 0) 1 24 infoTs Tryz.underlying124 rfl (by decide) u7 z ws rfl HO5.out ⟨b4, 0, none⟩ 1 1 [u4] rfl rfl (news1 h4) (one1c h6) (by unfold maxLen; have := HSZ.out; omega) (by have := HSZ.out; omega) HB5.out.size (fun v' w6 hown6 hg6 hap6 => ?_)
            have HK6 := Lib.hid (Kept.of_own (l := [79]) hg6 HO5.out (by decide))
            have HR6 := Lib.hid ((HR5.out.snoc HT5.out).kept HK6.out (by simp))
            have HL6 := Lib.hid (HL5.out.kept HK6.out (by simp))
            have hne : u7.ownBlock ≠ some b2 := fun e => HAX.out b2 ⟨b2, o2, none⟩ e rfl rfl
            have HV6 := Lib.hid (show RowAt w6 (some ⟨b2, o2, none⟩) us2 from HV5.out.imp id fun ⟨b', o', e', hb', hc'⟩ => by
              injection e' with e'
              injection e' with e1 e2
              subst e1 e2
              exact ⟨b2, o2, rfl, Nat.lt_of_lt_of_le hb' hg6.size, fun j v hj => (cell_of_heap (hg6.block b2 hb' (fun e => hne e.symm)) _).trans (hc' j v hj)⟩)
            have HA6 := Lib.hid (show ApartV v' (some ⟨b2, o2, none⟩) from fun g b' h1 h2 e => by
              injection h2 with h2
              subst h2
              rcases hap6 with h3 | h3
              · rw [h3] at h1
                exact HAX.out g ⟨b2, o2, none⟩ h1 rfl e
              · have := h3 g h1
                have e' : g = b2 := e
                omega)
            have HB6 := Lib.hid (HB5.out.grown hg6 HB5.out.size (fun q hq => (HO5.out.lt q hq).1))
            have HO6 := Lib.hid hown6
            obtain ⟨A6, c6, rfl, _⟩ := RowK.own hown6
            clear hown6 hg6 hap6 hne h4 h5 h6 hb5 hb2 hlt5 d0 c0 c1 hb
            simp only [putF, Act.put, List.setIfInBounds_toArray, List.set_cons_succ, List.set_cons_zero, List.drop_succ_cons, List.drop_zero]
            go_wp2_with fail
            go_roundw
            case rel =>
              refine ⟨k + 1, ws ++ [u4], by omega, ?_, ?_, ?_, HV6.out, HL6.out, HA6.out, HB6.out⟩
              · go_num
              · rw [HST.out, List.length_append, HZZ.out]
                exact HO6.out
              · rw [HST.out, HXT.out]
                exact HR6.out
            case measure => simp [intOf]; omega
          · obtain rfl : k = m := by omega
            have HE := Lib.hid (show listsTo tl many from_ n ++ (LL.take k).map (tget tl f :: ·) = listsTo tl many from_ (n + 1) by
              rw [List.take_of_length_le (by rw [HMM.out]; exact Nat.le_refl _)]
              show _ = listsTo tl many from_ n ++ (listsL (tl.drop (from_ + n + 1)) many).map (tget tl (from_ + n) :: ·)
              rw [HF.out, HLL.out])
            go_wp2_with fail
            go_roundw
            case rel =>
              refine ⟨n + 1, ws, by have := HF.out; omega, ?_, by rw [← HE.out]; exact HOX.out, by rw [← HE.out]; exact HRX.out, HBX.out⟩
              have := HF.out
              rw [show from_ + (n + 1) = f + 1 by omega]
              go_num
            case measure => simp [intOf]; omega
      · obtain rfl : f = N := by omega
        have HZ := Lib.hid (listsTo_all tl many from_ n (by rw [HF.out, HN.out]))
        go_wp2_with fail
        go_ret
        exact ⟨⟨_, rfl, us, by rw [← HZ.out]; exact HO.out, by rw [← HZ.out]; exact HR.out⟩, HL.out⟩
end Go.Proofs.YtjpfdhhiofjpbaaGreatDoor

namespace Go.Proofs.YtjpfdhhiofjpbaaGreatDoor
open Go.RowKit Go.Sort
/-- what find has captured -/
structure FindEnv9 (w : World) (C : Nat) (Aw Af Ao Ap As : Option Addr) (cw cf co cp cs : Nat) (t : Pt) (Al : Option Addr) (cl i bs bp bf : Nat) : Prop where
  street : StreetAt w C Aw Af Ao Ap As cw cf co cp cs t Al cl
  boxS : BoxAt w bs [.pointer (some ⟨C, 0, none⟩)]
  boxI : BoxAt w bp [.int .i64 i]
  boxF : BoxAt w bf [.func (.func 112) #[] #[.pointer (some ⟨bs, 0, none⟩), .pointer (some ⟨bp, 0, none⟩), .pointer (some ⟨bf, 0, none⟩)]]
theorem FindEnv9.mono {w w' : World} {C : Nat} {Aw Af Ao Ap As : Option Addr} {cw cf co cp cs : Nat} {t : Pt} {Al : Option Addr} {cl i bs bp bf : Nat} (h : FindEnv9 w C Aw Af Ao Ap As cw cf co cp cs t Al cl i bs bp bf) (hb : Below w.heap.size w w') : FindEnv9 w' C Aw Af Ao Ap As cw cf co cp cs t Al cl i bs bp bf :=
  ⟨h.street.mono hb, h.boxS.mono hb, h.boxI.mono hb, h.boxF.mono hb⟩
/-- what find hands back -/
def FindOut9 (w : World) (r : Option (List Tp)) (l : List Tp) (e : Ending) : Prop := (∀ x, r = some x → ∃ A c, e = .returned (.tuple #[.slice A (l ++ x).length c, .bool true]) ∧ LstAt w A c (l ++ x)) ∧ (r = none → ∃ v, e = .returned (.tuple #[v, .bool false]))
def tupNo (v : Value) : Prop := ∃ u, v = .tuple #[u, .bool false]
def tupYes (m : Nat) (v : Value) : Prop := ∃ A c, v = .tuple #[.slice A m c, .bool true]
def yesR (m : Nat) (L : List Tp) (w : World) (v : Value) : Prop := ∀ A c, v = .tuple #[.slice A m c, .bool true] → LstAt w A c L
def lstR (m : Nat) (L : List Tp) (w : World) (v : Value) : Prop := ∀ A c, v = .slice A m c → LstAt w A c L
theorem noG : (Stir.held tupNo (fun _ _ => True)).good := ⟨⟨_, undef, rfl⟩, fun _ _ _ _ h => h⟩
theorem freeG : (Stir.held (fun _ => True) (fun _ _ => True)).good := ⟨⟨undef, trivial⟩, fun _ _ _ _ h => h⟩
theorem yesG {m : Nat} {L : List Tp} : (Stir.held (tupYes m) (yesR m L)).good := ⟨⟨_, none, 0, rfl⟩, fun _ _ _ hb h A c e => (h A c e).mono hb⟩
theorem lstG {m : Nat} {L : List Tp} : (Stir.held (ShapeL m) (lstR m L)).good := ⟨⟨_, none, 0, rfl⟩, fun _ _ _ hb h A c e => (h A c e).mono hb⟩
theorem RowAt_drop9 {w : World} {b o : Nat} {R : List Tp} (h : RowAt w (some ⟨b, o, none⟩) (tstE.cells R)) (k : Nat) : RowAt w (some ⟨b, o + k * 2, none⟩) (tstE.cells (R.drop k)) := by
  rcases h with h | ⟨b', o', e, hlt, hc⟩
  · have : R = [] := by
      cases R with
      | nil => rfl
      | cons x R => simp [Elem.cells, tstE] at h
    subst this
    exact .inl (by simp [Elem.cells])
  · injection e with e
    injection e with e1 e2
    subst e1 e2
    refine .inr ⟨b, o + k * 2, rfl, hlt, fun j v hj => ?_⟩
    have h1 : (tstE.cells R)[k * 2 + j]? = some v := by
      rcases Nat.lt_or_ge k R.length with hk | hk
      · rw [← hj]
        rw [show tstE.cells R = tstE.cells (R.take k) ++ tstE.cells (R.drop k) by unfold Elem.cells; rw [← List.flatMap_append, List.take_append_drop]]
        have hl : (tstE.cells (R.take k)).length = k * 2 := by
          have := Elem.cells_len tstG (R.take k)
          rw [this, List.length_take, Nat.min_eq_left (Nat.le_of_lt hk)]
          rfl
        rw [List.getElem?_append_right (by omega), hl, Nat.add_sub_cancel_left]
      · rw [List.drop_eq_nil_of_le hk] at hj
        simp [Elem.cells] at hj
    have := hc _ _ h1
    rw [Nat.add_assoc]
    exact this
set_option maxHeartbeats 8000000 in
set_option maxRecDepth 100000 in
theorem find9_any {C : Nat} {Aw Af Ao Ap As : Option Addr} {cw cf co cp cs : Nat} {t : Pt} {Al : Option Addr} {cl i bs bp bf : Nat} (ok : t.Ok) (hi : i < t.ns) :
    ∀ (left : Nat) (l : List Tp) (A : Option Addr) (c : Nat) (R : List Tp) (A2 : Option Addr) (c2 : Nat) (w : World), FindEnv9 w C Aw Af Ao Ap As cw cf co cp cs t Al cl i bs bp bf → LstAt w A c l → t.q.TestsOk l → l.length + left ≤ 10000 → RowAt w A2 (tstE.cells R) → R.length ≤ c2 → c2 ≤ 9223372036854775807 → t.q.TestsOk R → R.length ≤ 1000 →
    Calls Tryz.prog 112 #[.slice A l.length c, .slice A2 R.length c2, .int .i64 left, .pointer (some ⟨bs, 0, none⟩), .pointer (some ⟨bp, 0, none⟩), .pointer (some ⟨bf, 0, none⟩)] w fun e w' => FindOut9 w' ((listsL R left).find? (fun x => t.decB i (l ++ x))) l e ∧ Below w.heap.size w w' := by
  intro left
  induction left with
  | zero =>
    intro l A c R A2 c2 w hE hL hl hlen hR hrc hc2 hRO hrl
    have HE := Lib.hid hE
    have HL := Lib.hid hL
    obtain ⟨b, hb⟩ : ∃ b, t.decB i l = b := ⟨_, rfl⟩
    have HT := Lib.hid (fun w' hb' => (hb ▸ decideP_any C Aw Af Ao Ap As cw cf co cp cs t Al cl i A c l w' (HE.out.street.mono hb') ok hi hl (HL.out.row.mono hb') (by omega) : Calls Tryz.prog 111 #[.pointer (some ⟨C, 0, none⟩), .int .i64 i, .slice A l.length c] w' fun e w'' => e = .returned (.bool b) ∧ Below w'.heap.size w' w'') : ∀ w', Below w.heap.size w w' → _)
    have HF := Lib.hid (show (listsL R 0).find? (fun x => t.decB i (l ++ x)) = if b then some [] else none by
      rw [listsL_zero, List.find?_cons, List.append_nil, hb]
      cases b <;> rfl)
    have x0 := hE.boxS.lt
    have y0 := hE.boxS.cell 0 _ rfl
    have x1 := hE.boxI.lt
    have y1 := hE.boxI.cell 0 _ rfl
    obtain ⟨n, hn⟩ : ∃ n, l.length = n := ⟨_, rfl⟩
    obtain ⟨r, hr⟩ : ∃ r, R.length = r := ⟨_, rfl⟩
    rw [hn] at HT ⊢
    rw [hr]
    have HLN := Lib.hid hn
    clear hE hL hb hn hl hlen hR hrc hc2 hRO hrl hr
    go_enter Tryz.func112, Tryz.ntmps112
    go_wp2_with fail
    refine (HT.out _ (Below.refl _ _)).mono ?_
    rintro e w1 ⟨rfl, hb1⟩
    cases b
    · go_wp2_with fail
      go_ret2
      exact ⟨⟨(fun x h => by rw [HF.out] at h; cases h), fun _ => ⟨_, rfl⟩⟩, hb1⟩
    · go_wp2_with fail
      go_ret2
      refine ⟨⟨fun x h => ?_, (fun h => by rw [HF.out] at h; cases h)⟩, hb1⟩
      rw [HF.out] at h
      obtain rfl : [] = x := Option.some.inj h
      rw [List.append_nil]
      exact ⟨A, c, by rw [HLN.out]; rfl, HL.out.mono hb1⟩
  | succ left ih =>
    intro l A c R A2 c2 w hE hL hl hlen hR hrc hc2 hRO hrl
    have IH := Lib.hid ih
    clear ih
    have HE := Lib.hid hE
    have HL := Lib.hid hL
    have HLO := Lib.hid hl
    have HR := Lib.hid hR
    have HRO := Lib.hid hRO
    obtain ⟨P, hP⟩ : ∃ P : List Tp → Bool, (fun x => t.decB i (l ++ x)) = P := ⟨_, rfl⟩
    rw [hP]
    have HPP := Lib.hid hP
    have hcap := hL.cap
    obtain ⟨n, hn⟩ : ∃ n, l.length = n := ⟨_, rfl⟩
    obtain ⟨z, hz⟩ : ∃ z, R.length = z := ⟨_, rfl⟩
    rw [hn] at hlen hcap ⊢
    rw [hz] at hrc hrl ⊢
    have HN := Lib.hid hn
    have HZL := Lib.hid hz
    have g0 : (((left + 1 : Nat) : Int) == 0) = false := by simp; omega
    have e5 : IntKind.i64.wrap (left : Int) = (left : Int) := IntWalk.i64_in _ (by omega)
    clear hE hL hl hP hn hz hR hRO
    go_enter Tryz.func112, Tryz.ntmps112
    go_wp2_with fail
    go_loopw [24] (fun i' wr => ∃ j : Nat, i' = .int .i64 j ∧ j ≤ z ∧ (listsL R (left + 1)).find? P = (listsL (R.drop j) (left + 1)).find? P ∧ Below w.heap.size w wr) (fun i' _ => z - (intOf i').toNat)
    case atStart => exact ⟨0, rfl, Nat.zero_le _, rfl, Below.refl _ _⟩
    case round =>
      obtain ⟨j, rfl, hj, hfe, hbel⟩ := hrel
      have HFE := Lib.hid hfe
      have HBL := Lib.hid hbel
      clear hfe hbel
      by_cases hlt : j < z
      · have hget := tget_some (l := R) (i := j) (by rw [HZL.out]; exact hlt)
        obtain ⟨x, hx⟩ : ∃ x, tget R j = x := ⟨_, rfl⟩
        rw [hx] at hget
        have HGET := Lib.hid hget
        have HXO := Lib.hid (HRO.out x (List.mem_of_getElem? hget))
        obtain ⟨b, o, rfl, hbs, c0, c1⟩ := SliceE.tst (HR.out.mono HBL.out) hget
        obtain ⟨p, q⟩ := x
        have HBB := Lib.hid (show Below wr.heap.size wr (wr.alloc (.cells #[.int .i64 p, .int .i64 q] 79)) from bAlloc (Below.refl _ _) _)
        have HE3 := Lib.hid ((HE.out.mono HBL.out).mono HBB.out)
        have x3 := (HE.out.mono HBL.out).boxF.lt
        have y3 := (HE.out.mono HBL.out).boxF.cell 0 _ rfl
        have i1 : (j : Int) < (z : Int) := by omega
        have i0 : (0 : Int) ≤ (j : Int) := by omega
        have n1 : (n : Int) ≤ (c : Int) := by omega
        have n0 : (0 : Int) ≤ (n : Int) := by omega
        have e6 : IntKind.i64.wrap ((j : Int) + 1) = ((j + 1 : Nat) : Int) := by
          rw [show (j : Int) + 1 = ((j + 1 : Nat) : Int) by omega]
          exact IntWalk.i64_in _ (by omega)
        have j1 : (0 : Int) ≤ ((j + 1 : Nat) : Int) := by omega
        have j2 : ((j + 1 : Nat) : Int) ≤ (z : Int) := by omega
        have j3 : (z : Int) ≤ (c2 : Int) := by omega
        have j4 : (0 : Int) ≤ (j : Int) + 1 := by omega
        have j5 : (j : Int) + 1 ≤ (z : Int) := by omega
        obtain ⟨A3, hA3⟩ : ∃ A3 : Option Addr, A3 = (if j + 1 < c2 then some ⟨b, o + (j + 1) * 2, none⟩ else some ⟨b, o, none⟩) := ⟨_, rfl⟩
        obtain ⟨r3, hr3⟩ : ∃ r3, z - (j + 1) = r3 := ⟨_, rfl⟩
        obtain ⟨c3, hc3⟩ : ∃ c3, c2 - (j + 1) = c3 := ⟨_, rfl⟩
        have HA3 := Lib.hid hA3
        have HR3 := Lib.hid hr3
        have HC3 := Lib.hid hc3
        have HRD := Lib.hid (show (R.drop (j + 1)).length = r3 by rw [List.length_drop, HZL.out, hr3])
        have HRR := Lib.hid (show RowAt w A3 (tstE.cells (R.drop (j + 1))) by
          rcases Nat.eq_zero_or_pos r3 with h0 | h0
          · exact .inl (by rw [List.eq_nil_of_length_eq_zero (HRD.out.trans h0)]; rfl)
          · rw [hA3, if_pos (by omega)]
            exact RowAt_drop9 HR.out (j + 1))
        clear hx hget hA3 hr3 hc3
        have HSTEP := Lib.hid (find_step (P := P) (k := left) HGET.out)
        have HFUN := Lib.hid (show (fun y => P ((p, q) :: y)) = (fun x => t.decB i (l ++ [(p, q)] ++ x)) by
          rw [← HPP.out]
          funext y
          simp)
        rw [HFUN.out] at HSTEP
        obtain ⟨r, hr⟩ : ∃ r, (listsL (R.drop (j + 1)) left).find? (fun x => t.decB i (l ++ [(p, q)] ++ x)) = r := ⟨_, rfl⟩
        rw [hr] at HSTEP
        have HIH := Lib.hid (fun (g c4 : Nat) (w' : World) (hb : Below (wr.alloc (.cells #[.int .i64 p, .int .i64 q] 79)).heap.size (wr.alloc (.cells #[.int .i64 p, .int .i64 q] 79)) w') (hown : OwnE tstE w' 0 (.slice (some ⟨g, 0, none⟩) (n + 1) c4) (l ++ [(p, q)])) => (by
          obtain ⟨g', c', e1, hlst⟩ := hown.lst (by simp)
          simp only [Value.slice.injEq, Option.some.injEq, Addr.mk.injEq, and_true] at e1
          obtain ⟨rfl, e3, rfl⟩ := e1
          have hbw : Below wr.heap.size wr w' := bTrans HBB.out hb
          have h := IH.out (l ++ [(p, q)]) _ _ (R.drop (j + 1)) A3 c3 w' (HE3.out.mono hb) hlst (fun y hy => by
            rcases List.mem_append.1 hy with hy | hy
            · exact HLO.out y hy
            · rw [List.mem_singleton.1 hy]; exact HXO.out) (by rw [List.length_append, HN.out]; simp; omega) ((HRR.out.mono HBL.out).mono hbw) (by rw [HRD.out]; have := HR3.out; have := HC3.out; omega) (by have := HC3.out; omega) (fun y hy => HRO.out y (List.mem_of_mem_drop hy)) (by rw [HRD.out]; have := HR3.out; omega)
          rw [show (l ++ [(p, q)]).length = n + 1 by rw [List.length_append, HN.out]; rfl, HRD.out, hr] at h
          exact h : Calls Tryz.prog 112 #[.slice (some ⟨g, 0, none⟩) (n + 1) c4, .slice A3 r3 c3, .int .i64 (left : Int), .pointer (some ⟨bs, 0, none⟩), .pointer (some ⟨bp, 0, none⟩), .pointer (some ⟨bf, 0, none⟩)] w' fun e w'' => FindOut9 w'' r (l ++ [(p, q)]) e ∧ Below w'.heap.size w' w''))
        clear hr
        cases r with
        | none =>
          have HF2 := Lib.hid (HFE.out.trans HSTEP.out)
          go_wp2_with fail
          refine wp_region_stir 22 [.const (.func (.func 112) #[] #[.pointer (some ⟨bs, 0, none⟩), .pointer (some ⟨bp, 0, none⟩), .pointer (some ⟨bf, 0, none⟩)]), .const (.slice A n c), .const (.slice A n c), .const (.int .i64 n), .const (.slice A n c), .const (.int .i64 n), .const (.slice A n n), .const (.agg #[.int .i64 p, .int .i64 q]),
            .held oneS (oneR (p, q)), .held (ShapeOf (n + 1)) (fun w v => OwnE tstE w 0 v (l ++ [(p, q)])), .const (.slice (some ⟨b, o, none⟩) z c2), .const (.int .i64 j), .const (.int .i64 ((j + 1 : Nat) : Int)), .const (.slice A3 r3 c3), .const (.int .i64 ((left + 1 : Nat) : Int)), .const (.int .i64 left), .held tupNo (fun _ _ => True), .held tupNo (fun _ _ => True), .held (fun _ => True) (fun _ _ => True), .const (.bool false), .held (fun _ => True) (fun _ _ => True), .const (.bool false)] (by kernel_rfl) (by kernel_rfl) rfl ⟨trivial, trivial, trivial, trivial, trivial, trivial, trivial, trivial, oneG _, ownG _ _ _, trivial, trivial, trivial, trivial, trivial, trivial, noG, noG, freeG, trivial, freeG, trivial, trivial⟩ (crossAll_no _ _ _ _ trivial) ?_
          iterate 8 refine wpStir_const (by go_simp) ?_
          refine wpStir_held rfl (fun w' hb hd => ?_) (fun v hv => ?_)
          · go_simp
            exact ⟨bAlloc (Below.refl _ _) _, ⟨_, rfl⟩, oneR_new (p, q) w'⟩
          obtain ⟨b1, rfl⟩ := hv
          simp only [Act.put, List.setIfInBounds_toArray, List.set_cons_succ, List.set_cons_zero]
          refine wpStir_held rfl (fun w' hb hd => ?_) (fun v hv => ?_)
          · rw [show ShapeOf (n + 1) = ShapeOf (l.length + 1) by rw [HN.out]]
            refine stir_full tstG w' (Operand.tmp 36) (Operand.tmp 38) rfl A l (p, q) ?_ HL.out.none (((HL.out.row.mono HBL.out).mono HBB.out).mono hb) b1 rfl (hd.1 (by kernel_rfl) b1 rfl).2 (by rw [HN.out]; omega) 0 (Nat.zero_le _)
            rw [HN.out]
            rfl
          obtain ⟨g, c4, rfl⟩ := hv
          iterate 3 refine wpStir_const (by go_simp) ?_
          refine wpStir_const (by
            have h1 := HA3.out
            have h2 := HR3.out
            have h3 := HC3.out
            rcases Nat.lt_or_ge (j + 1) c2 with h | h
            · rw [if_pos h] at h1
              have h5 : ¬ c2 = j + 1 := by omega
              have h6 : ¬ j + 1 = c2 := by omega
              subst h1 h2 h3
              clear HA3 HR3 HC3 HRD HRR HIH
              go_simp
            · rw [if_neg (by omega)] at h1
              have h4 : z = j + 1 := by omega
              have h5 : c2 = j + 1 := by omega
              subst h1 h2 h3
              clear HA3 HR3 HC3 HRD HRR HIH
              subst h4 h5
              go_simp) ?_
          iterate 2 refine wpStir_const (by go_simp) ?_
          simp only [Act.put, List.setIfInBounds_toArray, List.set_cons_succ, List.set_cons_zero]
          refine wpStir_held rfl (fun w' hb hd => ?_) (fun v hv => ?_)
          · have hown : OwnE tstE w' 0 (.slice (some ⟨g, 0, none⟩) (n + 1) c4) (l ++ [(p, q)]) := hd.1 (by kernel_rfl)
            clear hd
            have hcall := Lib.hid (HIH.out g c4 w' hb hown)
            go_simp
            refine hcall.out.mono ?_
            rintro e w'' ⟨⟨ho1, ho2⟩, hb'⟩
            obtain ⟨v7, rfl⟩ := ho2 rfl
            exact ⟨_, rfl, hb', _, rfl⟩
          obtain ⟨v7, rfl⟩ := hv
          refine wpStir_held rfl (fun w' hb hd => ?_) (fun v hv => ?_)
          · clear hd
            go_simp
            exact ⟨_, rfl⟩
          obtain ⟨v8, rfl⟩ := hv
          refine wpStir_held rfl (fun w' hb hd => ?_) (fun v9 hv => ?_)
          · clear hd
            go_simp
          refine wpStir_const (by go_simp) ?_
          refine wpStir_held rfl (fun w' hb hd => ?_) (fun v10 hv => ?_)
          · clear hd
            go_simp
          refine wpStir_const (by go_simp) ?_
          refine wpStir_end (fun w5 hb5 hd => ?_)
          clear hd
          have HB6 := Lib.hid (bTrans HBL.out (bTrans HBB.out hb5))
          clear hb5
          simp only [List.drop_succ_cons, List.drop_zero]
          simp only [Act.put, List.setIfInBounds_toArray, List.set_cons_succ, List.set_cons_zero]
          clear c0 c1 x3 y3 hbs
          go_wp2_with fail
          go_roundw
          case rel =>
            first
            | exact ⟨j + 1, by go_num, by omega, HF2.out, HB6.out⟩
            | ((repeat apply Exists.intro)
               refine ⟨⟨j + 1, ?_, by omega, HF2.out, HB6.out⟩, rfl⟩
               go_num)
          case measure => simp [intOf]; omega
        | some y =>
          have HF2 := Lib.hid (HFE.out.trans HSTEP.out)
          obtain ⟨m2, hm2⟩ : ∃ m2, (l ++ [(p, q)] ++ y).length = m2 := ⟨_, rfl⟩
          have HLE := Lib.hid (show m2 = (l ++ (p, q) :: y).length by rw [← hm2]; simp)
          have HM2 := Lib.hid hm2
          clear hm2
          go_wp2_with fail
          refine wp_region_stir 22 [.const (.func (.func 112) #[] #[.pointer (some ⟨bs, 0, none⟩), .pointer (some ⟨bp, 0, none⟩), .pointer (some ⟨bf, 0, none⟩)]), .const (.slice A n c), .const (.slice A n c), .const (.int .i64 n), .const (.slice A n c), .const (.int .i64 n), .const (.slice A n n), .const (.agg #[.int .i64 p, .int .i64 q]),
            .held oneS (oneR (p, q)), .held (ShapeOf (n + 1)) (fun w v => OwnE tstE w 0 v (l ++ [(p, q)])), .const (.slice (some ⟨b, o, none⟩) z c2), .const (.int .i64 j), .const (.int .i64 ((j + 1 : Nat) : Int)), .const (.slice A3 r3 c3), .const (.int .i64 ((left + 1 : Nat) : Int)), .const (.int .i64 left), .held (tupYes m2) (yesR m2 (l ++ (p, q) :: y)), .held (tupYes m2) (yesR m2 (l ++ (p, q) :: y)), .held (ShapeL m2) (lstR m2 (l ++ (p, q) :: y)), .const (.bool true), .held (ShapeL m2) (lstR m2 (l ++ (p, q) :: y)), .const (.bool true)] (by kernel_rfl) (by kernel_rfl) rfl ⟨trivial, trivial, trivial, trivial, trivial, trivial, trivial, trivial, oneG _, ownG _ _ _, trivial, trivial, trivial, trivial, trivial, trivial, yesG, yesG, lstG, trivial, lstG, trivial, trivial⟩ (crossAll_no _ _ _ _ trivial) ?_
          iterate 8 refine wpStir_const (by go_simp) ?_
          refine wpStir_held rfl (fun w' hb hd => ?_) (fun v hv => ?_)
          · go_simp
            exact ⟨bAlloc (Below.refl _ _) _, ⟨_, rfl⟩, oneR_new (p, q) w'⟩
          obtain ⟨b1, rfl⟩ := hv
          simp only [Act.put, List.setIfInBounds_toArray, List.set_cons_succ, List.set_cons_zero]
          refine wpStir_held rfl (fun w' hb hd => ?_) (fun v hv => ?_)
          · rw [show ShapeOf (n + 1) = ShapeOf (l.length + 1) by rw [HN.out]]
            refine stir_full tstG w' (Operand.tmp 36) (Operand.tmp 38) rfl A l (p, q) ?_ HL.out.none (((HL.out.row.mono HBL.out).mono HBB.out).mono hb) b1 rfl (hd.1 (by kernel_rfl) b1 rfl).2 (by rw [HN.out]; omega) 0 (Nat.zero_le _)
            rw [HN.out]
            rfl
          obtain ⟨g, c4, rfl⟩ := hv
          iterate 3 refine wpStir_const (by go_simp) ?_
          refine wpStir_const (by
            have h1 := HA3.out
            have h2 := HR3.out
            have h3 := HC3.out
            rcases Nat.lt_or_ge (j + 1) c2 with h | h
            · rw [if_pos h] at h1
              have h5 : ¬ c2 = j + 1 := by omega
              have h6 : ¬ j + 1 = c2 := by omega
              subst h1 h2 h3
              clear HA3 HR3 HC3 HRD HRR HIH
              go_simp
            · rw [if_neg (by omega)] at h1
              have h4 : z = j + 1 := by omega
              have h5 : c2 = j + 1 := by omega
              subst h1 h2 h3
              clear HA3 HR3 HC3 HRD HRR HIH
              subst h4 h5
              go_simp) ?_
          iterate 2 refine wpStir_const (by go_simp) ?_
          simp only [Act.put, List.setIfInBounds_toArray, List.set_cons_succ, List.set_cons_zero]
          refine wpStir_held rfl (fun w' hb hd => ?_) (fun v hv => ?_)
          · have hown : OwnE tstE w' 0 (.slice (some ⟨g, 0, none⟩) (n + 1) c4) (l ++ [(p, q)]) := hd.1 (by kernel_rfl)
            clear hd
            have hcall := Lib.hid (HIH.out g c4 w' hb hown)
            go_simp
            refine hcall.out.mono ?_
            rintro e w'' ⟨⟨ho1, ho2⟩, hb'⟩
            obtain ⟨A7, c7, rfl, hl2⟩ := ho1 y rfl
            rw [HM2.out]
            refine ⟨_, rfl, hb', ⟨_, _, rfl⟩, fun A c e => ?_⟩
            obtain ⟨rfl, rfl⟩ : A7 = A ∧ c7 = c := by simpa using e
            rw [List.append_assoc] at hl2
            exact hl2
          obtain ⟨A5, c5, rfl⟩ := hv
          refine wpStir_held rfl (fun w' hb hd => ?_) (fun v hv => ?_)
          · have hq : yesR m2 (l ++ (p, q) :: y) w' _ := hd.1 (by kernel_rfl)
            clear hd
            go_simp
            first | exact ⟨⟨_, _, rfl⟩, hq⟩ | exact ⟨_, _, rfl⟩
          obtain ⟨A6, c6, rfl⟩ := hv
          refine wpStir_held rfl (fun w' hb hd => ?_) (fun v hv => ?_)
          · have hq := (show yesR m2 (l ++ (p, q) :: y) w' (.tuple #[.slice A6 m2 c6, .bool true]) from hd.1 (by kernel_rfl)) A6 c6 rfl
            clear hd
            go_simp
            refine ⟨⟨_, _, rfl⟩, fun A c e => ?_⟩
            obtain ⟨rfl, rfl⟩ : A6 = A ∧ c6 = c := by simpa using e
            exact hq
          obtain ⟨A8, c8, rfl⟩ := hv
          refine wpStir_const (by go_simp) ?_
          refine wpStir_held rfl (fun w' hb hd => ?_) (fun v hv => ?_)
          · have hq := (show lstR m2 (l ++ (p, q) :: y) w' (.slice A8 m2 c8) from hd.1 (by kernel_rfl)) A8 c8 rfl
            clear hd
            go_simp
            refine ⟨⟨_, _, rfl⟩, fun A c e => ?_⟩
            obtain ⟨rfl, rfl⟩ : A8 = A ∧ c8 = c := by simpa using e
            exact hq
          obtain ⟨A7, c7, rfl⟩ := hv
          refine wpStir_const (by go_simp) ?_
          refine wpStir_end (fun w5 hb5 hd => ?_)
          have HB6 := Lib.hid (bTrans HBL.out (bTrans HBB.out hb5))
          clear hb5
          simp only [List.drop_succ_cons, List.drop_zero]
          simp only [Act.put, List.setIfInBounds_toArray, List.set_cons_succ, List.set_cons_zero]
          have HL2 := Lib.hid (show LstAt w5 A7 c7 (l ++ (p, q) :: y) from hd.1 A7 c7 rfl)
          clear hd
          clear c0 c1 x3 y3 hbs
          go_wp2_with fail
          go_ret2
          refine ⟨⟨fun x hx => ?_, (fun h => by rw [HF2.out] at h; cases h)⟩, HB6.out⟩
          rw [HF2.out] at hx
          obtain rfl : (p, q) :: y = x := Option.some.inj hx
          exact ⟨A7, c7, by rw [← HLE.out]; rfl, HL2.out⟩
      · obtain rfl : j = z := by omega
        have HFN := Lib.hid (HFE.out.trans (find_end (by rw [HZL.out]; omega)))
        go_wp2_with fail
        go_ret2
        exact ⟨⟨(fun x h => by rw [HFN.out] at h; cases h), fun _ => ⟨_, rfl⟩⟩, HBL.out⟩
end Go.Proofs.YtjpfdhhiofjpbaaGreatDoor

namespace Go.Proofs.YtjpfdhhiofjpbaaGreatDoor
open Go.RowKit Go.Sort
section
variable {P : Program}
/-- a store (op n) waits for all but perhaps op i0; what comes behind waits for all -/
def lateB2 (md : Region.Mode) (ops : Array Oper) (n i0 : Nat) : Bool :=
  orderedB md ops && decide (n < ops.size) && (List.range ops.size).all fun i => decide (i < n) || (List.range i).all fun j => reach md ops 6 i j || (i == n && j == i0)
/-- what is owed where the store comes: it is carried out, and the rest goes on -/
def LateFin2 (P : Program) (ops : Array Oper) (Q : Exit → Act → World → Prop) (on : Oper) (rest : List Oper) (a : Act) (w : World) : Prop := ∃ w'', (execOp a.eval on).run P w = .ok .skip w'' ∧ wpList P ops Q rest a w''
theorem wp_region_late {rid : Nat} {Q : Exit → Act → World → Prop} {a : Act} {w : World} {l : List Oper} (n i0 : Nat) (hs : List Stir) {on : Oper} (hm : P.follows .mixedOrders = true) (hB : lateB2 .any l.toArray n i0 = true) (hn : hs.length = n) (hg : goodAllS hs) (hx : crossAll .any l.toArray w.heap.size hs)
    (hon : l[n]? = some on) (hond : on.dst = none) (hong : on.guard = none) (hi0 : i0 < n → ∃ c0 o0 x j, hs[i0]? = some (.const c0) ∧ l[i0]? = some o0 ∧ o0.op = .extract x j ∧ o0.guard = none)
    (h : wpStir P .any l.toArray w (LateFin2 P l.toArray Q on (l.drop (n + 1))) 0 l hs a []) : (Code.region rid l.toArray true).wp P Q a w := by
  unfold lateB2 at hB
  simp only [Bool.and_eq_true, decide_eq_true_eq, List.all_eq_true, List.mem_range, Bool.or_eq_true, beq_iff_eq] at hB
  obtain ⟨⟨hord, hnl⟩, htail⟩ := hB
  have H := ordered_of hord
  have hsz : l.toArray.size = l.length := by simp
  have honA : l.toArray[n]? = some on := by simpa using hon
  have key : ∀ V : Nat → Value, (∀ (k : Nat) (h : Stir), hs[k]? = some h → h.sh (V k)) → _ := fun V hV =>
    wpStir_at (P := P) (md := .any) (ops := l.toArray) (W := w) (Q := LateFin2 P l.toArray Q on (l.drop (n + 1))) (a0 := a) hV hs 0 l (fun j => by simp) (fun j => by simp) (by omega) h
  have hwit : ∃ V : Nat → Value, ∀ (k : Nat) (h : Stir), hs[k]? = some h → h.sh (V k) := by
    have hx : ∀ k : Nat, ∃ v : Value, ∀ h : Stir, hs[k]? = some h → h.sh v := fun k => by
      cases e : hs[k]? with
      | none => exact ⟨undef, fun h hh => by cases hh⟩
      | some h =>
        obtain ⟨v, hv⟩ := Stir.some (goodAllS_at hg e)
        exact ⟨v, fun h' hh => by injection hh with hh; subst hh; exact hv⟩
    exact ⟨fun k => (hx k).choose, fun k => (hx k).choose_spec⟩
  have final : ∀ (V : Nat → Value) (listed : Array Bool) (w' : World), (∀ (k : Nat) (h : Stir), hs[k]? = some h → h.sh (V k)) → Below w.heap.size w w' → (∀ j, j < n → listed.getD j false = true) → (∀ j, n ≤ j → listed.getD j false = false) → (∀ (j : Nat) (h : Stir), hs[j]? = some h → h.r w' (V j)) →
      LateFin2 P l.toArray Q on (l.drop (n + 1)) (frameOf l.toArray V (fun k => listed.getD k false) a l.toArray.size) w' := by
    intro V listed w' hV hb hall hno hr
    obtain ⟨p, rfl⟩ := regrown_of_below hb
    have := (key V hV).2 p (allS_all _ fun j h hj hjh => hr j h hjh)
    rw [hn] at this
    have e1 : frameOf l.toArray V (fun k => listed.getD k false) a n = frameOf l.toArray V (fun _ => true) a n := frameOf_congr n fun j hj => ⟨hall j hj, fun _ => rfl⟩
    have e2 : ∀ m, n ≤ m → frameOf l.toArray V (fun k => listed.getD k false) a m = frameOf l.toArray V (fun k => listed.getD k false) a n := by
      intro m
      induction m with
      | zero => intro hm'; obtain rfl : n = 0 := by omega
                rfl
      | succ m ih =>
        intro hm'
        rcases Nat.eq_or_lt_of_le hm' with e | e
        · rw [e]
        · rw [frameOf, ih (by omega), if_neg]; rw [hno m (by omega)]; exact Bool.false_ne_true
    rw [e2 _ (Nat.le_of_lt hnl), e1]
    exact this
  have storeOp : ∀ (a1 : Act) (w1 w2 : World) (K : Act → World → Prop), (execOp a1.eval on).run P w1 = .ok .skip w2 → K a1 w2 → wpOp P l.toArray Q n K a1 w1 := fun a1 w1 w2 K hrun hK => by
    unfold Go.wpOp
    simp only [honA]
    have hw : Region.wanted on (yielded l.toArray a1.tmps) = true := by unfold Region.wanted; rw [hong]
    rw [if_pos hw]
    refine .inl ?_
    unfold Oper.wp
    rw [hrun]
    simp only [Oper.upon]
    rw [hond]
    exact hK
  refine wp_region_any hm ?_
  refine wpAny_inv (fun listed a' w' => ((∀ j, n ≤ j → listed.getD j false = false) ∧ ∃ V : Nat → Value, (∀ (k : Nat) (h : Stir), hs[k]? = some h → h.sh (V k)) ∧ a' = frameOf l.toArray V (fun k => listed.getD k false) a l.toArray.size ∧ Below w.heap.size w w' ∧ ∀ (j : Nat) (h : Stir), hs[j]? = some h → listed.getD j false = true → h.r w' (V j)) ∨
      (i0 < n ∧ listed.getD i0 false = false ∧ (∀ j, j ≤ n → j ≠ i0 → listed.getD j false = true) ∧ (∀ j, n + 1 ≤ j → listed.getD j false = false) ∧ ∃ A c0 o0 a0, l.toArray[i0]? = some o0 ∧ o0.guard = none ∧ a'.put o0.dst c0 = A ∧ (∀ w, (execOp a0 o0).run P w = .ok (.value c0) w) ∧ (execOp a'.eval o0) = execOp a0 o0 ∧ wpList P l.toArray Q (l.drop (n + 1)) A w') ∨
      ∃ m, n + 1 ≤ m ∧ (∀ j, j < m → listed.getD j false = true) ∧ (∀ j, m ≤ j → listed.getD j false = false) ∧ wpList P l.toArray Q (l.drop m) a' w') ?_ ?_ _ _ _ _ (left_le _ _) Shut.none (.inl ⟨fun j _ => ?_, ?_⟩)
  · intro listed a' w' i hsh hI hr
    obtain ⟨hun, oi, hoi, _⟩ := mem_ready.1 hr
    have hi : i < l.toArray.size := (Array.getElem?_eq_some_iff.1 hoi).1
    have hil : i < listed.size := by rw [hsh.size]; exact hi
    have hunf := listed_both hun
    have hset : (listed.setIfInBounds i true).getD i false = true := set_same hil false
    rcases hI with ⟨hno, V, hV, rfl, hb, hrr⟩ | ⟨h0n, h0u, hall, hno, A, c0, o0, a0, ho0, hg0, hA, hex, hea, hw⟩ | ⟨m, hnm, hall, hno, hw⟩
    · rcases Nat.lt_trichotomy i n with hin | hin | hin
      · -- an operation of the first part
        have hx' : ∃ h, hs[i]? = some h := ⟨hs[i]'(by omega), by simp⟩
        obtain ⟨hh, hhi⟩ := hx'
        obtain ⟨o', ho', hask⟩ := (key V hV).1 i hh (Nat.zero_le _) hhi
        obtain rfl : oi = o' := Option.some.inj (hoi.symm.trans ho')
        have hsee := H.sees (V := V) (V' := V) (M := fun _ => true) (a := a) hsh hoi hr (fun k _ hk => by cases hk) (fun _ _ => rfl)
        have hput : ∀ v, (frameOf l.toArray V (fun k => listed.getD k false) a l.toArray.size).put oi.dst v = frameOf l.toArray (fun k => if k = i then v else V k) (fun k => (listed.setIfInBounds i true).getD k false) a l.toArray.size := fun v => by
          have e1 : dstOf l.toArray i = oi.dst := by simp [dstOf, hoi]
          rw [H.frame_put hsh hi hun, e1, if_pos rfl]
          congr 1
          exact frameOf_congr _ fun j _ => ⟨rfl, fun hj => by rw [if_neg (fun e => by subst e; rw [hunf] at hj; cases hj)]⟩
        have hnext : ∀ v w'', Below w.heap.size w' w'' → (∀ (j : Nat) (h : Stir), hs[j]? = some h → j ≠ i → listed.getD j false = true → h.r w' (V j) → h.r w'' (V j)) → hh.r w'' v → ((∀ j, n ≤ j → (listed.setIfInBounds i true).getD j false = false) ∧ ∃ V' : Nat → Value, (∀ (k : Nat) (h : Stir), hs[k]? = some h → h.sh (V' k)) ∧ (frameOf l.toArray V (fun k => listed.getD k false) a l.toArray.size).put oi.dst v = frameOf l.toArray V' (fun k => (listed.setIfInBounds i true).getD k false) a l.toArray.size ∧ Below w.heap.size w w'' ∧ ∀ (j : Nat) (h : Stir), hs[j]? = some h → (listed.setIfInBounds i true).getD j false = true → h.r w'' (V' j)) := by
          intro v w'' hb' hkeep hrv
          refine ⟨fun j hj => by rw [getD_set_ne false (by omega)]; exact hno j hj, fun k => if k = i then v else V k, fun k h hk => ?_, hput v, hb.trans hb', fun j h hjh hj => ?_⟩
          · by_cases e : k = i
            · subst e
              obtain rfl : hh = h := Option.some.inj (hhi.symm.trans hk)
              simp only [if_true]
              exact Stir.r_sh hrv
            · simp only [if_neg e]; exact hV k h hk
          · by_cases e : j = i
            · subst e
              obtain rfl : hh = h := Option.some.inj (hhi.symm.trans hjh)
              simp only [if_true]
              exact hrv
            · simp only [if_neg e]
              rw [getD_set_ne false (Ne.symm e)] at hj
              exact hkeep j h hjh e hj (hrr j h hjh hj)
        unfold Go.wpOp
        simp only [hoi]
        rw [wanted_of_slots hsee]
        unfold Oper.stirAsk at hask
        by_cases hwt : Region.wanted oi (yielded l.toArray (frameOf l.toArray V (fun _ => true) a i).tmps) = true
        · rw [if_pos hwt] at hask
          rw [if_pos hwt]
          obtain ⟨p, rfl⟩ := regrown_of_below hb
          have h1 := hask p (depsS_all _ fun j h hj hjh hw => hrr j h hjh (waits_listed hr hw))
          have hst : ∀ v w'', hh.K (grow (redrawn w p.d) p.os) w'' → hh.r w'' v → _ := fun v w'' hk hrv => hnext v w'' (by
            cases hh with
            | const c => exact (show Below _ _ _ from hk).mono hb.size
            | held s r => exact (show Below _ _ _ from hk).mono hb.size
            | stir s r K => exact (hx i s r K hhi).1 _ _ hb.size hk) (fun j h hjh hji hj hr1 => by
            cases hh with
            | const c => exact Stir.r_mono (goodAllS_at hg hjh) hk hr1
            | held s r => exact Stir.r_mono (goodAllS_at hg hjh) hk hr1
            | stir s r K =>
              rcases (hx i s r K hhi).2 j h hjh hji with h1 | h1
              · have h2 := reach_listed2 hsh 6 j i hj h1
                rw [hunf] at h2
                cases h2
              · exact h1 _ _ _ hk hr1) hrv
          refine .inl (Oper.wp_of_stir (S := hh.K) (r := hh.r) ?_ fun v w'' hb' hrv => .inl (hst v w'' hb' hrv))
          unfold Oper.stirAt at h1 ⊢
          rwa [exec_of_slots (ops := l.toArray) (fun cs b => Region.noSelect_spec H.sel i oi cs b hoi) hsee]
        · rw [if_neg hwt] at hask
          rw [if_neg hwt]
          exact .inl (hnext undef w' (Below.refl _ _) (fun j h _ _ _ h1 => h1) (hask _))
      · -- the store
        subst hin
        have hall : ∀ j, j < i → j ≠ i0 → listed.getD j false = true := fun j hj hne => reach_listed hsh 6 i j (fun k hk => waits_listed hr hk) ((((htail i hi).resolve_left (by omega)) j hj).resolve_right (fun e => hne e.2))
        by_cases h0 : i0 < i ∧ listed.getD i0 false = false
        · obtain ⟨h0n, h0u⟩ := h0
          obtain ⟨c0, o0, x, j0, hc0, ho0, hop0, hg0⟩ := hi0 h0n
          have ho0A : l.toArray[i0]? = some o0 := by simpa using ho0
          have hi0s : i0 < l.toArray.size := (Array.getElem?_eq_some_iff.1 ho0A).1
          have hi0l : i0 < listed.size := by rw [hsh.size]; exact hi0s
          have hun0 : listed.getD i0 true = false := by simp [hi0l] at h0u ⊢; exact h0u
          have hV0 : V i0 = c0 := hV i0 _ hc0
          have hput0 : frameOf l.toArray V (fun k => (listed.setIfInBounds i0 true).getD k false) a l.toArray.size = (frameOf l.toArray V (fun k => listed.getD k false) a l.toArray.size).put o0.dst c0 := by
            have e1 : dstOf l.toArray i0 = o0.dst := by simp [dstOf, ho0A]
            rw [H.frame_put hsh hi0s hun0, e1, hV0]
          obtain ⟨w'', hrun, hlist⟩ := final V (listed.setIfInBounds i0 true) w' hV hb (fun j hj => by
            by_cases e : j = i0
            · subst e; exact set_same hi0l false
            · rw [getD_set_ne false (Ne.symm e)]; exact hall j hj e) (fun j hj => by rw [getD_set_ne false (by omega)]; exact hno j hj) (fun j h hjh => by
            by_cases e : j = i0
            · subst e
              obtain rfl : Stir.const c0 = h := Option.some.inj (hc0.symm.trans hjh)
              exact hV0
            · have hjn : j < i := by rw [← hn]; exact (List.getElem?_eq_some_iff.1 hjh).1
              exact hrr j h hjh (hall j hjn e))
          rw [hput0] at hrun hlist
          have hnw : waits .any l.toArray i i0 = false := by
            cases hw : waits .any l.toArray i i0 with
            | false => rfl
            | true => rw [waits_listed hr hw] at h0u; cases h0u
          have hap := (H.apart i0 i h0n hi).resolve_left (by rw [hnw]; decide)
          have hrun2 : (execOp (frameOf l.toArray V (fun k => listed.getD k false) a l.toArray.size).eval on).run P w' = .ok .skip w'' := by
            rw [← hrun]
            rw [exec_of_slots (ops := l.toArray) (o := on) (b := (frameOf l.toArray V (fun k => listed.getD k false) a l.toArray.size).put o0.dst c0) (fun cs b => Region.noSelect_spec H.sel i on cs b honA) fun t ht => ?_]
            refine (put_ne (fun e => ?_) _).symm
            have hd0 : dstOf l.toArray i0 = some t := by simp [dstOf, ho0A, e]
            have := (hap.1 t hd0).1
            rw [looks_of honA ht] at this
            cases this
          -- what the late operation yields
          obtain ⟨o', ho', hask⟩ := (key V hV).1 i0 (.const c0) (Nat.zero_le _) hc0
          obtain rfl : o0 = o' := Option.some.inj (ho0A.symm.trans ho')
          unfold Oper.stirAsk at hask
          have hw0 : Region.wanted o0 (yielded l.toArray (frameOf l.toArray V (fun _ => true) a i0).tmps) = true := by unfold Region.wanted; rw [hg0]
          rw [if_pos hw0] at hask
          have hwt0 : ∀ j, j < i0 → waits .any l.toArray i0 j = true → listed.getD j false = true := fun j hj _ => hall j (by omega) (by omega)
          have hr0 : i0 ∈ Region.ready .any l.toArray listed := by
            refine mem_ready.2 ⟨hun0, o0, ho0A, ?_⟩
            intro e he hb0
            have hlt := H.back i0 o0 e ho0A he hb0
            exact hall e.on (by omega) (by omega)
          have hsee0 := H.sees (V := V) (V' := V) (M := fun _ => true) (a := a) hsh ho0A hr0 (fun k _ hk => by cases hk) (fun _ _ => rfl)
          obtain ⟨p, hp⟩ := regrown_of_below hb
          have hst0 := hask p (depsS_all _ fun j h hj hjh hw => by rw [← hp]; exact hrr j h hjh (waits_listed hr0 hw))
          have hexa : ∀ w, (execOp (frameOf l.toArray V (fun _ => true) a i0).eval o0).run P w = .ok (.value c0) w := by
            unfold Oper.stirAt at hst0
            simp only [execOp, hop0, Instr.extract] at hst0 ⊢
            intro w9
            cases hev : (frameOf l.toArray V (fun _ => true) a i0).eval x <;> simp only [hev, stuck, Sem.run_bind, Sem.run_pure, Result.andThen] at hst0 ⊢ <;> first | (simp [Oper.stirUpon, Sem.run] at hst0; done) | skip
            rename_i vs
            cases hvs : vs[j0]? with
            | none => simp [hvs, Oper.stirUpon, stuck, Sem.run] at hst0
            | some v =>
              simp only [hvs, Sem.run_pure, Oper.stirUpon, Stir.r] at hst0 ⊢
              rw [hst0.2]
          refine storeOp _ _ w'' _ hrun2 (.inr (.inl ⟨h0n, by rw [getD_set_ne false (by omega)]; exact h0u, fun j hj hne => ?_, fun j hj => by rw [getD_set_ne false (by omega)]; exact hno j (by omega), _, c0, o0, (frameOf l.toArray V (fun _ => true) a i0).eval, ho0A, hg0, rfl, hexa, ?_, hlist⟩))
          · by_cases e : j = i
            · subst e; exact hset
            · rw [getD_set_ne false (Ne.symm e)]; exact hall j (by omega) hne
          · exact exec_of_slots (ops := l.toArray) (fun cs b => Region.noSelect_spec H.sel i0 o0 cs b ho0A) hsee0
        · have hall' : ∀ j, j < i → listed.getD j false = true := fun j hj => by
            by_cases e : j = i0
            · subst e
              cases hl : listed.getD j false with
              | true => rfl
              | false => exact absurd ⟨hj, hl⟩ h0
            · exact hall j hj e
          obtain ⟨w'', hrun, hlist⟩ := final V listed w' hV hb hall' hno (fun j h hjh => hrr j h hjh (hall' j (by rw [← hn]; exact (List.getElem?_eq_some_iff.1 hjh).1)))
          refine storeOp _ _ w'' _ hrun (.inr (.inr ⟨i + 1, Nat.le_refl _, fun j hj => ?_, fun j hj => by rw [getD_set_ne false (by omega)]; exact hno j (by omega), hlist⟩))
          by_cases e : j = i
          · subst e; exact hset
          · rw [getD_set_ne false (Ne.symm e)]; exact hall' j (by omega)
      · -- none behind the store can come yet
        have h1 := (((htail i hi).resolve_left (by omega)) n hin).resolve_right (by omega)
        have h2 := reach_listed hsh 6 i n (fun k hk => waits_listed hr hk) h1
        rw [hno n (Nat.le_refl _)] at h2
        cases h2
    · -- the store is done, the late operation is not
      have hii : i = i0 := by
        rcases Nat.lt_or_ge n i with h' | h'
        · have h1 := (((htail i hi).resolve_left (by omega)) i0 (by omega)).resolve_right (by omega)
          have h2 := reach_listed hsh 6 i i0 (fun k hk => waits_listed hr hk) h1
          rw [h0u] at h2
          cases h2
        · by_cases e : i = i0
          · exact e
          · rw [hall i h' e] at hunf; cases hunf
      subst hii
      obtain rfl : oi = o0 := Option.some.inj (hoi.symm.trans ho0)
      unfold Go.wpOp
      simp only [hoi]
      have hw0 : Region.wanted oi (yielded l.toArray a'.tmps) = true := by unfold Region.wanted; rw [hg0]
      rw [if_pos hw0]
      refine .inl ?_
      unfold Oper.wp
      rw [hea, hex w']
      show _ ∨ _ ∨ _
      rw [hA]
      refine .inr (.inr ⟨n + 1, Nat.le_refl _, fun j hj => ?_, fun j hj => by rw [getD_set_ne false (by omega)]; exact hno j hj, hw⟩)
      by_cases e : j = i
      · subst e; exact hset
      · rw [getD_set_ne false (Ne.symm e)]; exact hall j (by omega) e
    · -- behind the store
      have hni : n + 1 ≤ i := by
        rcases Nat.lt_or_ge i (n + 1) with h' | h'
        · rw [hall i (by omega)] at hunf; cases hunf
        · exact h'
      have him : i = m := by
        rcases Nat.lt_trichotomy i m with h' | h' | h'
        · rw [hall i h'] at hunf; cases hunf
        · exact h'
        · have h1 := (((htail i hi).resolve_left (by omega)) m h').resolve_right (by omega)
          have h2 := reach_listed hsh 6 i m (fun k hk => waits_listed hr hk) h1
          rw [hno m (Nat.le_refl _)] at h2; cases h2
      subst him
      have hli : l[i]? = some oi := by simpa using hoi
      have hdrop : l.drop i = oi :: l.drop (i + 1) := by
        have hlt : i < l.length := by omega
        rw [List.drop_eq_getElem_cons hlt]
        congr 1
        rw [List.getElem?_eq_getElem hlt] at hli
        exact Option.some.inj hli
      rw [hdrop] at hw
      simp only [wpList] at hw
      have hall' : ∀ j, j < i + 1 → (listed.setIfInBounds i true).getD j false = true := fun j hj => by
        rcases Nat.lt_or_ge j i with h' | h'
        · rw [getD_set_ne false (by omega)]; exact hall j h'
        · obtain rfl : j = i := by omega
          exact hset
      have hno' : ∀ j, i + 1 ≤ j → (listed.setIfInBounds i true).getD j false = false := fun j hj => by
        rw [getD_set_ne false (by omega)]; exact hno j (by omega)
      unfold Go.wpOp
      simp only [hoi]
      split
      · rename_i hwt
        rw [if_pos hwt] at hw
        exact hw.imp (Oper.wp_mono fun a'' w'' h'' => .inr (.inr ⟨i + 1, by omega, hall', hno', h''⟩)) (fun h => h)
      · rename_i hwt
        rw [if_neg hwt] at hw
        exact .inr (.inr ⟨i + 1, by omega, hall', hno', hw⟩)
  · intro listed a' w' hsh hI hr
    have hall := H.all hsh hr
    rcases hI with ⟨hno, _⟩ | ⟨h0n, h0u, _⟩ | ⟨m, hnm, hall', hno, hw⟩
    · have := hall n hnl
      rw [hno n (Nat.le_refl _)] at this
      cases this
    · have := hall i0 (by omega)
      rw [h0u] at this
      cases this
    · have hmm : l.length ≤ m := by
        rcases Nat.lt_or_ge m l.length with h' | h'
        · have := hall m (by omega); rw [hno m (Nat.le_refl _)] at this; cases this
        · exact h'
      rw [List.drop_eq_nil_of_le hmm] at hw
      exact hw
  · rcases Nat.lt_or_ge j l.length with h' | h' <;> simp [h']
  · obtain ⟨V, hV⟩ := hwit
    refine ⟨V, hV, ?_, (Below.refl _ _).drew, fun j h _ hj => ?_⟩
    · symm
      refine frameOf_none (fun k => ?_) _
      rcases Nat.lt_or_ge k l.length with h' | h' <;> simp [h']
    · rcases Nat.lt_or_ge j l.length with h' | h' <;> simp [h'] at hj
end
end Go.Proofs.YtjpfdhhiofjpbaaGreatDoor

