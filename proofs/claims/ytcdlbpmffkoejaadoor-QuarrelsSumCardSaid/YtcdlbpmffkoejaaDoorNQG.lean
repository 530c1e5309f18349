/- Parts joined. -/
import Derived.Test.YtcdlbpmffkoejaaDoorNQF
import Derived.Test.YtcdlbpmffkoejaaDoorNQE
import Derived.Deep.LoopGhost
set_option linter.unusedSimpArgs false
set_option linter.unusedVariables false
/- The walk of Blame of the package quarrels. Conditions: lengths are Go's; the listed table holds what it holds. -/
namespace Go.Proofs.YtcdlbpmffkoejaaDoor
open Go.RowKit Go.Sort
/-- a well that the program blames -/
def Qt.goodP (t : Qt) (d : Nat → Int) (m q : Nat) (L : List Int) (p : Nat) : Bool := decide (p ≠ q) && L.all fun a => t.blamedP d m q p a
def Qt.blameV (t : Qt) (d : Nat → Int) (m q : Nat) (L : List Int) : Int × Int := if firstFrom (t.goodP d m q L) m 0 < m then ((firstFrom (t.goodP d m q L) m 0 : Int), 0) else (0, 3)
theorem blameV_none {t : Qt} {d : Nat → Int} {m q : Nat} {L : List Int} (h : ∀ p, p < m → t.goodP d m q L p = false) : t.blameV d m q L = (0, 3) := by
  have : firstFrom (t.goodP d m q L) m 0 = m := firstFrom_eq _ _ _ _ (Nat.zero_le _) (by omega) (fun j _ hj => h j hj) (fun hj => by omega)
  unfold Qt.blameV
  rw [this, if_neg (Nat.lt_irrefl _)]
theorem blameV_hit {t : Qt} {d : Nat → Int} {m q p : Nat} {L : List Int} (hp : p < m) (h : ∀ p', p' < p → t.goodP d m q L p' = false) (hg : t.goodP d m q L p = true) : t.blameV d m q L = ((p : Int), 0) := by
  have : firstFrom (t.goodP d m q L) m 0 = p := firstFrom_eq _ _ _ _ (Nat.zero_le _) (by omega) (fun j _ hj => h j hj) (fun _ => hg)
  unfold Qt.blameV
  rw [this, if_pos hp]
theorem blamedP_other {t : Qt} {d : Nat → Int} {m q p k : Nat} {a : Int} (hk : k < m) (h : d p * t.F a (p, q) ≤ if k ≠ q ∧ k ≠ p then d k * t.F a (k, q) else 0) : t.blamedP d m q p a = false := by
  unfold Qt.blamedP
  rw [Bool.not_eq_false', anyB_true]
  exact ⟨k, hk, decide_eq_true h⟩
set_option maxHeartbeats 4000000 in
set_option maxRecDepth 100000 in
theorem blameQ_ok (Aw Af Ad : Option Addr) (cw cf cd m : Nat) (t : Qt) (d : Nat → Int) (q : Nat) (w : World) (ok : t.Ok) (hs : t.Small) (hT : QAt w Aw Af t) (hB : TabAt w) (hI : IntsAt w Ad m d) (hm : t.wells = (m : Int)) (hdr : t.drawsB m d = true) (hq : q < m) (hkn : t.knowErr true = 0) (bw ow : Nat) (hAw : Aw = some ⟨bw, ow, none⟩) (hbw : bw < w.heap.size) (hcw : ∀ i, i < t.nw → ∃ A' c', w.cell? ⟨bw, ow + i, none⟩ = some (.slice A' (t.world i).n c') ∧ RowsAt w A' (t.world i)) :
    Calls Tryd.prog 10 #[.agg #[.int .i64 t.wells, .slice Aw t.nw cw, .slice Af t.nf cf], .slice Ad m cd, .int .i64 q] w fun e w' => e = .returned (.tuple #[.int .i64 (t.blameV d m q t.leftL).1, .int .i64 (t.blameV d m q t.leftL).2]) ∧ Below w.heap.size w w' := by
  obtain ⟨bd, od, rfl, hx1, hx2⟩ := hI.get hq
  clear hx1 hx2
  have hb0 := bAlloc (Below.refl w.heap.size w) (.cells #[.int .i64 t.wells, .slice Aw t.nw cw, .slice Af t.nf cf] 25)
  have HT := Lib.hid (hT.mono hb0)
  have HTB := Lib.hid (hB.mono hb0)
  have HID := Lib.hid (hI.mono hb0)
  have HB := Lib.hid hb0
  have HOK := Lib.hid ok
  have HM := Lib.hid hm
  have m4 : m ≤ 4 := by have := ok.w1; omega
  have hdd := (drawsB_iff.1 hdr).2
  have HDD := Lib.hid hdd
  obtain ⟨s, hsk⟩ : ∃ s, t.maskTo t.nw = s := ⟨_, rfl⟩
  have HBM := Lib.hid (show bitsL s = t.leftL by rw [← hsk]; exact bits_mask t ok.nw)
  have H64 := Lib.hid (show s < 64 by rw [← hsk]; exact mask_64 t ok.nw)
  have HSK := Lib.hid hsk
  have HC1 := Lib.hid (fun w' hb => hdr ▸ areDrawsQ_any Aw Af (some ⟨bd, od, none⟩) cw cf cd m t d w' (by omega) (HID.out.mono hb) : ∀ w' : World, Below (w.alloc (.cells #[.int .i64 t.wells, .slice Aw t.nw cw, .slice Af t.nf cf] 25)).heap.size (w.alloc (.cells #[.int .i64 t.wells, .slice Aw t.nw cw, .slice Af t.nf cf] 25)) w' → Calls Tryd.prog 24 #[.agg #[.int .i64 t.wells, .slice Aw t.nw cw, .slice Af t.nf cf], .slice (some ⟨bd, od, none⟩) m cd] w' fun e w'' => e = .returned (.bool true) ∧ Below w'.heap.size w' w'')
  have HC2 := Lib.hid (fun w => ((wellB_ok ok (q : Int)).trans (inR_iff.2 (by omega))) ▸ isWellQ_any Aw Af cw cf t q w : ∀ w : World, Calls Tryd.prog 25 #[.agg #[.int .i64 t.wells, .slice Aw t.nw cw, .slice Af t.nf cf], .int .i64 q] w fun e w' => e = .returned (.bool true) ∧ Below w.heap.size w w')
  have HCO := Lib.hid (fun (w' : World) (hb : Below (w.alloc (.cells #[.int .i64 t.wells, .slice Aw t.nw cw, .slice Af t.nf cf] 25)).heap.size (w.alloc (.cells #[.int .i64 t.wells, .slice Aw t.nw cw, .slice Af t.nf cf] 25)) w') => ((openQ_any Aw Af cw cf t true w' hs (HT.out.mono hb)).mono fun e w'' h => ⟨(hkn ▸ h.1).lower hb.size, h.2⟩ : Calls Tryd.prog 23 #[.agg #[.int .i64 t.wells, .slice Aw t.nw cw, .slice Af t.nf cf], .bool true] w' fun e w'' => AskOut w'' (w.alloc (.cells #[.int .i64 t.wells, .slice Aw t.nw cw, .slice Af t.nf cf] 25)).heap.size Aw Af cw cf t 0 e ∧ Below w'.heap.size w' w''))
  have HCW := Lib.hid hcw
  have HBW := Lib.hid hbw
  subst hAw
  clear hT hB hI ok hm hdd hsk hdr hkn hcw hbw
  obtain ⟨V, hV⟩ : ∃ V, t.blameV d m q t.leftL = V := ⟨_, rfl⟩
  have HV := Lib.hid hV
  rw [hV]
  clear hV
  go_enter Tryd.func10, Tryd.ntmps10
  go_wp2_with fail
  go_step3
  go_wp2_with fail
  refine wp_region_call 9 (fun v w2 => AskOut w2 (w.alloc (.cells #[.int .i64 t.wells, .slice (some ⟨bw, ow, none⟩) t.nw cw, .slice Af t.nf cf] 25)).heap.size (some ⟨bw, ow, none⟩) Af cw cf t 0 (.returned v) ∧ Below (w.alloc (.cells #[.int .i64 t.wells, .slice (some ⟨bw, ow, none⟩) t.nw cw, .slice Af t.nf cf] 25)).heap.size (w.alloc (.cells #[.int .i64 t.wells, .slice (some ⟨bw, ow, none⟩) t.nw cw, .slice Af t.nf cf] 25)) w2) (by kernel_rfl) (by decide +kernel) rfl ?_
  apply Exists.intro
  refine ⟨fun K hK => ?_, ?_, fun w1 hb1 K Q' hK => ?_, ?_⟩
  · skip
    repeat (first | (refine wpCalm_skip rfl ?_) | (refine wpCalm_step rfl (fun K hK => ?_); go_simp; (first | (refine hK _ ?_; clear hK K) | (apply Exists.intro; refine ⟨fun _ => ?_, hK _ ?_⟩; ((first | (go_at_call 24; with_reducible exact newer_of (HC1.out _ (below_regrown _ _ _))) | (go_at_call 25; with_reducible exact newer_of (HC2.out _)))); clear hK K))))
    refine wpCalm_nil ?_
    exact hK
  · rfl
  · go_simp
    refine (HCO.out w1 hb1).mono ?_
    rintro e w2 ⟨ho, hb2⟩
    obtain ⟨v, rfl⟩ := AskOut.ret ho
    exact hK v w2 ⟨ho, bTrans hb1 hb2⟩
  rintro v w2 ⟨ho, hb2⟩
  obtain ⟨C, mp, e9, hc, _⟩ := ho.2 rfl
  obtain rfl := Ending.returned.inj e9
  rw [HSK.out] at hc
  have HCT2 := Lib.hid hc
  have HB2 := Lib.hid hb2
  clear ho hb2 hc e9
  apply Exists.intro
  refine ⟨fun K hK => ?_, fun w3 hb3 => ?_⟩
  · skip
    repeat (first | (refine wpCalm_skip rfl ?_) | (refine wpCalm_step rfl (fun K hK => ?_); go_simp; (first | (refine hK _ ?_; clear hK K) | (apply Exists.intro; refine ⟨fun _ => ?_, hK _ ?_⟩; (fail); clear hK K))))
    refine wpCalm_nil ?_
    exact hK
  have hb33 := bTrans HB2.out hb3
  have HB3 := Lib.hid hb33
  have HCT := Lib.hid (HCT2.out.mono hb3)
  have hwm := HM.out
  obtain ⟨bc3, bf3⟩ := bcell hb33
  have hz3 := hb33.size
  simp only [World.size_alloc] at hz3
  have hy3 : w.heap.size < w3.heap.size := hz3
  rw [hwm] at bc3
  clear hb3 hb33 hwm hb0
  go_wp2_with fail
  go_step3
  go_wp2_with fail
  clear bc3 bf3
  go_loopg [34] m (fun g s34 wr => ∃ p : Nat, p + g = m ∧ s34 = .int .i64 p ∧ (∀ p', p' < p → t.goodP d m q t.leftL p' = false) ∧ Below w3.heap.size w3 wr)
  case atStart => exact ⟨0, by omega, rfl, fun p' hp' => absurd hp' (Nat.not_lt_zero _), Below.refl _ _⟩
  case round =>
    obtain ⟨p, hpg, rfl, hno, hbel⟩ := hrel
    have HNO := Lib.hid hno
    have HL := Lib.hid hbel
    obtain ⟨bc5, bf5⟩ := bcell (bTrans HB3.out hbel)
    rw [HM.out] at bc5
    have hz5 := (bTrans HB3.out hbel).size
    simp only [World.size_alloc] at hz5
    have hy5 : w.heap.size < wr.heap.size := hz5
    clear hbel hno
    cases gk with
    | zero =>
      have HVV := Lib.hid (show V = (0, 3) by rw [← HV.out]; exact blameV_none fun p' hp' => HNO.out p' (by omega))
      have g1 : ¬ ((p : Int) < (m : Int)) := by omega
      go_wp2_with fail
      go_ret2
      exact ⟨by rw [HVV.out]; rfl, bTrans HB.out (bTrans HB3.out HL.out)⟩
    | succ g =>
      have g1 : (p : Int) < (m : Int) := by omega
      by_cases hpq : p = q
      · have HNX := Lib.hid (show ∀ p', p' < p + 1 → t.goodP d m q t.leftL p' = false from fun p' hp' => by
          rcases Nat.lt_or_ge p' p with h | h
          · exact HNO.out p' h
          · obtain rfl : p' = p := by omega
            unfold Qt.goodP
            simp [hpq])
        have g2 : ((p : Int) == (q : Int)) = true := by simp [hpq]
        have g3 : (p : Int) = (q : Int) := by omega
        go_wp2_with fail
        go_roundg g
        case measure => omega
        case rel =>
          first
          | exact ⟨p + 1, by omega, by go_num, HNX.out, HL.out⟩
          | ((repeat apply Exists.intro)
             refine ⟨⟨p + 1, by omega, ?_, HNX.out, HL.out⟩, rfl⟩
             go_num)
      · have g2 : ((p : Int) == (q : Int)) = false := by simp; omega
        have HPQ := Lib.hid hpq
        have hct := HCT.out.mono HL.out
        have x0 := hct.box.lt
        have y0 := hct.box.cell 3 _ rfl
        have HLI := Lib.hid (list_any s wr H64.out (HTB.out.mono (bTrans HB3.out HL.out)))
        clear hct hpq
        go_wp2_with fail
        refine HLI.out.mono ?_
        rintro e w4 ⟨⟨v, rfl, hv⟩, hb4⟩
        rw [HBM.out] at hv
        have HVL := Lib.hid hv
        have HL4 := Lib.hid (bTrans HL.out hb4)
        obtain ⟨n, hn⟩ : ∃ n, t.leftL.length = n := ⟨_, rfl⟩
        have HN := Lib.hid hn
        have n6 : n ≤ 6 := by rw [← hn]; have := leftTo_len t t.nw; have := HOK.out.nw; unfold Qt.leftL; omega
        obtain ⟨A, c, rfl, _⟩ := hv.nums
        rw [hn]
        clear hv hb4 hn x0 y0 bc5 bf5 hz5 hy5
        go_wp2_with fail
        go_loopg [46] n (fun g2 s46 wx => ∃ j : Nat, j + g2 = n ∧ s46 = .int .i64 j ∧ (∀ j' a, j' < j → t.leftL[j']? = some a → t.blamedP d m q p a = true) ∧ Below w4.heap.size w4 wx)
        case atStart => exact ⟨0, by omega, rfl, fun j' a hj' => absurd hj' (Nat.not_lt_zero _), Below.refl _ _⟩
        case round =>
          obtain ⟨j, hjg, rfl, hbl, hbel⟩ := hrel
          have HBL := Lib.hid hbl
          have HLX := Lib.hid hbel
          have HLW := Lib.hid (bTrans HB3.out (bTrans HL4.out hbel))
          obtain ⟨bc6, bf6⟩ := bcell HLW.out
          rw [HM.out] at bc6
          have hz6 := HLW.out.size
          simp only [World.size_alloc] at hz6
          have hy6 : w.heap.size < wr.heap.size := hz6
          clear hbel hbl
          cases gk with
          | zero =>
            have HVV := Lib.hid (show V = ((p : Int), 0) by
              rw [← HV.out]
              refine blameV_hit (by omega) HNO.out ?_
              unfold Qt.goodP
              rw [decide_eq_true HPQ.out, Bool.true_and, List.all_eq_true]
              intro a ha
              obtain ⟨k, hk⟩ := List.mem_iff_getElem?.1 ha
              exact HBL.out k a (by have := (List.getElem?_eq_some_iff.1 hk).1; rw [HN.out] at this; omega) hk)
            have h1 : ¬ ((j : Int) < (n : Int)) := by omega
            go_wp2_with fail
            go_ret2
            exact ⟨by rw [HVV.out]; rfl, bTrans HB.out HLW.out⟩
          | succ g2 =>
            have h1 : (j : Int) < (n : Int) := by omega
            have hjn : j < n := by omega
            obtain ⟨A1, c1, e1, hrow⟩ := (HVL.out.mono HLX.out).nums
            simp only [Value.slice.injEq] at e1
            obtain ⟨rfl, _, rfl⟩ := e1
            obtain ⟨a, ha⟩ : ∃ a, t.leftL[j]? = some a := ⟨_, List.getElem?_eq_getElem (by rw [HN.out]; omega)⟩
            obtain ⟨i, hi, _, rfl⟩ := (leftTo_mem t t.nw).1 (List.mem_of_getElem? ha)
            obtain ⟨bs, os, hA, hbs, cs⟩ := hrow.num ha
            subst hA
            have HA := Lib.hid ha
            obtain ⟨A', c', cW, hRW⟩ := HCW.out i hi
            have cW := (((bTrans HB.out HLW.out).cell (p := ⟨bw, ow + i, none⟩) HBW.out)).trans cW
            have hbW : bw < wr.heap.size := Nat.lt_of_lt_of_le HBW.out (bTrans HB.out HLW.out).size
            have HRW := Lib.hid hRW
            obtain ⟨xn, hxn⟩ : ∃ xn, (t.world i).n = xn := ⟨_, rfl⟩
            rw [hxn] at cW
            have HXN := Lib.hid (show (xn : Int) = m by rw [← hxn, (HOK.out.world i hi).n, HM.out])
            have i1 : (i : Int) < (t.nw : Int) := by omega
            have HI2 := Lib.hid hi
            clear ha hrow hRW hi hxn
            go_wp2_with fail
            clear bc6 bf6 cs hbs cW hbW hz6 hy6
            go_loopg [58] m (fun g3 s58 wx => ∃ k : Nat, k + g3 = m ∧ s58 = .int .i64 k ∧ (∀ k', k' < k → decide (d p * t.F (i : Int) (p, q) ≤ if k' ≠ q ∧ k' ≠ p then d k' * t.F (i : Int) (k', q) else 0) = false) ∧ Below w4.heap.size w4 wx)
            case atStart => exact ⟨0, by omega, rfl, fun k' hk' => absurd hk' (Nat.not_lt_zero _), HLX.out⟩
            case round =>
              obtain ⟨k, hkg, rfl, hkl, hbel⟩ := hrel
              have HKL := Lib.hid hkl
              have HLY := Lib.hid hbel
              have HLZ := Lib.hid (bTrans HB3.out (bTrans HL4.out hbel))
              obtain ⟨bc7, bf7⟩ := bcell HLZ.out
              rw [HM.out] at bc7
              have hz7 := HLZ.out.size
              simp only [World.size_alloc] at hz7
              have hy7 : w.heap.size < wr.heap.size := hz7
              clear hbel hkl
              cases gk with
              | zero =>
                have HBX := Lib.hid (show ∀ j' a, j' < j + 1 → t.leftL[j']? = some a → t.blamedP d m q p a = true from fun j' a hj ha => by
                  rcases Nat.lt_or_ge j' j with h | h
                  · exact HBL.out j' a h ha
                  · obtain rfl : j' = j := by omega
                    obtain rfl := Option.some.inj (ha.symm.trans HA.out)
                    unfold Qt.blamedP
                    rw [Bool.not_eq_true', anyB_false]
                    exact fun k' hk' => HKL.out k' (by omega))
                have h2 : ¬ ((k : Int) < (m : Int)) := by omega
                go_wp2_with fail
                go_roundg g2
                case measure => omega
                case rel =>
                  first
                  | exact ⟨j + 1, by omega, by go_num, HBX.out, HLY.out⟩
                  | ((repeat apply Exists.intro)
                     refine ⟨⟨j + 1, by omega, ?_, HBX.out, HLY.out⟩, rfl⟩
                     go_num)
              | succ g3 =>
                have h2 : (k : Int) < (m : Int) := by omega
                have hkm : k < m := by omega
                have hpm : p < m := by omega
                have okW := HOK.out.world i HI2.out
                have hDk := HDD.out k hkm
                have hDp := HDD.out p hpm
                obtain ⟨bf, of, b2, o2, c2, k2, v2, hA2, a4, a5, a6, a7, hv2, v20, v21, hm2⟩ := okW.at (HRW.out.mono (bTrans HB.out HLZ.out)) (p := p) (q := q) (by omega) (by rw [HM.out]; omega) (by omega) (by rw [HM.out]; omega)
                subst hA2
                obtain ⟨bf', of', b3, o3, c3, k3, v3, hA3, _, a5k, a6k, a7k, hv3, v30, v31, hm3⟩ := okW.at (HRW.out.mono (bTrans HB.out HLZ.out)) (p := k) (q := q) (by omega) (by rw [HM.out]; omega) (by omega) (by rw [HM.out]; omega)
                simp only [Option.some.injEq, Addr.mk.injEq, and_true] at hA3
                obtain ⟨rfl, rfl⟩ := hA3
                obtain ⟨b9, o9, e9, a8, a9⟩ := (HID.out.mono HLZ.out).get hpm
                simp only [Option.some.injEq, Addr.mk.injEq, and_true] at e9
                obtain ⟨rfl, rfl⟩ := e9
                obtain ⟨b8, o8, e8, _, a9k⟩ := (HID.out.mono HLZ.out).get hkm
                simp only [Option.some.injEq, Addr.mk.injEq, and_true] at e8
                obtain ⟨rfl, rfl⟩ := e8
                rw [Int.toNat_natCast] at a5 a7 a5k a7k
                rw [Int.toNat_natCast, Int.toNat_natCast] at hv2 hv3
                have hP1 := mul_bd9 hDp.1 hDp.2 v20 v21
                have hP2 := mul_bd9 hDk.1 hDk.2 v30 v31
                have HF1 := Lib.hid (show t.F (i : Int) (p, q) = v2 by rw [hv2]; unfold Qt.F; rw [Int.toNat_natCast])
                have HF2 := Lib.hid (show t.F (i : Int) (k, q) = v3 by rw [hv3]; unfold Qt.F; rw [Int.toNat_natCast])
                obtain ⟨u2, hu2⟩ : ∃ u, d p = u := ⟨_, rfl⟩
                obtain ⟨u3, hu3⟩ : ∃ u, d k = u := ⟨_, rfl⟩
                rw [hu2] at a9 hP1
                rw [hu3] at a9k hP2
                have HU2 := Lib.hid hu2
                have HU3 := Lib.hid hu3
                obtain ⟨r2, hr2⟩ : ∃ r, u2 * v2 = r := ⟨_, rfl⟩
                obtain ⟨r3, hr3⟩ : ∃ r, u3 * v3 = r := ⟨_, rfl⟩
                rw [hr2] at hP1
                rw [hr3] at hP2
                have e1 : IntKind.i64.wrap (u2 * v2) = r2 := by rw [hr2]; exact IntWalk.i64_in _ (by omega)
                have e2 : IntKind.i64.wrap (u3 * v3) = r3 := by rw [hr3]; exact IntWalk.i64_in _ (by omega)
                have HR2 := Lib.hid hr2
                have HR3 := Lib.hid hr3
                have l1 : (p : Int) < (xn : Int) := by have := HXN.out; omega
                have l2 : (k : Int) < (xn : Int) := by have := HXN.out; omega
                have l3 : (q : Int) < (k2 : Int) := by rw [HM.out] at hm2; omega
                have l4 : (q : Int) < (k3 : Int) := by rw [HM.out] at hm3; omega
                have l5 : (0 : Int) ≤ (k : Int) := by omega
                have l6 : (0 : Int) ≤ (q : Int) := by omega
                have l7 : (0 : Int) ≤ (p : Int) := by omega
                obtain ⟨oth, hoth⟩ : ∃ o, (if k ≠ q ∧ k ≠ p then r3 else 0) = o := ⟨_, rfl⟩
                have HOT := Lib.hid hoth
                have HCMP := Lib.hid (show (d p * t.F (i : Int) (p, q) ≤ if k ≠ q ∧ k ≠ p then d k * t.F (i : Int) (k, q) else 0) ↔ r2 ≤ oth by rw [HF1.out, HF2.out, HU2.out, HU3.out, hr2, hr3, hoth])
                clear hDk hDp hv2 v20 v21 hm2 hv3 v30 v31 hm3 hP1 hP2 hu2 hu3 hr2 hr3 okW hoth
                have hway : (k ≠ q ∧ k ≠ p ∧ oth = r3) ∨ ((k = q ∨ k = p) ∧ oth = 0) := by
                  by_cases h1 : k ≠ q ∧ k ≠ p
                  · exact .inl ⟨h1.1, h1.2, by rw [← HOT.out, if_pos h1]⟩
                  · exact .inr ⟨by omega, by rw [← HOT.out, if_neg h1]⟩
                rcases hway with ⟨w1, w2', hoth⟩ | ⟨w1, hoth⟩
                · have n1 : ((k : Int) != (q : Int)) = true := by simp; omega
                  have n2 : ((k : Int) != (p : Int)) = true := by simp; omega
                  have HLD := Lib.hid (HLY.out.drew.drew)
                  subst hoth
                  clear w1 w2'
                  by_cases hle : r2 ≤ oth
                  · have HNX := Lib.hid (show ∀ p', p' < p + 1 → t.goodP d m q t.leftL p' = false from fun p' hp' => by
                      rcases Nat.lt_or_ge p' p with h | h
                      · exact HNO.out p' h
                      · obtain rfl : p' = p := by omega
                        unfold Qt.goodP
                        rw [Bool.and_eq_false_iff]
                        refine .inr ?_
                        rw [List.all_eq_false]
                        exact ⟨(i : Int), List.mem_of_getElem? HA.out, by rw [blamedP_other hkm (HCMP.out.2 hle)]; simp⟩)
                    go_wp2_with fail
                    go_region
                    go_wp2_with fail
                    go_region
                    go_wp2_with fail
                    go_roundg g
                    case measure => omega
                    case rel =>
                      first
                      | exact ⟨p + 1, by omega, by go_num, HNX.out, bTrans HL4.out HLD.out⟩
                      | ((repeat apply Exists.intro)
                         refine ⟨⟨p + 1, by omega, ?_, HNX.out, bTrans HL4.out HLD.out⟩, rfl⟩
                         go_num)
                  · have HKX := Lib.hid (show ∀ k', k' < k + 1 → decide (d p * t.F (i : Int) (p, q) ≤ if k' ≠ q ∧ k' ≠ p then d k' * t.F (i : Int) (k', q) else 0) = false from fun k' hk' => by
                      rcases Nat.lt_or_ge k' k with h | h
                      · exact HKL.out k' h
                      · obtain rfl : k' = k := by omega
                        exact decide_eq_false (fun h => hle (HCMP.out.1 h)))
                    go_wp2_with fail
                    go_region
                    go_wp2_with fail
                    go_region
                    go_wp2_with fail
                    go_roundg g3
                    case measure => omega
                    case rel =>
                      first
                      | exact ⟨k + 1, by omega, by go_num, HKX.out, HLD.out⟩
                      | ((repeat apply Exists.intro)
                         refine ⟨⟨k + 1, by omega, ?_, HKX.out, HLD.out⟩, rfl⟩
                         go_num)
                · have HLD := Lib.hid HLY.out.drew
                  subst hoth
                  by_cases hkq : k = q
                  · have n1 : ((k : Int) != (q : Int)) = false := by simp [hkq]
                    have n3 : (k : Int) = (q : Int) := by omega
                    clear w1 hkq
                    by_cases hle : r2 ≤ 0
                    · have HNX := Lib.hid (show ∀ p', p' < p + 1 → t.goodP d m q t.leftL p' = false from fun p' hp' => by
                        rcases Nat.lt_or_ge p' p with h | h
                        · exact HNO.out p' h
                        · obtain rfl : p' = p := by omega
                          unfold Qt.goodP
                          rw [Bool.and_eq_false_iff]
                          refine .inr ?_
                          rw [List.all_eq_false]
                          exact ⟨(i : Int), List.mem_of_getElem? HA.out, by rw [blamedP_other hkm (HCMP.out.2 hle)]; simp⟩)
                      go_wp2_with fail
                      go_region
                      go_wp2_with fail
                      go_roundg g
                      case measure => omega
                      case rel =>
                        first
                        | exact ⟨p + 1, by omega, by go_num, HNX.out, bTrans HL4.out HLD.out⟩
                        | ((repeat apply Exists.intro)
                           refine ⟨⟨p + 1, by omega, ?_, HNX.out, bTrans HL4.out HLD.out⟩, rfl⟩
                           go_num)
                    · have HKX := Lib.hid (show ∀ k', k' < k + 1 → decide (d p * t.F (i : Int) (p, q) ≤ if k' ≠ q ∧ k' ≠ p then d k' * t.F (i : Int) (k', q) else 0) = false from fun k' hk' => by
                        rcases Nat.lt_or_ge k' k with h | h
                        · exact HKL.out k' h
                        · obtain rfl : k' = k := by omega
                          exact decide_eq_false (fun h => hle (HCMP.out.1 h)))
                      go_wp2_with fail
                      go_region
                      go_wp2_with fail
                      go_roundg g3
                      case measure => omega
                      case rel =>
                        first
                        | exact ⟨k + 1, by omega, by go_num, HKX.out, HLD.out⟩
                        | ((repeat apply Exists.intro)
                           refine ⟨⟨k + 1, by omega, ?_, HKX.out, HLD.out⟩, rfl⟩
                           go_num)
                  · have n1 : ((k : Int) != (q : Int)) = true := by simp; omega
                    have n2 : ((k : Int) != (p : Int)) = false := by simp; omega
                    clear w1 hkq
                    by_cases hle : r2 ≤ 0
                    · have HNX := Lib.hid (show ∀ p', p' < p + 1 → t.goodP d m q t.leftL p' = false from fun p' hp' => by
                        rcases Nat.lt_or_ge p' p with h | h
                        · exact HNO.out p' h
                        · obtain rfl : p' = p := by omega
                          unfold Qt.goodP
                          rw [Bool.and_eq_false_iff]
                          refine .inr ?_
                          rw [List.all_eq_false]
                          exact ⟨(i : Int), List.mem_of_getElem? HA.out, by rw [blamedP_other hkm (HCMP.out.2 hle)]; simp⟩)
                      go_wp2_with fail
                      go_region
                      go_wp2_with fail
                      go_roundg g
                      case measure => omega
                      case rel =>
                        first
                        | exact ⟨p + 1, by omega, by go_num, HNX.out, bTrans HL4.out HLD.out⟩
                        | ((repeat apply Exists.intro)
                           refine ⟨⟨p + 1, by omega, ?_, HNX.out, bTrans HL4.out HLD.out⟩, rfl⟩
                           go_num)
                    · have HKX := Lib.hid (show ∀ k', k' < k + 1 → decide (d p * t.F (i : Int) (p, q) ≤ if k' ≠ q ∧ k' ≠ p then d k' * t.F (i : Int) (k', q) else 0) = false from fun k' hk' => by
                        rcases Nat.lt_or_ge k' k with h | h
                        · exact HKL.out k' h
                        · obtain rfl : k' = k := by omega
                          exact decide_eq_false (fun h => hle (HCMP.out.1 h)))
                      go_wp2_with fail
                      go_region
                      go_wp2_with fail
                      go_roundg g3
                      case measure => omega
                      case rel =>
                        first
                        | exact ⟨k + 1, by omega, by go_num, HKX.out, HLD.out⟩
                        | ((repeat apply Exists.intro)
                           refine ⟨⟨k + 1, by omega, ?_, HKX.out, HLD.out⟩, rfl⟩
                           go_num)
end Go.Proofs.YtcdlbpmffkoejaaDoor
/- The walk of Blame of the package quarrels, whatever it is handed. Conditions: lengths are Go's; the listed table holds what it holds. -/
namespace Go.Proofs.YtcdlbpmffkoejaaDoor
open Go.RowKit Go.Sort
noncomputable def Qt.blameOut (t : Qt) (n : Nat) (d : Nat → Int) (q : Int) : Int × Int := if t.knowErr (t.drawsB n d && t.wellB q) = 0 then t.blameV d n q.toNat t.leftL else (0, t.knowErr (t.drawsB n d && t.wellB q))
set_option maxHeartbeats 4000000 in
set_option maxRecDepth 100000 in
theorem blameQ_any (Aw Af Ad : Option Addr) (cw cf cd n : Nat) (t : Qt) (d : Nat → Int) (q : Int) (w : World) (hs : t.Small) (hT : QAt w Aw Af t) (hB : TabAt w) (hn : n ≤ 9223372036854775807) (hI : IntsAt w Ad n d) :
    Calls Tryd.prog 10 #[.agg #[.int .i64 t.wells, .slice Aw t.nw cw, .slice Af t.nf cf], .slice Ad n cd, .int .i64 q] w fun e w' => e = .returned (.tuple #[.int .i64 (t.blameOut n d q).1, .int .i64 (t.blameOut n d q).2]) ∧ Below w.heap.size w w' := by
  by_cases hz : t.knowErr (t.drawsB n d && t.wellB q) = 0
  · obtain ⟨ok, hg, hne⟩ := knowErr_zero hz
    have hkn := hz
    rw [hg] at hkn
    simp only [Bool.and_eq_true] at hg
    obtain ⟨h1, h2⟩ := hg
    have hq := inR_iff.1 ((wellB_ok ok q).symm.trans h2)
    have hm := (drawsB_iff.1 h1).1
    obtain ⟨i, rfl⟩ : ∃ i : Nat, q = (i : Int) := ⟨q.toNat, by omega⟩
    unfold Qt.blameOut
    rw [if_pos hz, Int.toNat_natCast]
    rcases hT.worlds with h0 | ⟨bw, ow, hAw, hbw, hcw⟩
    · exact absurd (show t.leftL = [] by unfold Qt.leftL; rw [h0]; rfl) hne
    · exact blameQ_ok Aw Af Ad cw cf cd n t d i w ok hs hT hB hI hm.symm h1 (by omega) hkn bw ow hAw hbw fun i hi => by
        obtain ⟨A', c', h3, h4, _⟩ := hcw i hi
        exact ⟨A', c', h3, h4⟩
  · have hb0 := bAlloc (Below.refl w.heap.size w) (.cells #[.int .i64 t.wells, .slice Aw t.nw cw, .slice Af t.nf cf] 25)
    have HT := Lib.hid (hT.mono hb0)
    have HID := Lib.hid (hI.mono hb0)
    have HB := Lib.hid hb0
    obtain ⟨b1, h1⟩ : ∃ b, t.drawsB n d = b := ⟨_, rfl⟩
    obtain ⟨b2, h2⟩ : ∃ b, t.wellB q = b := ⟨_, rfl⟩
    have HOUT := Lib.hid (show t.blameOut n d q = (0, t.knowErr (b1 && b2)) by unfold Qt.blameOut; rw [if_neg hz, h1, h2])
    rw [HOUT.out]
    rw [h1, h2] at hz
    have HC1 := Lib.hid (fun w' hb => h1 ▸ areDrawsQ_any Aw Af Ad cw cf cd n t d w' hn (HID.out.mono hb) : ∀ w' : World, Below (w.alloc (.cells #[.int .i64 t.wells, .slice Aw t.nw cw, .slice Af t.nf cf] 25)).heap.size (w.alloc (.cells #[.int .i64 t.wells, .slice Aw t.nw cw, .slice Af t.nf cf] 25)) w' → Calls Tryd.prog 24 #[.agg #[.int .i64 t.wells, .slice Aw t.nw cw, .slice Af t.nf cf], .slice Ad n cd] w' fun e w'' => e = .returned (.bool b1) ∧ Below w'.heap.size w' w'')
    have HC2 := Lib.hid (fun w => h2 ▸ isWellQ_any Aw Af cw cf t q w : ∀ w : World, Calls Tryd.prog 25 #[.agg #[.int .i64 t.wells, .slice Aw t.nw cw, .slice Af t.nf cf], .int .i64 q] w fun e w' => e = .returned (.bool b2) ∧ Below w.heap.size w w')
    obtain ⟨bb, hbb⟩ : ∃ bb, (b1 && b2) = bb := ⟨_, rfl⟩
    obtain ⟨er, her⟩ : ∃ er, t.knowErr bb = er := ⟨_, rfl⟩
    have HCO := Lib.hid (fun (w' : World) (hb : Below (w.alloc (.cells #[.int .i64 t.wells, .slice Aw t.nw cw, .slice Af t.nf cf] 25)).heap.size (w.alloc (.cells #[.int .i64 t.wells, .slice Aw t.nw cw, .slice Af t.nf cf] 25)) w') => ((openQ_any Aw Af cw cf t bb w' hs (HT.out.mono hb)).mono fun e w'' h => ⟨(her ▸ h.1).lower hb.size, h.2⟩ : Calls Tryd.prog 23 #[.agg #[.int .i64 t.wells, .slice Aw t.nw cw, .slice Af t.nf cf], .bool bb] w' fun e w'' => AskOut w'' (w.alloc (.cells #[.int .i64 t.wells, .slice Aw t.nw cw, .slice Af t.nf cf] 25)).heap.size Aw Af cw cf t er e ∧ Below w'.heap.size w' w''))
    rw [hbb, her] at hz ⊢
    have HNZ := Lib.hid hz
    have g0 : (er != 0) = true := by simp [hz]
    have HG := Lib.hid hbb
    clear h1 h2 hbb her hT hB hI hb0 hz HOUT
    go_enter Tryd.func10, Tryd.ntmps10
    go_wp2_with fail
    go_step3
    go_wp2_with fail
    rcases two_ways b1 b2 with rfl | ⟨rfl, rfl⟩ | ⟨rfl, rfl⟩
    all_goals
      obtain rfl := HG.out
      refine wp_region_call 9 (fun v w2 => AskOut w2 (w.alloc (.cells #[.int .i64 t.wells, .slice Aw t.nw cw, .slice Af t.nf cf] 25)).heap.size Aw Af cw cf t er (.returned v) ∧ Below (w.alloc (.cells #[.int .i64 t.wells, .slice Aw t.nw cw, .slice Af t.nf cf] 25)).heap.size (w.alloc (.cells #[.int .i64 t.wells, .slice Aw t.nw cw, .slice Af t.nf cf] 25)) w2) (by kernel_rfl) (by decide +kernel) rfl ?_
      apply Exists.intro
      refine ⟨fun K hK => ?_, ?_, fun w1 hb1 K Q' hK => ?_, ?_⟩
      · skip
        repeat (first | (refine wpCalm_skip rfl ?_) | (refine wpCalm_step rfl (fun K hK => ?_); go_simp; (first | (refine hK _ ?_; clear hK K) | (apply Exists.intro; refine ⟨fun _ => ?_, hK _ ?_⟩; ((first | (go_at_call 24; with_reducible exact newer_of (HC1.out _ (below_regrown _ _ _))) | (go_at_call 25; with_reducible exact newer_of (HC2.out _)))); clear hK K))))
        refine wpCalm_nil ?_
        exact hK
      · rfl
      · go_simp
        refine (HCO.out w1 hb1).mono ?_
        rintro e w2 ⟨ho, hb2⟩
        obtain ⟨v, rfl⟩ := AskOut.ret ho
        exact hK v w2 ⟨ho, bTrans hb1 hb2⟩
      rintro v w2 ⟨ho, hb2⟩
      obtain rfl := Ending.returned.inj (ho.1 HNZ.out)
      have HB2 := Lib.hid hb2
      clear ho hb2
      apply Exists.intro
      refine ⟨fun K hK => ?_, fun w3 hb3 => ?_⟩
      · skip
        repeat (first | (refine wpCalm_skip rfl ?_) | (refine wpCalm_step rfl (fun K hK => ?_); go_simp; (first | (refine hK _ ?_; clear hK K) | (apply Exists.intro; refine ⟨fun _ => ?_, hK _ ?_⟩; (fail); clear hK K))))
        refine wpCalm_nil ?_
        exact hK
      have HB3 := Lib.hid (bTrans HB2.out hb3)
      clear hb3
      go_wp2_with fail
      go_ret2
      exact ⟨rfl, bTrans HB.out HB3.out⟩
end Go.Proofs.YtcdlbpmffkoejaaDoor
/- Walks of the reference 05: Blame. Conditions: lengths are Go's. -/
namespace Go.Proofs.YtcdlbpmffkoejaaDoor
open Go.RowKit Go.Sort
theorem good_blamed {t : Qt} {d : Nat → Int} {m q p : Nat} {L : List Int} (hp : p < m) (hne : L ≠ []) : t.goodP d m q L p = L.all fun a => t.blamed d m q p a := by
  unfold Qt.goodP
  by_cases hpq : p = q
  · subst hpq
    obtain ⟨a, ha⟩ := List.exists_mem_of_ne_nil L hne
    have : (L.all fun a => t.blamed d m p p a) = false := by
      rw [List.all_eq_false]
      exact ⟨a, ha, by unfold Qt.blamed; simp⟩
    rw [this]
    simp
  · rw [decide_eq_true hpq, Bool.true_and]
    congr 1
    funext a
    exact blamed_prog hp hpq
end Go.Proofs.YtcdlbpmffkoejaaDoor
/- Walks of math/bits.OnesCount of small numbers; of the package quarrels: many, shows. Conditions: a number below 64; of shows: a valid town. -/
namespace Go.Proofs.YtcdlbpmffkoejaaDoor
open Go.RowKit Go.Sort
/-- how the bits are counted -/
def onesE (s : Nat) : Int :=
  let a := IntKind.u64.wrap (bits BinOp.and IntKind.u64 ((s : Int) / 2) 6148914691236517205 + bits BinOp.and IntKind.u64 (s : Int) 6148914691236517205)
  let b := IntKind.u64.wrap (bits BinOp.and IntKind.u64 (a / 4) 3689348814741910323 + bits BinOp.and IntKind.u64 a 3689348814741910323)
  let c := bits BinOp.and IntKind.u64 (IntKind.u64.wrap (b / 16 + b)) 1085102592571150095
  let d := IntKind.u64.wrap (c + c / 256)
  let e := IntKind.u64.wrap (d + d / 65536)
  let f := IntKind.u64.wrap (e + e / 4294967296)
  bits BinOp.and IntKind.i64 (wrap64 f) 127
theorem ones_fact : ∀ s : Nat, s < 64 → onesE s = ((bitsL s).length : Int) := by decide +kernel
theorem ones64_any (s : Nat) (w : World) (h1 : s < 64) :
    Calls Tryd.prog 73 #[.int .u64 s] w fun e w' => e = .returned (.int .i64 ((bitsL s).length : Int)) ∧ w = w' := by
  obtain ⟨a, ha⟩ : ∃ a, IntKind.u64.wrap (bits BinOp.and IntKind.u64 ((s : Int) / 2) 6148914691236517205 + bits BinOp.and IntKind.u64 (s : Int) 6148914691236517205) = a := ⟨_, rfl⟩
  obtain ⟨b, hb⟩ : ∃ b, IntKind.u64.wrap (bits BinOp.and IntKind.u64 (a / 4) 3689348814741910323 + bits BinOp.and IntKind.u64 a 3689348814741910323) = b := ⟨_, rfl⟩
  obtain ⟨c, hc⟩ : ∃ c, bits BinOp.and IntKind.u64 (IntKind.u64.wrap (b / 16 + b)) 1085102592571150095 = c := ⟨_, rfl⟩
  obtain ⟨d, hd⟩ : ∃ d, IntKind.u64.wrap (c + c / 256) = d := ⟨_, rfl⟩
  obtain ⟨f, hf⟩ : ∃ f, IntKind.u64.wrap (d + d / 65536) = f := ⟨_, rfl⟩
  obtain ⟨g, hg⟩ : ∃ g, IntKind.u64.wrap (f + f / 4294967296) = g := ⟨_, rfl⟩
  obtain ⟨r, hr⟩ : ∃ r, bits BinOp.and IntKind.i64 (wrap64 g) 127 = r := ⟨_, rfl⟩
  have HR := Lib.hid (show r = ((bitsL s).length : Int) by rw [← ones_fact s h1, ← hr, ← hg, ← hf, ← hd, ← hc, ← hb, ← ha]; rfl)
  rw [← HR.out]
  go_enter Tryd.func73, Tryd.ntmps73
  go_wp2_with fail
  go_ret
  exact ⟨rfl, rfl⟩
theorem ones_any (s : Nat) (w : World) (h1 : s < 64) :
    Calls Tryd.prog 55 #[.int .u64 s] w fun e w' => e = .returned (.int .i64 ((bitsL s).length : Int)) ∧ w = w' := by
  go_enter Tryd.func55, Tryd.ntmps55
  go_wp2_with fail
  refine (ones64_any s _ h1).mono ?_
  rintro e w' ⟨rfl, rfl⟩
  go_wp2_with fail
  go_ret
  exact ⟨rfl, rfl⟩
theorem many_any (s : Nat) (w : World) (h1 : s < 64) :
    Calls Tryd.prog 36 #[.int .u64 s] w fun e w' => e = .returned (.int .i64 ((bitsL s).length : Int)) ∧ w = w' := by
  go_enter Tryd.func36, Tryd.ntmps36
  go_wp2_with fail
  refine (ones_any s _ h1).mono ?_
  rintro e w' ⟨rfl, rfl⟩
  go_wp2_with fail
  go_ret
  exact ⟨rfl, rfl⟩
set_option maxHeartbeats 2000000 in
theorem shows_any (Aw Af : Option Addr) (cw cf C mp s : Nat) (t : Qt) (p q i : Nat) (w : World) (hc : CourtAt w C Aw Af cw cf t s mp) (ok : t.Ok) (hp : (p : Int) < t.wells) (hq : (q : Int) < t.wells) (hi : i < t.nw) (hT : QAt w Aw Af t) :
    Calls Tryd.prog 54 #[.pointer (some ⟨C, 0, none⟩), .agg #[.int .i64 p, .int .i64 q], .int .i64 i] w fun e w' => e = .returned (.int .i64 (t.F i (p, q))) ∧ Below w.heap.size w w' := by
  obtain ⟨b, o, b', o', c', b'', o'', c'', n, m, v, rfl, a2, a3, a4, a5, a6, a7, hv, v0, v1, hn, hm⟩ := ok.at hT hi (p := p) (q := q) (by omega) hp (by omega) hq
  rw [Int.toNat_natCast] at a5
  rw [Int.toNat_natCast] at a7
  have HV := Lib.hid (show t.F i (p, q) = v from hv.symm)
  have HB := Lib.hid (bAlloc (Below.refl w.heap.size w) (.cells #[.int .i64 p, .int .i64 q] 58))
  have x0 := hc.box.lt
  have y0 := hc.box.cell 1 _ rfl
  have p1 : (p : Int) < (n : Int) := by omega
  have p0 : (0 : Int) ≤ (p : Int) := by omega
  have q1 : (q : Int) < (m : Int) := by omega
  have q0 : (0 : Int) ≤ (q : Int) := by omega
  have i1 : (i : Int) < (t.nw : Int) := by omega
  have i0 : (0 : Int) ≤ (i : Int) := by omega
  clear hv hn hm hi hp hq ok hT hc
  go_enter Tryd.func54, Tryd.ntmps54
  go_wp2_with fail
  go_region
  go_wp2_with fail
  go_ret
  exact ⟨by rw [HV.out]; rfl, HB.out.drew⟩
end Go.Proofs.YtcdlbpmffkoejaaDoor
/- The walk of behind of the package quarrels. Conditions: a valid town; the listed table holds what it holds. -/
namespace Go.Proofs.YtcdlbpmffkoejaaDoor
open Go.RowKit Go.Sort
/-- a bit for each of some numbers -/
def maskL (l : List Int) : Nat := l.foldl (fun m i => m ||| 2 ^ i.toNat) 0
theorem maskL_snoc (l : List Int) (i : Int) : maskL (l ++ [i]) = maskL l ||| 2 ^ i.toNat := by simp [maskL]
theorem maskL_bitG (j : Nat) : ∀ (l : List Int) (a : Nat), (l.foldl (fun m i => m ||| 2 ^ i.toNat) a).testBit j = (a.testBit j || l.any fun i => i.toNat == j)
  | [], a => by simp
  | x :: l, a => by
    rw [List.foldl_cons, maskL_bitG j l, Nat.testBit_or, List.any_cons]
    by_cases h : x.toNat = j
    · subst h
      simp [Nat.testBit_two_pow_self]
    · rw [Nat.testBit_two_pow_of_ne h, beq_eq_false_iff_ne.2 h]
      simp
theorem maskL_bit (l : List Int) (j : Nat) : (maskL l).testBit j = l.any fun i => i.toNat == j := by
  unfold maskL
  rw [maskL_bitG]
  simp
theorem maskL_lt {l : List Int} (h : ∀ x, x ∈ l → x.toNat < 6) : maskL l < 64 := by
  have key : ∀ (l : List Int) (a : Nat), a < 2 ^ 6 → (∀ x, x ∈ l → x.toNat < 6) → l.foldl (fun m i => m ||| 2 ^ i.toNat) a < 2 ^ 6 := by
    intro l
    induction l with
    | nil => intro a ha _; exact ha
    | cons x l ih =>
      intro a ha hx
      rw [List.foldl_cons]
      exact ih _ (Nat.or_lt_two_pow ha (Nat.pow_lt_pow_right (by decide) (hx x (by simp)))) fun y hy => hx y (by simp [hy])
  exact key l 0 (by decide) h
theorem selTo_mem {p : Nat → Bool} {x : Int} : ∀ {n : Nat}, x ∈ selTo p n ↔ ∃ i : Nat, i < n ∧ p i = true ∧ x = i
  | 0 => by simp [selTo]
  | n + 1 => by
    have ih := selTo_mem (p := p) (x := x) (n := n)
    unfold selTo
    constructor
    · intro h
      split at h
      · rename_i hp
        rw [List.mem_append, ih] at h
        rcases h with ⟨i, h1, h2, h3⟩ | h
        · exact ⟨i, by omega, h2, h3⟩
        · exact ⟨n, by omega, hp, by simpa using h⟩
      · obtain ⟨i, h1, h2, h3⟩ := ih.1 h
        exact ⟨i, by omega, h2, h3⟩
    · rintro ⟨i, h1, h2, h3⟩
      rcases Nat.lt_or_ge i n with h4 | h4
      · have := ih.2 ⟨i, h4, h2, h3⟩
        split
        · rw [List.mem_append]; exact .inl this
        · exact this
      · obtain rfl : i = n := by omega
        rw [if_pos h2, List.mem_append]
        exact .inr (by simp [h3])
theorem selTo_filter (p : Nat → Bool) (r : Int → Bool) : ∀ n, (selTo p n).filter r = selTo (fun j => p j && r (j : Int)) n
  | 0 => rfl
  | n + 1 => by
    have ih := selTo_filter p r n
    unfold selTo
    by_cases hp : p n = true
    · rw [if_pos hp, List.filter_append, ih]
      by_cases hr : r (n : Int) = true
      · simp [hp, hr]
      · simp [hr]
    · rw [if_neg hp, ih]
      simp [hp]
theorem bits_maskL (p : Nat → Bool) : bitsL (maskL (selTo p 6)) = selTo p 6 := by
  unfold bitsL
  refine selTo_congr 6 fun j hj => ?_
  rw [maskL_bit]
  cases h : p j with
  | true => exact List.any_eq_true.2 ⟨(j : Int), selTo_mem.2 ⟨j, hj, h, rfl⟩, by simp⟩
  | false =>
    rw [List.any_eq_false]
    intro x hx
    obtain ⟨i, h1, h2, rfl⟩ := selTo_mem.1 hx
    simp
    rintro rfl
    rw [h] at h2
    cases h2
theorem bitsL_mem {s : Nat} {x : Int} : x ∈ bitsL s ↔ ∃ i : Nat, i < 6 ∧ s.testBit i = true ∧ x = i := selTo_mem
theorem shown_sel (t : Qt) (x : Tp) (s : Nat) (f : Int) : t.shown x (bitsL s) f = selTo (fun j => s.testBit j && (t.F (j : Int) x == f)) 6 := selTo_filter _ _ 6
theorem bits_shown (t : Qt) (x : Tp) (s : Nat) (f : Int) : bitsL (maskL (t.shown x (bitsL s) f)) = t.shown x (bitsL s) f := by rw [shown_sel]; exact bits_maskL _
theorem shown_64 (t : Qt) (x : Tp) (s : Nat) (f : Int) : maskL (t.shown x (bitsL s) f) < 64 := maskL_lt fun y hy => by
  obtain ⟨i, h1, _, rfl⟩ := bitsL_mem.1 (List.mem_filter.1 hy).1
  simpa using h1
theorem mask_bits : ∀ s : Nat, s < 64 → maskL (bitsL s) = s := by decide +kernel
theorem shown_same (t : Qt) (x : Tp) {s : Nat} (hs : s < 64) (f : Int) : (maskL (t.shown x (bitsL s) f) = s) ↔ t.shown x (bitsL s) f = bitsL s :=
  ⟨fun h => by rw [← bits_shown, h], fun h => by rw [h, mask_bits s hs]⟩
/-- an array of ten masks -/
structure ArrAt (w : World) (B : Nat) (m : Nat → Nat) : Prop where
  lt : B < w.heap.size
  cell : ∀ f, f < 10 → w.cell? ⟨B, f, none⟩ = some (.int .u64 (m f : Int))
  frz : ∀ o, w.frozen? ⟨B, o, none⟩ = false
theorem ArrAt.mono {w w' : World} {B : Nat} {m : Nat → Nat} (h : ArrAt w B m) (hb : Below w.heap.size w w') : ArrAt w' B m :=
  ⟨Nat.lt_of_lt_of_le h.lt hb.size, fun f hf => (hb.cell (p := ⟨B, f, none⟩) h.lt).trans (h.cell f hf), fun o => (hb.frozen (p := ⟨B, o, none⟩) h.lt).trans (h.frz o)⟩
theorem ArrAt.put {w : World} {B : Nat} {m m' : Nat → Nat} (h : ArrAt w B m) {f : Nat} (hf : f < 10) {u : Nat} (hu : m' f = u) (ho : ∀ g, g ≠ f → m' g = m g) : ArrAt (w.setCell ⟨B, f, none⟩ (.int .u64 (u : Int))) B m' :=
  ⟨by simpa [World.setCell] using h.lt, fun g hg => by
    by_cases e : g = f
    · subst e
      rw [hu]
      exact World.cell?_setCell_same _ _ _ (h.cell g hg)
    · rw [ho g e]
      exact (World.cell?_setCell_other _ _ _ _ (fun e' => by injection e' with _ e'; exact e e'.symm)).trans (h.cell g hg), fun o => by rw [World.frozen?_setCell]; exact h.frz o⟩
/-- what behind hands back -/
def behM (t : Qt) (x : Tp) (s f : Nat) : Nat := maskL (t.shown x (bitsL s) f)
def behV (t : Qt) (x : Tp) (s : Nat) : Value := .agg #[.int .u64 (behM t x s 0), .int .u64 (behM t x s 1), .int .u64 (behM t x s 2), .int .u64 (behM t x s 3), .int .u64 (behM t x s 4), .int .u64 (behM t x s 5), .int .u64 (behM t x s 6), .int .u64 (behM t x s 7), .int .u64 (behM t x s 8), .int .u64 (behM t x s 9)]
/-- after k of the worlds -/
def behK (t : Qt) (x : Tp) (s k f : Nat) : Nat := maskL (((bitsL s).take k).filter fun w => t.F w x == (f : Int))
theorem behK_zero (t : Qt) (x : Tp) (s f : Nat) : behK t x s 0 f = 0 := by simp [behK, maskL]
theorem behK_all (t : Qt) (x : Tp) (s f : Nat) : behK t x s (bitsL s).length f = behM t x s f := by
  unfold behK behM Qt.shown
  rw [List.take_length]
theorem behK_hit (t : Qt) (x : Tp) (s k f i : Nat) (hk : (bitsL s)[k]? = some (i : Int)) (hf : t.F i x = f) : behK t x s (k + 1) f = behK t x s k f ||| 2 ^ i := by
  unfold behK
  rw [List.take_add_one, hk]
  simp only [Option.toList_some, List.filter_append]
  rw [List.filter_cons, if_pos (by rw [hf]; simp)]
  rw [List.filter_nil, maskL_snoc, Int.toNat_natCast]
theorem behK_miss (t : Qt) (x : Tp) (s k f i : Nat) (hk : (bitsL s)[k]? = some (i : Int)) (hf : t.F i x ≠ f) : behK t x s (k + 1) f = behK t x s k f := by
  unfold behK
  rw [List.take_add_one, hk]
  simp only [Option.toList_some, List.filter_append]
  rw [List.filter_cons, if_neg (by simpa using hf)]
  simp
theorem behK_64 (t : Qt) (x : Tp) (s k f : Nat) : behK t x s k f < 64 := maskL_lt fun y hy => by
  obtain ⟨i, h1, _, rfl⟩ := bitsL_mem.1 (List.mem_of_mem_take (List.mem_filter.1 hy).1)
  simpa using h1
theorem set10 {base B : Nat} {w w' : World} (h : Below base w w') (hB : base ≤ B) (v0 v1 v2 v3 v4 v5 v6 v7 v8 v9 : Value) : Below base w ((((((((((w'.setCell ⟨B, 0, none⟩ v0).setCell ⟨B, 1, none⟩ v1).setCell ⟨B, 2, none⟩ v2).setCell ⟨B, 3, none⟩ v3).setCell ⟨B, 4, none⟩ v4).setCell ⟨B, 5, none⟩ v5).setCell ⟨B, 6, none⟩ v6).setCell ⟨B, 7, none⟩ v7).setCell ⟨B, 8, none⟩ v8).setCell ⟨B, 9, none⟩ v9) :=
  ((((((((((h.setCell (p := ⟨B, 0, none⟩) hB v0).setCell (p := ⟨B, 1, none⟩) hB v1).setCell (p := ⟨B, 2, none⟩) hB v2).setCell (p := ⟨B, 3, none⟩) hB v3).setCell (p := ⟨B, 4, none⟩) hB v4).setCell (p := ⟨B, 5, none⟩) hB v5).setCell (p := ⟨B, 6, none⟩) hB v6).setCell (p := ⟨B, 7, none⟩) hB v7).setCell (p := ⟨B, 8, none⟩) hB v8).setCell (p := ⟨B, 9, none⟩) hB v9)
set_option maxHeartbeats 4000000 in
set_option maxRecDepth 100000 in
theorem behind_any (Aw Af : Option Addr) (cw cf C mp s0 s : Nat) (t : Qt) (p q : Nat) (w : World) (hc : CourtAt w C Aw Af cw cf t s0 mp) (ok : t.Ok) (h64 : s < 64) (hsub : ∀ i : Nat, s.testBit i = true → i < t.nw) (hp : (p : Int) < t.wells) (hq : (q : Int) < t.wells) (hT : QAt w Aw Af t) (hB : TabAt w) :
    Calls Tryd.prog 35 #[.pointer (some ⟨C, 0, none⟩), .int .u64 s, .agg #[.int .i64 p, .int .i64 q]] w fun e w' => e = .returned (behV t (p, q) s) ∧ Below w.heap.size w w' := by
  have hb2 := bAlloc (bAlloc (Below.refl w.heap.size w) (.cells #[.int .i64 p, .int .i64 q] 58)) (.cells #[.int .u64 0, .int .u64 0, .int .u64 0, .int .u64 0, .int .u64 0, .int .u64 0, .int .u64 0, .int .u64 0, .int .u64 0, .int .u64 0] 80)
  have HCT := Lib.hid hc
  have HT := Lib.hid hT
  have HTB := Lib.hid (hB.mono hb2)
  have HOK := Lib.hid ok
  have HSUB := Lib.hid hsub
  have HP := Lib.hid hp
  have HQ := Lib.hid hq
  have HB := Lib.hid hb2
  clear hc hT hB hb2 ok hsub hp hq
  go_enter Tryd.func35, Tryd.ntmps35
  go_wp2_with fail
  refine (list_any s _ h64 HTB.out).mono ?_
  rintro e w2 ⟨⟨v, rfl, hv⟩, hb2⟩
  obtain ⟨A, c, rfl, hrow⟩ := hv.nums
  have HV := Lib.hid (hv.lower (show w.heap.size + 2 ≤ _ by simp))
  have hbA := bTrans (bAlloc (Below.refl (w.alloc (.cells #[.int .i64 p, .int .i64 q] 58)).heap.size (w.alloc (.cells #[.int .i64 p, .int .i64 q] 58))) (.cells #[.int .u64 0, .int .u64 0, .int .u64 0, .int .u64 0, .int .u64 0, .int .u64 0, .int .u64 0, .int .u64 0, .int .u64 0, .int .u64 0] 80)) hb2
  have HBA := Lib.hid hbA
  have HX2 := Lib.hid (ArrAt.mono (w := (w.alloc (.cells #[.int .i64 p, .int .i64 q] 58)).alloc (.cells #[.int .u64 0, .int .u64 0, .int .u64 0, .int .u64 0, .int .u64 0, .int .u64 0, .int .u64 0, .int .u64 0, .int .u64 0, .int .u64 0] 80)) (B := w.heap.size + 1) (m := behK t (p, q) s 0) ⟨by simp, fun f hf => by
    rw [behK_zero]
    rcases (by omega : f = 0 ∨ f = 1 ∨ f = 2 ∨ f = 3 ∨ f = 4 ∨ f = 5 ∨ f = 6 ∨ f = 7 ∨ f = 8 ∨ f = 9) with rfl | rfl | rfl | rfl | rfl | rfl | rfl | rfl | rfl | rfl <;> simp [go_sem], fun o => by simp [go_sem]⟩ hb2)
  obtain ⟨n, hn⟩ : ∃ n, (bitsL s).length = n := ⟨_, rfl⟩
  have hn6 : n ≤ 6 := by rw [← hn]; exact bitsL_len s
  rw [hn]
  have HN := Lib.hid hn
  clear hv hrow hb2 hbA hn
  go_wp2_with fail
  go_loopw [12] (fun i wr => ∃ k : Nat, i = .int .i64 k ∧ k ≤ n ∧ ArrAt wr (w.heap.size + 1) (behK t (p, q) s k) ∧ OwnL wr (w.heap.size + 2) (.slice A n c) (bitsL s) ∧ Below (w.heap.size + 1) (w.alloc (.cells #[.int .i64 p, .int .i64 q] 58)) wr) (fun i _ => n - (intOf i).toNat)
  case atStart => exact ⟨0, rfl, Nat.zero_le _, HX2.out, HN.out ▸ HV.out, by have := HBA.out; simpa using this⟩
  case round =>
    obtain ⟨k, rfl, hk, hX, hO, hbel⟩ := hrel
    have HX := Lib.hid hX
    have HO := Lib.hid hO
    have HL := Lib.hid hbel
    have hbw : Below w.heap.size w wr := bTrans (bAlloc (Below.refl w.heap.size w) (.cells #[.int .i64 p, .int .i64 q] 58)) (by simpa using hbel)
    have HBW := Lib.hid hbw
    have hsz := hbel.size
    simp only [World.size_alloc] at hsz
    have hca := (hbel.cell (p := ⟨w.heap.size, 0, none⟩) (by simp)).trans (show _ = some (.int .i64 p) by simp [go_sem])
    have hcb := (hbel.cell (p := ⟨w.heap.size, 1, none⟩) (by simp)).trans (show _ = some (.int .i64 q) by simp [go_sem])
    have hyw : w.heap.size < wr.heap.size := by omega
    clear hX hO hbel
    by_cases hlt : k < n
    · obtain ⟨x, hx⟩ : ∃ x, (bitsL s)[k]? = some x := ⟨_, List.getElem?_eq_getElem (by rw [HN.out]; exact hlt)⟩
      obtain ⟨i, hi6, hbit, rfl⟩ := bitsL_mem.1 (List.mem_of_getElem? hx)
      have hi := HSUB.out i hbit
      obtain ⟨A1, c1, e1, hrow⟩ := HO.out.nums
      injection e1 with e1 e3 e2
      clear e3
      subst e1 e2
      obtain ⟨b, o, rfl, hbs, c0⟩ := hrow.num hx
      have hF := fallAt_bd HOK.out hi (p := p) (q := q) (by omega) HP.out (by omega) HQ.out
      obtain ⟨f, hf⟩ : ∃ f : Nat, t.F i (p, q) = (f : Int) := ⟨(t.F i (p, q)).toNat, by have := hF.1; show (t.world i).fall p q = _; simp only [Qt.fallAt, Int.toNat_natCast] at hF; show _ = (((t.world i).fall p q).toNat : Int); omega⟩
      have hf9 : f < 10 := by
        have h1 : t.F i (p, q) = (t.world i).fall p q := rfl
        simp only [Qt.fallAt, Int.toNat_natCast] at hF
        omega
      have HCS := Lib.hid (fun (w' : World) (hb : Below wr.heap.size wr w') => (hf ▸ shows_any Aw Af cw cf C mp s0 t p q i w' ((HCT.out.mono hbw).mono hb) HOK.out HP.out HQ.out hi ((HT.out.mono hbw).mono hb) : Calls Tryd.prog 54 #[.pointer (some ⟨C, 0, none⟩), .agg #[.int .i64 p, .int .i64 q], .int .i64 i] w' fun e w'' => e = .returned (.int .i64 f) ∧ Below w'.heap.size w' w''))
      obtain ⟨m, hm⟩ : ∃ m, behK t (p, q) s k f = m := ⟨_, rfl⟩
      obtain ⟨u, hu⟩ : ∃ u, 2 ^ i = u := ⟨_, rfl⟩
      obtain ⟨z, hz⟩ : ∃ z, m ||| u = z := ⟨_, rfl⟩
      have y0 := HX.out.cell f hf9
      rw [hm] at y0
      have z0 := HX.out.frz f
      have x0 := HX.out.lt
      have hshl : IntKind.u64.wrap ((2 : Int) ^ i) = (u : Int) := by rw [← hu]; exact shlW i hi6
      have hor : bits BinOp.and IntKind.u64 0 0 = 0 ∧ bits BinOp.or IntKind.u64 (m : Int) (u : Int) = (z : Int) := ⟨by decide +kernel, by
        rw [← hz]
        refine orW m u ?_ ?_
        · rw [← hm]; exact behK_64 _ _ _ _ _
        · rw [← hu]; exact Nat.lt_of_lt_of_le (Nat.pow_lt_pow_right (by decide) hi6) (by decide)⟩
      have hor := hor.2
      have HHIT := Lib.hid (show behK t (p, q) s (k + 1) f = z by rw [behK_hit t (p, q) s k f i hx hf, hm, hu, hz])
      have HMISS := Lib.hid (fun g (hg : g ≠ f) => behK_miss t (p, q) s k g i hx (by rw [hf]; exact fun e => hg (by omega)))
      have f10 : (f : Int) < 10 := by omega
      have f0 : (0 : Int) ≤ (f : Int) := by omega
      have i0 : (0 : Int) ≤ (i : Int) := by omega
      have k1 : (k : Int) < (n : Int) := by omega
      clear hrow hx hF hf hm hu hz hbit hbw
      go_wp2_with fail
      refine wp_region_last 10 (by kernel_rfl) (by kernel_rfl) rfl ?_
      repeat (first | (refine wpCalm_skip rfl ?_) | (refine wpCalm_step rfl (fun K hK => ?_); go_simp; (first | (refine hK _ ?_; clear hK K) | (apply Exists.intro; refine ⟨fun _ => ?_, hK _ ?_⟩; ((go_at_call 54; with_reducible exact newer_of (HCS.out _ (below_regrown _ _ _)))); clear hK K))))
      refine wpCalm_nil ?_
      intro w9 hb9
      have HX9 := Lib.hid (HX.out.mono hb9)
      have HO9 := Lib.hid (HO.out.mono hb9)
      have HL9 := Lib.hid (HL.out.trans (hb9.mono (by omega)))
      have u0 := HX9.out.lt
      have u1 := (hb9.cell (p := ⟨w.heap.size + 1, f, none⟩) x0).trans y0
      have u2 := HX9.out.frz f
      clear hb9 c0 y0 z0 hca hcb x0
      go_wp2_with fail
      go_roundw
      case rel => exact ⟨k + 1, by go_num, by have := HN.out; omega, HX9.out.put hf9 HHIT.out HMISS.out, HO9.out.set (b := w.heap.size + 1) (by omega) f (.int .u64 z), Below.setCell (p := ⟨w.heap.size + 1, f, none⟩) HL9.out (by simp) (.int .u64 z)⟩
      case measure => simp [intOf]; omega
    · obtain rfl : k = n := by omega
      have hall : ∀ f, f < 10 → wr.cell? ⟨w.heap.size + 1, f, none⟩ = some (.int .u64 (behM t (p, q) s f : Nat)) := fun f hf => by rw [HX.out.cell f hf, ← HN.out, behK_all]
      have c0 := hall 0 (by decide)
      have c1 := hall 1 (by decide)
      have c2 := hall 2 (by decide)
      have c3 := hall 3 (by decide)
      have c4 := hall 4 (by decide)
      have c5 := hall 5 (by decide)
      have c6 := hall 6 (by decide)
      have c7 := hall 7 (by decide)
      have c8 := hall 8 (by decide)
      have c9 := hall 9 (by decide)
      have x0 := HX.out.lt
      have z0 := HX.out.frz
      clear hall hca hcb
      go_wp2_with fail
      refine bodyPost_ret (v := behV t (p, q) s) (by simp [results, behV, Tryd.results35, go_sem, *]) rfl ⟨rfl, ?_⟩
      exact set10 HBW.out (Nat.le_succ _) _ _ _ _ _ _ _ _ _ _
end Go.Proofs.YtcdlbpmffkoejaaDoor
/- The walk of Split of the package quarrels. Conditions: lengths are Go's; the listed table holds what it holds. -/
namespace Go.Proofs.YtcdlbpmffkoejaaDoor
open Go.RowKit Go.Sort
/-- how many worlds would be left at the most -/
def Qt.splitL (t : Qt) (x : Tp) (L : List Int) : Int := maxTo (fun f => ((t.shown x L (f : Int)).length : Int)) 10
/-- what Split hands back -/
noncomputable def Qt.splitV (t : Qt) (p q : Int) : Int := if t.knowErr (t.wellB p && t.wellB q) = 0 then t.splitL (p.toNat, q.toNat) t.leftL else 0
theorem mask_sub {t : Qt} (i : Nat) (h : (t.maskTo t.nw).testBit i = true) : i < t.nw := by
  rw [maskTo_bit] at h
  simp at h
  exact h.1
def behA (t : Qt) (x : Tp) (s : Nat) : Array Value := #[.int .u64 (behM t x s 0), .int .u64 (behM t x s 1), .int .u64 (behM t x s 2), .int .u64 (behM t x s 3), .int .u64 (behM t x s 4), .int .u64 (behM t x s 5), .int .u64 (behM t x s 6), .int .u64 (behM t x s 7), .int .u64 (behM t x s 8), .int .u64 (behM t x s 9)]
theorem behA_get (t : Qt) (x : Tp) (s : Nat) {k : Nat} (h : k < 10) : (behA t x s)[k]? = some (.int .u64 (behM t x s k : Int)) := by
  rcases (by omega : k = 0 ∨ k = 1 ∨ k = 2 ∨ k = 3 ∨ k = 4 ∨ k = 5 ∨ k = 6 ∨ k = 7 ∨ k = 8 ∨ k = 9) with rfl | rfl | rfl | rfl | rfl | rfl | rfl | rfl | rfl | rfl <;> rfl
theorem index10 (ba : Array Value) (k : Nat) (u : Nat) (h : ba[k]? = some (.int .u64 (u : Int))) (hk : k < 10) (w : World) : (Instr.index 80 (.agg ba) (.int .i64 k)).run Tryd.prog w = .ok (.int .u64 (u : Int)) w := by
  have h1 : (k : Int) < 10 := by omega
  have hs : (ba.extract k (k + 1)) = #[.int .u64 (u : Int)] := by
    obtain ⟨hlt, he⟩ := Array.getElem?_eq_some_iff.1 h
    apply Array.ext
    · simp; omega
    · intro i hi1 hi2
      have : i = 0 := by simp at hi2; omega
      subst this
      simpa using he
  simp [Instr.index, run_underlying Tryd.underlying80, asIntOf, go_sem, h1, hs, h]
  intro h2
  omega
set_option maxHeartbeats 4000000 in
set_option maxRecDepth 100000 in
theorem splitQ_any (Aw Af : Option Addr) (cw cf : Nat) (t : Qt) (p q : Int) (w : World) (hs : t.Small) (hT : QAt w Aw Af t) (hB : TabAt w) :
    Calls Tryd.prog 18 #[.agg #[.int .i64 t.wells, .slice Aw t.nw cw, .slice Af t.nf cf], .agg #[.int .i64 p, .int .i64 q]] w fun e w' => e = .returned (.tuple #[.int .i64 (t.splitV p q), .int .i64 (t.knowErr (t.wellB p && t.wellB q))]) ∧ Below w.heap.size w w' := by
  have hb0 := bAlloc (bAlloc (Below.refl w.heap.size w) (.cells #[.int .i64 t.wells, .slice Aw t.nw cw, .slice Af t.nf cf] 25)) (.cells #[.int .i64 p, .int .i64 q] 58)
  have HT := Lib.hid (hT.mono hb0)
  have HTB := Lib.hid (hB.mono hb0)
  have HB := Lib.hid hb0
  clear hT hb0 hB
  obtain ⟨b1, h1⟩ : ∃ b, t.wellB p = b := ⟨_, rfl⟩
  obtain ⟨b2, h2⟩ : ∃ b, t.wellB q = b := ⟨_, rfl⟩
  have HC1 := Lib.hid (fun w => h1 ▸ isWellQ_any Aw Af cw cf t p w : ∀ w : World, Calls Tryd.prog 25 #[.agg #[.int .i64 t.wells, .slice Aw t.nw cw, .slice Af t.nf cf], .int .i64 p] w fun e w' => e = .returned (.bool b1) ∧ Below w.heap.size w w')
  have HC2 := Lib.hid (fun w => h2 ▸ isWellQ_any Aw Af cw cf t q w : ∀ w : World, Calls Tryd.prog 25 #[.agg #[.int .i64 t.wells, .slice Aw t.nw cw, .slice Af t.nf cf], .int .i64 q] w fun e w' => e = .returned (.bool b2) ∧ Below w.heap.size w w')
  obtain ⟨bb, hbb⟩ : ∃ bb, (b1 && b2) = bb := ⟨_, rfl⟩
  obtain ⟨er, her⟩ : ∃ er, t.knowErr bb = er := ⟨_, rfl⟩
  have HCO := Lib.hid (fun (w' : World) (hb : Below ((w.alloc (.cells #[.int .i64 t.wells, .slice Aw t.nw cw, .slice Af t.nf cf] 25)).alloc (.cells #[.int .i64 p, .int .i64 q] 58)).heap.size ((w.alloc (.cells #[.int .i64 t.wells, .slice Aw t.nw cw, .slice Af t.nf cf] 25)).alloc (.cells #[.int .i64 p, .int .i64 q] 58)) w') => ((openQ_any Aw Af cw cf t bb w' hs (HT.out.mono hb)).mono fun e w'' h => ⟨(her ▸ h.1).lower hb.size, h.2⟩ : Calls Tryd.prog 23 #[.agg #[.int .i64 t.wells, .slice Aw t.nw cw, .slice Af t.nf cf], .bool bb] w' fun e w'' => AskOut w'' ((w.alloc (.cells #[.int .i64 t.wells, .slice Aw t.nw cw, .slice Af t.nf cf] 25)).alloc (.cells #[.int .i64 p, .int .i64 q] 58)).heap.size Aw Af cw cf t er e ∧ Below w'.heap.size w' w''))
  have HE := Lib.hid (show t.knowErr (t.wellB p && t.wellB q) = er by rw [h1, h2, hbb, her])
  have HSV := Lib.hid (show t.splitV p q = if er = 0 then t.splitL (p.toNat, q.toNat) t.leftL else 0 by unfold Qt.splitV; rw [h1, h2, hbb, her])
  rw [HE.out, HSV.out]
  have HKE := Lib.hid her
  have HG := Lib.hid hbb
  have HW1 := Lib.hid h1
  have HW2 := Lib.hid h2
  clear h1 h2 her hbb HE HSV
  by_cases he : er = 0
  · subst he
    obtain ⟨ok, rfl, hne⟩ := knowErr_zero HKE.out
    have hg := HG.out
    simp only [Bool.and_eq_true] at hg
    obtain ⟨rfl, rfl⟩ := hg
    have hp := inR_iff.1 ((wellB_ok ok p).symm.trans HW1.out)
    have hq := inR_iff.1 ((wellB_ok ok q).symm.trans HW2.out)
    obtain ⟨i, rfl⟩ : ∃ i : Nat, p = (i : Int) := ⟨p.toNat, by omega⟩
    obtain ⟨j, rfl⟩ : ∃ j : Nat, q = (j : Int) := ⟨q.toNat, by omega⟩
    have HP := Lib.hid (show (i : Int) < t.wells by omega)
    have HQ := Lib.hid (show (j : Int) < t.wells by omega)
    have HOK := Lib.hid ok
    have h64 := mask_64 t ok.nw
    obtain ⟨s, hsk⟩ : ∃ s, t.maskTo t.nw = s := ⟨_, rfl⟩
    have HBM := Lib.hid (show bitsL s = t.leftL by rw [← hsk]; exact bits_mask t ok.nw)
    have HSUB := Lib.hid (show ∀ i : Nat, s.testBit i = true → i < t.nw by rw [← hsk]; exact fun i h => mask_sub i h)
    have HSK := Lib.hid hsk
    rw [hsk] at h64
    rw [if_pos rfl, Int.toNat_natCast, Int.toNat_natCast]
    clear hp hq hne ok hsk
    go_enter Tryd.func18, Tryd.ntmps18
    go_wp2_with fail
    refine wp_region_call 11 (fun v w2 => AskOut w2 ((w.alloc (.cells #[.int .i64 t.wells, .slice Aw t.nw cw, .slice Af t.nf cf] 25)).alloc (.cells #[.int .i64 (i : Int), .int .i64 (j : Int)] 58)).heap.size Aw Af cw cf t 0 (.returned v) ∧ Below ((w.alloc (.cells #[.int .i64 t.wells, .slice Aw t.nw cw, .slice Af t.nf cf] 25)).alloc (.cells #[.int .i64 (i : Int), .int .i64 (j : Int)] 58)).heap.size ((w.alloc (.cells #[.int .i64 t.wells, .slice Aw t.nw cw, .slice Af t.nf cf] 25)).alloc (.cells #[.int .i64 (i : Int), .int .i64 (j : Int)] 58)) w2) (by kernel_rfl) (by decide +kernel) rfl ?_
    apply Exists.intro
    refine ⟨fun K hK => ?_, ?_, fun w1 hb1 K Q' hK => ?_, ?_⟩
    · skip
      repeat (first | (refine wpCalm_skip rfl ?_) | (refine wpCalm_step rfl (fun K hK => ?_); go_simp; (first | (refine hK _ ?_; clear hK K) | (apply Exists.intro; refine ⟨fun _ => ?_, hK _ ?_⟩; ((first | (go_at_call 25; with_reducible exact newer_of (HC1.out _)) | (go_at_call 25; with_reducible exact newer_of (HC2.out _)))); clear hK K))))
      refine wpCalm_nil ?_
      exact hK
    · rfl
    · go_simp
      refine (HCO.out w1 hb1).mono ?_
      rintro e w2 ⟨ho, hb2⟩
      obtain ⟨v, rfl⟩ := AskOut.ret ho
      exact hK v w2 ⟨ho, bTrans hb1 hb2⟩
    rintro v w2 ⟨ho, hb2⟩
    obtain ⟨C, mp, e1, hc, hC, hmp, hmb⟩ := ho.2 rfl
    obtain rfl := Ending.returned.inj e1
    have HCT2 := Lib.hid hc
    have HMP2 := Lib.hid hmp
    have HCB := Lib.hid hC
    have HMB := Lib.hid hmb
    have HB2 := Lib.hid hb2
    clear ho hb2 hc e1 hC hmp hmb
    apply Exists.intro
    refine ⟨fun K hK => ?_, fun w3 hb3 => ?_⟩
    · skip
      repeat (first | (refine wpCalm_skip rfl ?_) | (refine wpCalm_step rfl (fun K hK => ?_); go_simp; (first | (refine hK _ ?_; clear hK K) | (apply Exists.intro; refine ⟨fun _ => ?_, hK _ ?_⟩; (fail); clear hK K))))
      refine wpCalm_nil ?_
      exact hK
    have HCT := Lib.hid (HCT2.out.mono hb3)
    have HMP := Lib.hid ((hb3.block mp (Array.getElem?_eq_some_iff.1 HMP2.out).1).trans HMP2.out)
    have HB3 := Lib.hid (bTrans HB2.out hb3)
    clear hb3 HCT2 HMP2
    rw [HSK.out] at HCT
    have x0 := HCT.out.box.lt
    have y0 := HCT.out.box.cell 3 _ rfl
    obtain ⟨bc3, bf3⟩ := bcell HB3.out
    have hz3 := HB3.out.size
    simp only [World.size_alloc] at hz3
    have hy3 : w.heap.size + 1 < w3.heap.size := by omega
    have HBC := Lib.hid (fun (w' : World) (hb : Below w3.heap.size w3 w') => behind_any Aw Af cw cf C mp s s t i j w' (HCT.out.mono hb) HOK.out h64 HSUB.out HP.out HQ.out ((HT.out.mono HB3.out).mono hb) ((HTB.out.mono HB3.out).mono hb))
    go_wp2_with fail
    refine wp_region_quiet_below (by kernel_rfl) (by kernel_rfl) ?_
    repeat (go_big_quiet_step (((go_at_call 35; with_reducible exact Calls.regrown_of (HBC.out _ (below_regrown _ _ _))))))
    refine wpQuiet_nil ?_
    intro w4 hw4
    have HB4 := Lib.hid (bTrans HB3.out (below_of_regrown hw4))
    clear hw4 bc3 bf3 y0 x0
    obtain ⟨ba, hba⟩ : ∃ ba, behA t (i, j) s = ba := ⟨_, rfl⟩
    have HBA := Lib.hid hba
    have hbs : ba.size = 10 := by rw [← hba]; rfl
    rw [show behV t (i, j) s = .agg ba by rw [← hba]; rfl]
    clear hba
    go_wp2_with fail
    go_loopw [8, 36] (fun m i' wr => ∃ k : Nat, i' = .int .i64 k ∧ k ≤ 10 ∧ m = .int .i64 (maxTo (fun f => ((t.shown (i, j) t.leftL (f : Int)).length : Int)) k) ∧ wr = w4) (fun _ i _ => 10 - (intOf i).toNat)
    case atStart => exact ⟨0, rfl, by omega, rfl, rfl⟩
    case round =>
      obtain ⟨k, rfl, hk, rfl, rfl⟩ := hrel
      obtain ⟨m, hm⟩ : ∃ m, maxTo (fun f => ((t.shown (i, j) t.leftL (f : Int)).length : Int)) k = m := ⟨_, rfl⟩
      rw [hm]
      have HM := Lib.hid hm
      clear hm
      by_cases hlt : k < 10
      · have hget := behA_get t (i, j) s hlt
        rw [HBA.out] at hget
        obtain ⟨u, hu⟩ : ∃ u, behM t (i, j) s k = u := ⟨_, rfl⟩
        rw [hu] at hget
        have HU := Lib.hid (show u < 64 by rw [← hu]; exact shown_64 _ _ _ _)
        obtain ⟨c, hc⟩ : ∃ c : Int, ((bitsL u).length : Int) = c := ⟨_, rfl⟩
        have HMC := Lib.hid (fun w => hc ▸ many_any u w HU.out : ∀ w : World, Calls Tryd.prog 36 #[.int .u64 u] w fun e w' => e = .returned (.int .i64 c) ∧ w = w')
        obtain ⟨m2, hm2⟩ : ∃ m2, (if m < c then c else m) = m2 := ⟨_, rfl⟩
        have HS := Lib.hid (show maxTo (fun f => ((t.shown (i, j) t.leftL (f : Int)).length : Int)) (k + 1) = m2 by
          show max (maxTo _ k) _ = _
          rw [HM.out, ← HBM.out]
          show max m ((t.shown (i, j) (bitsL s) (k : Int)).length : Int) = m2
          rw [← bits_shown, show maskL (t.shown (i, j) (bitsL s) (k : Int)) = u from hu, hc, ← hm2]
          split <;> omega)
        have k1 : (k : Int) < 10 := by omega
        have k0 : (0 : Int) ≤ (k : Int) := by omega
        have hix := index10 ba k u hget hlt wr
        clear hu hc hget
        go_wp2_with fail
        refine (HMC.out _).mono ?_
        rintro e w' ⟨rfl, rfl⟩
        go_wp2_with fail
        go_roundw
        case rel =>
          first
          | exact ⟨k + 1, by go_num, by omega, by rw [HS.out], trivial⟩
          | ((repeat apply Exists.intro)
             refine ⟨⟨k + 1, ?_, by omega, by rw [HS.out], rfl⟩, rfl⟩
             go_num)
        case measure => simp [intOf]; omega
      · obtain rfl : k = 10 := by omega
        go_wp2_with fail
        go_ret2
        exact ⟨by rw [← HM.out]; rfl, bTrans HB.out HB4.out⟩
  · have g0 : (er != 0) = true := by simp [he]
    have HNZ := Lib.hid he
    rw [if_neg he]
    clear he
    go_enter Tryd.func18, Tryd.ntmps18
    go_wp2_with fail
    rcases two_ways b1 b2 with rfl | ⟨rfl, rfl⟩ | ⟨rfl, rfl⟩
    all_goals
      obtain rfl := HG.out
      refine wp_region_call 11 (fun v w2 => AskOut w2 ((w.alloc (.cells #[.int .i64 t.wells, .slice Aw t.nw cw, .slice Af t.nf cf] 25)).alloc (.cells #[.int .i64 p, .int .i64 q] 58)).heap.size Aw Af cw cf t er (.returned v) ∧ Below ((w.alloc (.cells #[.int .i64 t.wells, .slice Aw t.nw cw, .slice Af t.nf cf] 25)).alloc (.cells #[.int .i64 p, .int .i64 q] 58)).heap.size ((w.alloc (.cells #[.int .i64 t.wells, .slice Aw t.nw cw, .slice Af t.nf cf] 25)).alloc (.cells #[.int .i64 p, .int .i64 q] 58)) w2) (by kernel_rfl) (by decide +kernel) rfl ?_
      apply Exists.intro
      refine ⟨fun K hK => ?_, ?_, fun w1 hb1 K Q' hK => ?_, ?_⟩
      · skip
        repeat (first | (refine wpCalm_skip rfl ?_) | (refine wpCalm_step rfl (fun K hK => ?_); go_simp; (first | (refine hK _ ?_; clear hK K) | (apply Exists.intro; refine ⟨fun _ => ?_, hK _ ?_⟩; ((first | (go_at_call 25; with_reducible exact newer_of (HC1.out _)) | (go_at_call 25; with_reducible exact newer_of (HC2.out _)))); clear hK K))))
        refine wpCalm_nil ?_
        exact hK
      · rfl
      · go_simp
        refine (HCO.out w1 hb1).mono ?_
        rintro e w2 ⟨ho, hb2⟩
        obtain ⟨v, rfl⟩ := AskOut.ret ho
        exact hK v w2 ⟨ho, bTrans hb1 hb2⟩
      rintro v w2 ⟨ho, hb2⟩
      obtain rfl := Ending.returned.inj (ho.1 HNZ.out)
      have HB2 := Lib.hid hb2
      clear ho hb2
      apply Exists.intro
      refine ⟨fun K hK => ?_, fun w3 hb3 => ?_⟩
      · skip
        repeat (first | (refine wpCalm_skip rfl ?_) | (refine wpCalm_step rfl (fun K hK => ?_); go_simp; (first | (refine hK _ ?_; clear hK K) | (apply Exists.intro; refine ⟨fun _ => ?_, hK _ ?_⟩; (fail); clear hK K))))
        refine wpCalm_nil ?_
        exact hK
      have HB3 := Lib.hid (bTrans HB2.out hb3)
      clear hb3
      go_wp2_with fail
      go_ret2
      exact ⟨rfl, bTrans HB.out HB3.out⟩
end Go.Proofs.YtcdlbpmffkoejaaDoor
