/- Parts joined. -/
import Derived.Test.YtjpfdhhiofjpbaaGreatDoorNPG
import Derived.Test.YtjpfdhhiofjpbaaGreatDoorNPA
import Derived.ArgAppend
import Derived.Test.YtjpfdhhiofjpbaaGreatDoorNPF
import Derived.Test.YtjpfdhhiofjpbaaGreatDoorNPD
import Derived.Test.YtjpfdhhiofjpbaaGreatDoorNPH
import Derived.Test.YtjpfdhhiofjpbaaGreatDoorNPE
set_option linter.unusedSimpArgs false
set_option linter.unusedVariables false
/- Shafts (from the texts of the shafts). -/
namespace Go.Proofs.YtjpfdhhiofjpbaaGreatDoor
open Go.RowKit Go.Sort
def ltP (x y : Way) : Bool := decide (x.pence < y.pence)
set_option maxHeartbeats 8000000 in
set_option maxRecDepth 100000 in
theorem ways_cheaper (Ar Af : Option Addr) (cr cf : Nat) (S : Sh) (w : World) (ok : S.Ok) (hS : ShAt w Ar Af S) (hN : NoneAt w) (M : Nat) (_ : M ≤ 12) :
    Calls Tryz.prog 190 #[.agg #[.slice Ar S.nr cr, .slice Af S.nf cf, .int .i64 S.deep, .int .i64 S.haul, .int .i64 S.rest], .func (.func 151) #[] #[], .int .i64 M] w fun e w' => Wayed w w' (S.nf + 1) (S.waysOf ltP (min M S.nf)) e := by
  have hb0 := bAlloc (Below.refl w.heap.size w) (.cells #[.slice Ar S.nr cr, .slice Af S.nf cf, .int .i64 S.deep, .int .i64 S.haul, .int .i64 S.rest] 133)
  have HS := Lib.hid (hS.mono hb0)
  have hN' := hN.mono hb0
  have HN := Lib.hid hN'
  have HB := Lib.hid hb0
  obtain ⟨n0, n1, n2, n3⟩ := hN
  clear hS hb0 hN'
  have hnf := ok.nf
  obtain ⟨L, hL⟩ : ∃ L, L = min M S.nf := ⟨_, rfl⟩
  have hmin : (if (S.nf : Int) < (M : Int) then (S.nf : Int) else (M : Int)) = (L : Int) := by split <;> omega
  have hmin2 : (if S.nf < M then (S.nf : Int) else (M : Int)) = (L : Int) := by split <;> omega
  have hL2 : L ≤ S.nf := by omega
  rw [← hL]
  clear hL
  go_enter Tryz.func190, Tryz.ntmps190
  go_wp2_with (go_at_call 199; refine (repeat_any _ _ (S.nf + 1) _ (by omega) _ (by omega) (by omega) ⟨(by simp), fun i hi => (by obtain rfl : i = 0 := (by omega); simp [go_sem, noWay]), fun i hi => (by obtain rfl : i = 0 := (by omega); simp [go_sem, noWay]), fun i hi => (by obtain rfl : i = 0 := (by omega); simp [go_sem, noWay]), fun j => (by simp [go_sem])⟩).mono ?_; rintro e w1 ⟨g1, c1, rfl, hg1, hW1, hb1⟩; obtain ⟨bc1, bf1⟩ := bcell hb1; have hz1 := hb1.size; simp only [World.size_alloc] at hz1 hg1; have hy1 : w.heap.size + 1 < w1.heap.size := (by omega); have k0 := hW1.c0 S.nf (by omega); have k1 := hW1.c1 S.nf (by omega); have k2 := hW1.c2 S.nf (by omega); have kf := hW1.fr; have HW1 := Lib.hid hW1; clear hW1)
  have HB1 := Lib.hid (bTrans (bAlloc (Below.refl _ (w.alloc (.cells #[.slice Ar S.nr cr, .slice Af S.nf cf, .int .i64 S.deep, .int .i64 S.haul, .int .i64 S.rest] 133))) (.cells #[.int .i64 (-1), .int .i64 0, .int .i64 0] 161)) hb1)
  clear hb1
  have HF : ∀ (i : Nat), S.waysOf ltP 0 i = if i = S.nf then ⟨0, 0, 0⟩ else noWay := fun i => rfl
  have HF0 := Lib.hid HF
  clear HF
  go_loopw [8, 29] (fun o i wr => ∃ (k g c : Nat), k ≤ L ∧ i = .int .i64 k ∧ o = .slice (some ⟨g, 0, none⟩) (S.nf + 1) c ∧ w.heap.size < g ∧ WaysAt wr g (S.nf + 1) (S.waysOf ltP k) ∧ Below (w.alloc (.cells #[.slice Ar S.nr cr, .slice Af S.nf cf, .int .i64 S.deep, .int .i64 S.haul, .int .i64 S.rest] 133)).heap.size (w.alloc (.cells #[.slice Ar S.nr cr, .slice Af S.nf cf, .int .i64 S.deep, .int .i64 S.haul, .int .i64 S.rest] 133)) wr) (fun _ i _ => L - (intOf i).toNat)
  case atStart => exact ⟨0, g1, c1, Nat.zero_le _, rfl, rfl, by omega, (HW1.out.set (d := S.nf) (by omega) ⟨0, 0, 0⟩).congr (fun i _ => (HF0.out i).symm), ((HB1.out.setCell (by simp; omega) _).setCell (by simp; omega) _).setCell (by simp; omega) _⟩
  case round =>
    obtain ⟨k, g, c, hk, rfl, rfl, hg, hW, hB⟩ := hrel
    obtain ⟨bc, bf⟩ := bcell hB
    have hz := hB.size
    simp only [World.size_alloc] at hz
    have hy : w.heap.size < wr.heap.size := hz
    have hglt := hW.lt
    have HW2 := Lib.hid hW
    have HB2 := Lib.hid hB
    clear hW hB HW1 HB1 k0 k1 k2 kf hg1 hy1 hz1 bc1 bf1
    by_cases hlt : k < L
    · have hin := fun d (hd : d ≤ S.nf) => waysOf_in ok ltP k d hd
      have HQ0 : ∀ j, S.waysOf ltP (k + 1) j = S.moreWays ltP (S.waysOf ltP k) j := fun j => rfl
      have HQ := Lib.hid HQ0
      have HI := Lib.hid hin
      clear hin HQ0
      obtain ⟨Q, hQ⟩ : ∃ Q, Q = S.waysOf ltP (k + 1) := ⟨_, rfl⟩
      rw [← hQ] at HQ
      have HQE := Lib.hid hQ
      clear hQ
      generalize S.waysOf ltP k = P at HW2 HQ HI
      go_wp2_with (go_at_call 200; refine (clone_any _ _ _ _ _ (by omega) (by omega) HW2.out).mono ?_; rintro e w2 ⟨g2, c2, rfl, hg2, hW2, hb2⟩)
      have hgg : g ≠ g2 := by omega
      have HW3 := Lib.hid hW2
      have HW4 := Lib.hid (HW2.out.mono hb2)
      have HB3 := Lib.hid (bTrans HB2.out hb2)
      have hg3 : w.heap.size < g2 := by omega
      clear hW2 hb2 hg2
      go_loopw [34] (fun i wr2 => ∃ d : Nat, d ≤ S.nf ∧ i = .int .i64 d ∧ WaysAt wr2 g2 (S.nf + 1) (fun j => if j < d then Q j else P j) ∧ WaysAt wr2 g (S.nf + 1) P ∧ Below (w.alloc (.cells #[.slice Ar S.nr cr, .slice Af S.nf cf, .int .i64 S.deep, .int .i64 S.haul, .int .i64 S.rest] 133)).heap.size (w.alloc (.cells #[.slice Ar S.nr cr, .slice Af S.nf cf, .int .i64 S.deep, .int .i64 S.haul, .int .i64 S.rest] 133)) wr2) (fun i _ => S.nf - (intOf i).toNat)
      case atStart => exact ⟨0, Nat.zero_le _, rfl, HW3.out.congr (fun j _ => by simp), HW4.out, HB3.out⟩
      case round =>
        obtain ⟨d, hd, rfl, hM2, hP2, hB⟩ := hrel
        have HM := Lib.hid hM2
        have HP := Lib.hid hP2
        have HB4 := Lib.hid hB
        clear hM2 hP2 hB
        by_cases hdlt : d < S.nf
        · obtain ⟨fb0, fb1⟩ := S.falls_bd hd
          go_wp2_with fail
          go_loopw [11] (fun i wr3 => ∃ m : Nat, d + m ≤ S.falls d ∧ i = .int .i64 (d + 1 + m : Nat) ∧ WaysAt wr3 g2 (S.nf + 1) (fun j => if j < d then Q j else if j = d then S.lookTo ltP P d m else P j) ∧ WaysAt wr3 g (S.nf + 1) P ∧ Below (w.alloc (.cells #[.slice Ar S.nr cr, .slice Af S.nf cf, .int .i64 S.deep, .int .i64 S.haul, .int .i64 S.rest] 133)).heap.size (w.alloc (.cells #[.slice Ar S.nr cr, .slice Af S.nf cf, .int .i64 S.deep, .int .i64 S.haul, .int .i64 S.rest] 133)) wr3) (fun i _ => S.falls d + 1 - (intOf i).toNat)
          case atStart => exact ⟨0, by omega, rfl, HM.out.congr (fun j _ => by by_cases e : j = d <;> simp [e, Sh.lookTo]), HP.out, HB4.out⟩
          case round =>
            obtain ⟨m, hm, rfl, hM3, hP3, hB⟩ := hrel
            obtain ⟨bc4, bf4⟩ := bcell hB
            have hz4 := hB.size
            simp only [World.size_alloc] at hz4
            have hy4 : w.heap.size < wr.heap.size := hz4
            have ho4 : 0 < wr.heap.size := by omega
            have hx4 := hM3.lt
            have hx5 := hP3.lt
            have HM5 := Lib.hid hM3
            have HP5 := Lib.hid hP3
            have HB5 := Lib.hid hB
            have HS5 := Lib.hid (HS.out.mono hB)
            clear hM3 hP3 hB
            by_cases hlast : d + m = S.falls d
            · go_wp2_with (go_at_call 201; refine (falls_any _ _ _ _ S _ ok HS5.out d hd).mono ?_; rintro e w5 ⟨rfl, hb5⟩)
              have HMM := Lib.hid (HM5.out.mono hb5)
              have HPM := Lib.hid (HP5.out.mono hb5)
              have HBM := Lib.hid (bTrans HB5.out hb5)
              clear hb5
              go_roundw
              case rel =>
                refine ⟨d + 1, by omega, by go_num, HMM.out.congr (fun j hj => ?_), HPM.out, HBM.out⟩
                rcases Nat.lt_trichotomy j d with h1 | h1 | h1
                · simp [h1, show j < d + 1 from by omega]
                · subst h1
                  rw [if_neg (Nat.lt_irrefl _), if_pos rfl, if_pos (Nat.lt_succ_self _), HQ.out j]
                  unfold Sh.moreWays
                  rw [if_pos hdlt, show S.falls j - j = m from by omega]
                · rw [if_neg (by omega), if_neg (by omega), if_neg (by omega)]
              case measure => simp [intOf]; omega
            · obtain ⟨X, hX⟩ : ∃ X, X = P (d + 1 + m) := ⟨_, rfl⟩
              obtain ⟨Y, hY⟩ : ∃ Y, Y = S.lookTo ltP P d m := ⟨_, rfl⟩
              have a0 := HP5.out.c0 (d + 1 + m) (by omega)
              have a1 := HP5.out.c1 (d + 1 + m) (by omega)
              have a2 := HP5.out.c2 (d + 1 + m) (by omega)
              rw [← hX] at a0 a1 a2
              have b0 : wr.cell? ⟨g2, d * 3, none⟩ = some (.int .i64 Y.rings) := by rw [hY]; simpa using HM5.out.c0 d (by omega)
              have b1 : wr.cell? ⟨g2, d * 3 + 1, none⟩ = some (.int .i64 Y.pence) := by rw [hY]; simpa using HM5.out.c1 d (by omega)
              have b2 : wr.cell? ⟨g2, d * 3 + 2, none⟩ = some (.int .i64 Y.next) := by rw [hY]; simpa using HM5.out.c2 d (by omega)
              have hXI : X.In k := hX ▸ HI.out _ (by omega)
              have hYI : Y.In (k + 1) := hY ▸ lookTo_in ok HI.out m (by omega)
              have HX := Lib.hid hX
              have HY := Lib.hid hY
              clear hX hY
              obtain ⟨x0, x1, x2, x3, x4, x5⟩ := hXI
              obtain ⟨y0, y1, y2, y3, y4, y5⟩ := hYI
              by_cases hno : X = noWay
              · have HNO := Lib.hid hno
                rw [hno] at a0 a1 a2
                have hs1 := sameWay_t X hno
                rw [hno] at hs1
                simp only [noWay] at hs1
                clear hno x0 x1 x2 x3 x4 x5
                simp only [noWay] at a0 a1 a2
                go_wp2_with (go_at_call 201; refine (falls_any _ _ _ _ S _ ok HS5.out d hd).mono ?_; rintro e w5 ⟨rfl, hb5⟩; obtain ⟨bc5, bf5⟩ := bcell hb5; have hz5 := hb5.size; have hy5 : w.heap.size < w5.heap.size := (by omega); have ho5 : 0 < w5.heap.size := (by omega); have hg5 : g < w5.heap.size := (by omega); have hg6 : g2 < w5.heap.size := (by omega))
                have HMM := Lib.hid (HM5.out.mono hb5)
                have HPM := Lib.hid (HP5.out.mono hb5)
                have HBM := Lib.hid (bTrans HB5.out hb5)
                have HSM := Lib.hid (HS5.out.mono hb5)
                clear hb5
                refine wp_region_quiet_below (by kernel_rfl) (by kernel_rfl) ?_
                repeat (go_big_quiet_step (((go_at_call 202; exact Calls.regrown_of (rests_any _ _ _ _ S _ ok (HSM.out.mono (below_regrown _ _ _)) _ (d + 1 + m) (by omega) (by omega) (by omega))))))
                refine wpQuiet_nil ?_
                intro w6 hw6
                have hb6 := below_of_regrown hw6
                clear hw6
                go_wp2_with fail
                go_roundw
                case rel => exact ⟨m + 1, by omega, by go_num, (HMM.out.mono hb6).congr (fun j _ => by rw [show S.lookTo ltP P d (m + 1) = S.lookTo ltP P d m from look_skip (.inl (HX.out ▸ HNO.out))]), HPM.out.mono hb6, bTrans HBM.out hb6⟩
                case measure => simp [intOf]; omega
              · have HNO := Lib.hid hno
                have hs1 := sameWay_f X hno
                clear hno
                cases hr : S.restsB (d + 1 + m)
                · go_wp2_with (go_at_call 201; refine (falls_any _ _ _ _ S _ ok HS5.out d hd).mono ?_; rintro e w5 ⟨rfl, hb5⟩; obtain ⟨bc5, bf5⟩ := bcell hb5; have hz5 := hb5.size; have hy5 : w.heap.size < w5.heap.size := (by omega); have ho5 : 0 < w5.heap.size := (by omega); have hg5 : g < w5.heap.size := (by omega); have hg6 : g2 < w5.heap.size := (by omega))
                  have HMM := Lib.hid (HM5.out.mono hb5)
                  have HPM := Lib.hid (HP5.out.mono hb5)
                  have HBM := Lib.hid (bTrans HB5.out hb5)
                  have HSM := Lib.hid (HS5.out.mono hb5)
                  clear hb5
                  refine wp_region_quiet_below (by kernel_rfl) (by kernel_rfl) ?_
                  repeat (go_big_quiet_step (((go_at_call 202; exact Calls.regrown_of (rests_any _ _ _ _ S _ ok (HSM.out.mono (below_regrown _ _ _)) _ (d + 1 + m) (by omega) (by omega) (by omega))))))
                  refine wpQuiet_nil ?_
                  intro w6 hw6
                  have hb6 := below_of_regrown hw6
                  clear hw6
                  go_wp2_with fail
                  go_roundw
                  case rel => exact ⟨m + 1, by omega, by go_num, (HMM.out.mono hb6).congr (fun j _ => by rw [show S.lookTo ltP P d (m + 1) = S.lookTo ltP P d m from look_skip (.inr hr)]), HPM.out.mono hb6, bTrans HBM.out hb6⟩
                  case measure => simp [intOf]; omega
                · obtain ⟨rb0, rb1⟩ := ring_of_rests ok (d := d + 1 + m) (by omega) (by omega) hr
                  have hcase : (sameWay Y.rings Y.pence Y.next (-1) 0 0 = true ∧ S.lookTo ltP P d (m + 1) = S.wayTo X (d + 1 + m)) ∨ (sameWay Y.rings Y.pence Y.next (-1) 0 0 = false ∧ decide (X.pence + S.ringc (d + 1 + m) < Y.pence) = true ∧ (X.pence + S.ringc (d + 1 + m) < Y.pence) ∧ S.lookTo ltP P d (m + 1) = S.wayTo X (d + 1 + m)) ∨ (sameWay Y.rings Y.pence Y.next (-1) 0 0 = false ∧ decide (X.pence + S.ringc (d + 1 + m) < Y.pence) = false ∧ ¬ (X.pence + S.ringc (d + 1 + m) < Y.pence) ∧ S.lookTo ltP P d (m + 1) = Y) := by
                    have e1 : ¬ (P (d + 1 + m) = noWay ∨ S.restsB (d + 1 + m) = false) := by
                      rintro (h | h)
                      · exact HNO.out (HX.out.trans h)
                      · rw [hr] at h; cases h
                    have e2 : S.lookTo ltP P d (m + 1) = if Y = noWay ∨ ltP (S.wayTo X (d + 1 + m)) Y = true then S.wayTo X (d + 1 + m) else Y := by
                      show S.look ltP P (S.lookTo ltP P d m) (d + 1 + m) = _
                      unfold Sh.look
                      rw [if_neg e1, ← HX.out, ← HY.out]
                    by_cases h1 : Y = noWay
                    · exact .inl ⟨sameWay_t Y h1, by rw [e2, if_pos (.inl h1)]⟩
                    · cases h2 : ltP (S.wayTo X (d + 1 + m)) Y
                      · exact .inr (.inr ⟨sameWay_f Y h1, h2, of_decide_eq_false h2, by rw [e2, if_neg (by rintro (h | h); exact h1 h; rw [h2] at h; cases h)]⟩)
                      · exact .inr (.inl ⟨sameWay_f Y h1, h2, of_decide_eq_true h2, by rw [e2, if_pos (.inr h2)]⟩)
                  rcases hcase with ⟨hs2, he⟩ | ⟨hs2, hlt2, hlt3, he⟩ | ⟨hs2, hlt2, hlt3, he⟩
                  all_goals
                    have HE := Lib.hid he
                    clear he
                    go_wp2_with (go_at_call 201; refine (falls_any _ _ _ _ S _ ok HS5.out d hd).mono ?_; rintro e w5 ⟨rfl, hb5⟩; obtain ⟨bc5, bf5⟩ := bcell hb5; have hz5 := hb5.size; have hy5 : w.heap.size < w5.heap.size := (by omega); have ho5 : 0 < w5.heap.size := (by omega); have hg5 : g < w5.heap.size := (by omega); have hg6 : g2 < w5.heap.size := (by omega))
                    have HMM := Lib.hid (HM5.out.mono hb5)
                    have HPM := Lib.hid (HP5.out.mono hb5)
                    have HBM := Lib.hid (bTrans HB5.out hb5)
                    have HSM := Lib.hid (HS5.out.mono hb5)
                    clear hb5
                    refine wp_region_quiet_below (by kernel_rfl) (by kernel_rfl) ?_
                    repeat (go_big_quiet_step (((go_at_call 202; exact Calls.regrown_of (rests_any _ _ _ _ S _ ok (HSM.out.mono (below_regrown _ _ _)) _ (d + 1 + m) (by omega) (by omega) (by omega))))))
                    refine wpQuiet_nil ?_
                    intro w6 hw6
                    have hb6 := below_of_regrown hw6
                    clear hw6
                    obtain ⟨bc6, bf6⟩ := bcell hb6
                    have hz6 := hb6.size
                    have hy6 : w.heap.size < w6.heap.size := (by omega)
                    have ho6 : 0 < w6.heap.size := (by omega)
                    have hg7 : g < w6.heap.size := (by omega)
                    have hg8 : g2 < w6.heap.size := (by omega)
                    have HM7 := Lib.hid (HMM.out.mono hb6)
                    have HP7 := Lib.hid (HPM.out.mono hb6)
                    have HB7 := Lib.hid (bTrans HBM.out hb6)
                    have HS7 := Lib.hid (HSM.out.mono hb6)
                    clear hb6 HMM HPM HBM HSM
                    go_wp2_with fail
                    have e1 : IntKind.i64.wrap (X.rings + 1) = X.rings + 1 := IntWalk.i64_in _ (by omega)
                    have e2 : IntKind.i64.wrap (X.pence + S.ringc (d + 1 + m)) = X.pence + S.ringc (d + 1 + m) := IntWalk.i64_in _ (by omega)
                    have i1 : (0 : Int) ≤ (d : Int) + 1 + m := by omega
                    have i2 : (d : Int) + 1 + m < (S.nf : Int) + 1 := by omega
                    have i3 : ((d : Int) + 1 + m).toNat = d + 1 + m := by omega
                    refine wp_region_new 18 19 12 75 161 #[.int .i64 0, .int .i64 0, .int .i64 0] (by kernel_rfl) (by kernel_rfl) (by rfl) (by rfl) (by rfl) (by rfl) (by rfl) (by rfl) (fun _ => by kernel_rfl) (by kernel_rfl) (by simp) ?_
                    repeat (first | (refine wpCalm_skip rfl ?_) | (refine wpCalm_step rfl (fun K hK => ?_); go_simp; (first | (refine hK _ ?_; clear hK K) | (apply Exists.intro; refine ⟨fun _ => ?_, hK _ ?_⟩; ((go_at_call 203; exact (ring_any _ _ _ _ S _ ok (HS7.out.mono (below_regrown _ _ _)) _ (d + 1 + m) (by omega) (by omega) (by omega)))); clear hK K))))
                    refine wpCalm_nil ?_
                    clear e1 e2 i1 i2 i3
                    refine ⟨#[.int .i64 (X.rings + 1), .int .i64 (X.pence + S.ringc (d + 1 + m)), .int .i64 ((d : Int) + 1 + m)], rfl, rfl, by simp [Value.oneCell'], ?_⟩
                    intro b w7 hb7 hbb hb2 hblk
                    have hbc : ∀ i, World.cell? w7 ⟨b, i, none⟩ = (#[.int .i64 (X.rings + 1), .int .i64 (X.pence + S.ringc (d + 1 + m)), .int .i64 ((d : Int) + 1 + m)] : Array Value)[i]? := fun i => cell_of_row w7 b i _ _ _ hblk
                    simp only [Act.put, List.setIfInBounds_toArray, List.set_cons_succ, List.set_cons_zero]
                    obtain ⟨bc7, bf7⟩ := bcell hb7
                    have hz7 := hb7.size
                    have hy7 : w.heap.size < w7.heap.size := (by omega)
                    have ho7 : 0 < w7.heap.size := (by omega)
                    have hg9 : g < w7.heap.size := (by omega)
                    have hg10 : g2 < w7.heap.size := (by omega)
                    have HM8 := Lib.hid (HM7.out.mono hb7)
                    have HP8 := Lib.hid (HP7.out.mono hb7)
                    have HB8 := Lib.hid (bTrans HB7.out hb7)
                    obtain ⟨q0, q1, q2, q3⟩ := HN.out.mono HB8.out
                    have m0 : w7.cell? ⟨g2, d * 3, none⟩ = some (.int .i64 Y.rings) := by rw [HY.out]; simpa using HM8.out.c0 d (by omega)
                    have m1 : w7.cell? ⟨g2, d * 3 + 1, none⟩ = some (.int .i64 Y.pence) := by rw [HY.out]; simpa using HM8.out.c1 d (by omega)
                    have m2 : w7.cell? ⟨g2, d * 3 + 2, none⟩ = some (.int .i64 Y.next) := by rw [HY.out]; simpa using HM8.out.c2 d (by omega)
                    have v0 : w7.cell? ⟨b, 0, none⟩ = some (.int .i64 (X.rings + 1)) := hbc 0
                    have v1 : w7.cell? ⟨b, 1, none⟩ = some (.int .i64 (X.pence + S.ringc (d + 1 + m))) := hbc 1
                    have v2 : w7.cell? ⟨b, 2, none⟩ = some (.int .i64 ((d : Int) + 1 + m)) := hbc 2
                    clear hb7 HM7 HP7 HB7 HS7 hbc hblk bc bf bc4 bf4 bc5 bf5 bc6 bf6 bc7 bf7 a0 a1 a2 b0 b1 b2 n0 n1 n2 n3 hs1 hr
                    clear HS HN HS5 HM5 HP5 HB5 x0 x1 x2 x3 x4 x5 y0 y1 y2 y3 y4 y5 rb0 rb1 hz4 hy4 hx4 hx5 hz5 hy5 ho5 hg5 hg6 hz6 hy6 ho6 hg7 hg8 hz7 hbb ho4
                    go_wp2_with fail
                    refine wp_region_quiet_below (by kernel_rfl) (by kernel_rfl) ?_
                    repeat (go_big_quiet_step (((go_at_call 151; exact Calls.regrown_of (cheaper_any ⟨X.rings + 1, X.pence + S.ringc (d + 1 + m), (d : Int) + 1 + m⟩ Y _)))))
                    refine wpQuiet_nil ?_
                    intro w8 hw8
                    have hb8 := below_of_regrown hw8
                    clear hw8
                    obtain ⟨bc8, bf8⟩ := bcell hb8
                    replace m0 := (bc8 _ _ hg10).trans m0
                    replace m1 := (bc8 _ _ hg10).trans m1
                    replace m2 := (bc8 _ _ hg10).trans m2
                    replace v0 := (bc8 _ _ hb2).trans v0
                    replace v1 := (bc8 _ _ hb2).trans v1
                    replace v2 := (bc8 _ _ hb2).trans v2
                    clear q0 q1 q2 q3 bc8 bf8
                    have hz8 := hb8.size
                    have hb9 : b < w8.heap.size := (by omega)
                    have hg11 : g2 < w8.heap.size := (by omega)
                    have HM9 := Lib.hid (HM8.out.mono hb8)
                    have HP9 := Lib.hid (HP8.out.mono hb8)
                    have HB9 := Lib.hid (bTrans HB8.out hb8)
                    have hfr := HM9.out.fr
                    clear hb8 HM8 HP8 HB8
                    go_wp2_with fail
                    go_roundw
                    case rel =>
                      first
                        | exact ⟨m + 1, by omega, by go_num, HM9.out.congr (fun j _ => by
                            by_cases e : j = d
                            · subst e; simp [HE.out, ← HY.out]
                            · simp [e]), HP9.out, HB9.out⟩
                        | exact ⟨m + 1, by omega, by go_num, (HM9.out.set (d := d) (by omega) ⟨X.rings + 1, X.pence + S.ringc (d + 1 + m), (d : Int) + 1 + m⟩).congr (fun j _ => by
                            by_cases e : j = d
                            · subst e; simp [HE.out, Sh.wayTo]
                            · simp [e]), ((HP9.out.other (fun e => hgg e.symm) _).other (fun e => hgg e.symm) _).other (fun e => hgg e.symm) _, ((HB9.out.setCell (by simp; omega) _).setCell (by simp; omega) _).setCell (by simp; omega) _⟩
                    case measure => simp [intOf]; omega
        · obtain rfl : d = S.nf := by omega
          go_wp2_with fail
          go_roundw
          case rel => exact ⟨k + 1, g2, c2, by omega, by go_num, rfl, hg3, by rw [← HQE.out]; exact HM.out.congr (fun j hj => by
            by_cases e : j < S.nf
            · rw [if_pos e]
            · rw [if_neg e, HQ.out j]; unfold Sh.moreWays; rw [if_neg e]), HB4.out⟩
          case measure => simp [intOf]; omega
    · obtain rfl : k = L := by omega
      go_wp2_with fail
      go_ret
      exact ⟨g, c, rfl, by omega, HW2.out, bTrans HB.out HB2.out⟩
end Go.Proofs.YtjpfdhhiofjpbaaGreatDoor

/- Shafts (from the texts of the shafts). -/
namespace Go.Proofs.YtjpfdhhiofjpbaaGreatDoor
open Go.RowKit Go.Sort
theorem intL_congr {g g' : Nat → Int} {n : Nat} (h : ∀ i, i < n → g i = g' i) : intL g n = intL g' n := by
  induction n with
  | zero => rfl
  | succ n ih => simp only [intL, ih (fun i hi => h i (by omega)), h n (by omega)]
theorem IntsAt.other {w : World} {A : Option Addr} {n : Nat} {g : Nat → Int} (h : IntsAt w A n g) {p : Addr} (hp : ∀ q, A = some q → q.block ≠ p.block) (v : Value) : IntsAt (w.setCell p v) A n g := by
  rcases h with h | ⟨b, o, rfl, hlt, hc⟩
  · exact .inl h
  · exact .inr ⟨b, o, rfl, by simpa [World.setCell] using hlt, fun i hi => (World.cell?_setCell_other _ _ _ _ (fun e => hp _ rfl (by rw [e]))).trans (hc i hi)⟩
theorem waysOf_next {S : Sh} (lt : Way → Way → Bool) : ∀ k d, d ≤ S.nf → 0 < (S.waysOf lt k d).next → (d : Int) < (S.waysOf lt k d).next ∧ (S.waysOf lt k d).next ≤ S.nf
  | 0, d, hd => by
    unfold Sh.waysOf
    split <;> simp [noWay]
  | k + 1, d, hd => by
    have ih := waysOf_next lt k d hd
    obtain ⟨b0, b1⟩ := S.falls_bd hd
    have key : ∀ m, d + m ≤ S.nf → 0 < (S.lookTo lt (S.waysOf lt k) d m).next → (d : Int) < (S.lookTo lt (S.waysOf lt k) d m).next ∧ (S.lookTo lt (S.waysOf lt k) d m).next ≤ S.nf := by
      intro m
      induction m with
      | zero => exact fun _ => ih
      | succ m im =>
        intro hm
        have im := im (by omega)
        simp only [Sh.lookTo, Sh.look]
        split
        · exact im
        · split
          · intro _; simp only [Sh.wayTo]; omega
          · exact im
    show 0 < (S.moreWays lt (S.waysOf lt k) d).next → (d : Int) < (S.moreWays lt (S.waysOf lt k) d).next ∧ (S.moreWays lt (S.waysOf lt k) d).next ≤ S.nf
    unfold Sh.moreWays
    split
    · exact key _ (by omega)
    · exact ih
/-- stops that follow the ways from depth 0 on -/
structure ChainTo (f : Nat → Way) (m : Nat) (g : Nat → Int) : Prop where
  step : ∀ i, i < m → g i = (f (stopAt g i)).next
  pos : ∀ i, i < m → 0 < g i
theorem stopAt_congr {g g' : Nat → Int} {m : Nat} (h : ∀ i, i < m → g i = g' i) : stopAt g m = stopAt g' m := by
  cases m with
  | zero => rfl
  | succ m => simp only [stopAt, h m (by omega)]
theorem ChainTo.more {f : Nat → Way} {m : Nat} {g : Nat → Int} (h : ChainTo f m g) (h0 : 0 < (f (stopAt g m)).next) : ChainTo f (m + 1) (fun i => if i = m then (f (stopAt g m)).next else g i) := by
  have hc : ∀ i, i < m → g i = (fun i => if i = m then (f (stopAt g m)).next else g i) i := fun i hi => by simp [show i ≠ m from by omega]
  refine ⟨fun i hi => ?_, fun i hi => ?_⟩
  · rw [← stopAt_congr (g := g) (g' := fun i => if i = m then (f (stopAt g m)).next else g i) (m := i) (fun j hj => hc j (by omega))]
    by_cases e : i = m
    · subst e; simp
    · simp only [if_neg e]; exact h.step i (by omega)
  · by_cases e : i = m
    · subst e; simpa using h0
    · simp only [if_neg e]; exact h.pos i (by omega)
/-- what best hands back -/
def Bested (w w' : World) (f : Nat → Way) (n : Nat) (e : Ending) : Prop :=
  Below w.heap.size w w' ∧ ((f 0 = noWay ∧ e = .returned (.tuple #[.agg #[.int .i64 (-1), .int .i64 0, .int .i64 0], .slice none 0 0, .bool false])) ∨
    (f 0 ≠ noWay ∧ ∃ A m c g, e = .returned (.tuple #[.agg #[.int .i64 (f 0).rings, .int .i64 (f 0).pence, .int .i64 (f 0).next], .slice A m c, .bool true]) ∧ m ≤ n ∧ ChainTo f m g ∧ ¬ 0 < (f (stopAt g m)).next ∧ IntsAt w' A m g ∧ ∀ p, A = some p → w.heap.size ≤ p.block))
end Go.Proofs.YtjpfdhhiofjpbaaGreatDoor

/- Shafts (from the texts of the shafts). -/
namespace Go.Proofs.YtjpfdhhiofjpbaaGreatDoor
open Go.RowKit Go.Sort
set_option maxHeartbeats 8000000 in
set_option maxRecDepth 100000 in
theorem best_cheaper (Ar Af : Option Addr) (cr cf : Nat) (S : Sh) (w : World) (ok : S.Ok) (hS : ShAt w Ar Af S) (hN : NoneAt w) (M : Nat) (hM : M ≤ 12) :
    Calls Tryz.prog 176 #[.agg #[.slice Ar S.nr cr, .slice Af S.nf cf, .int .i64 S.deep, .int .i64 S.haul, .int .i64 S.rest], .func (.func 151) #[] #[], .int .i64 M] w fun e w' => Bested w w' (S.waysOf ltP (min M S.nf)) S.nf e := by
  have hb0 := bAlloc (bAlloc (Below.refl w.heap.size w) (.cells #[.slice Ar S.nr cr, .slice Af S.nf cf, .int .i64 S.deep, .int .i64 S.haul, .int .i64 S.rest] 133)) (.cells #[.int .i64 0, .int .i64 0, .int .i64 0] 161)
  have HS := Lib.hid (hS.mono hb0)
  have HN := Lib.hid (hN.mono hb0)
  have HB := Lib.hid hb0
  obtain ⟨n0, n1, n2, n3⟩ := hN
  clear hS hb0
  have hnf := ok.nf
  have HNX := Lib.hid (waysOf_next (S := S) ltP (min M S.nf))
  generalize hf : S.waysOf ltP (min M S.nf) = f at HNX
  have HF := Lib.hid hf
  clear hf
  obtain ⟨i0, hi, iz0, iz1, iz2⟩ := info_parts infoInt
  by_cases hno : f 0 = noWay
  all_goals
    have HNO := Lib.hid hno
    clear hno
    go_enter Tryz.func176, Tryz.ntmps176
    go_wp2_with (go_at_call 190; refine (ways_cheaper _ _ _ _ S _ ok HS.out HN.out M hM).mono ?_; rintro e w1 ⟨g1, c1, rfl, hg1, hW1, hb1⟩; rw [HF.out] at hW1; obtain ⟨bc1, bf1⟩ := bcell hb1; have hz1 := hb1.size; simp only [World.size_alloc] at hz1; have hy1 : w.heap.size + 1 < w1.heap.size := (by omega))
    have hglt := hW1.lt
    have k0 := hW1.c0 0 (by omega)
    have k1 := hW1.c1 0 (by omega)
    have k2 := hW1.c2 0 (by omega)
    have ho1 : 0 < w1.heap.size := (by omega)
    simp only [Nat.zero_mul, Nat.zero_add] at k0 k1 k2
    have HW1 := Lib.hid hW1
    have HB1 := Lib.hid hb1
    clear hW1 hb1
  · have hs := sameWay_t _ HNO.out
    rw [HNO.out] at hs k0 k1 k2
    simp only [noWay] at hs k0 k1 k2
    refine wp_region_quiet_below (by kernel_rfl) (by kernel_rfl) ?_
    repeat (go_big_quiet_step ((fail)))
    refine wpQuiet_nil ?_
    intro w2 hw2
    have hb2 := below_of_regrown hw2
    clear hw2
    obtain ⟨bc2, bf2⟩ := bcell hb2
    have hz2 := hb2.size
    have hy2 : w.heap.size + 1 < w2.heap.size := by omega
    have ho2 : 0 < w2.heap.size := by omega
    go_wp2_with fail
    have hb1 := HB1.out
    exact bodyPost_ret (v := .tuple #[.agg #[.int .i64 (-1), .int .i64 0, .int .i64 0], .slice none 0 0, .bool false]) (by simp [results, Tryz.results176, go_sem, *]) rfl ⟨by (repeat (first | (with_reducible exact Below.refl _ _) | (with_reducible refine bAlloc ?_ _) | (with_reducible refine bDrew ?_) | (with_reducible refine bGrow ?_ _ _) | (with_reducible refine bSet ?_ ?_ _; (first | exact Nat.le_refl _ | exact Nat.le_add_right _ _ | (simp; omega))) | (with_reducible refine bTrans ?_ (by assumption)))), .inl ⟨HNO.out, rfl⟩⟩
  · have hs := sameWay_f _ HNO.out
    refine wp_region_quiet_below (by kernel_rfl) (by kernel_rfl) ?_
    repeat (go_big_quiet_step ((fail)))
    refine wpQuiet_nil ?_
    intro w2 hw2
    have hb2 := below_of_regrown hw2
    clear hw2
    go_wp2_with fail
    have HW2 := Lib.hid (HW1.out.mono hb2)
    have HB2 := Lib.hid (bTrans HB1.out hb2)
    have hz2 := hb2.size
    clear HW1 HB1 hb2 k0 k1 k2 hglt
    go_loopw [10, 11] (fun v i wr => ∃ m g, i = .int .i64 (stopAt g m : Nat) ∧ stopAt g m ≤ S.nf ∧ m ≤ stopAt g m ∧ ChainTo f m g ∧ wr.ownsRow w2.heap.size 3 1 v m (intL g m) ∧ Below w2.heap.size w2 wr) (fun _ i _ => S.nf - (intOf i).toNat)
    case atStart => exact ⟨0, fun _ => 0, rfl, Nat.zero_le _, Nat.le_refl _, ⟨fun i hi => by omega, fun i hi => by omega⟩, World.ownsRow_nil _ _ _ _, Below.refl _ _⟩
    case round =>
      obtain ⟨m, g, rfl, hm1, hm2, hch, hown, hB⟩ := hrel
      have HW3 := Lib.hid (HW2.out.mono hB)
      have k2 := HW3.out.c2 (stopAt g m) (by omega)
      have k0 := HW3.out.c0 0 (by omega)
      have k1 := HW3.out.c1 0 (by omega)
      have k3 := HW3.out.c2 0 (by omega)
      simp only [Nat.zero_mul, Nat.zero_add] at k0 k1 k3
      have hglt := HW3.out.lt
      have HC := Lib.hid hch
      have HO := Lib.hid hown
      have HB3 := Lib.hid hB
      clear hch hown
      have hz3 := hB.size
      obtain ⟨bc3, bf3⟩ := bcell (bTrans HB2.out hB)
      clear hB
      by_cases hpos : 0 < (f (stopAt g m)).next
      · obtain ⟨p0, p1⟩ := HNX.out (stopAt g m) hm1 hpos
        obtain ⟨nx, hnx⟩ : ∃ nx : Nat, (f (stopAt g m)).next = nx := ⟨((f (stopAt g m)).next).toNat, by omega⟩
        have HNXT := Lib.hid hnx
        rw [hnx] at k2 p0 p1 hpos
        clear hnx bc3 bf3
        go_wp2_with (at_builtin; refine wpList_append_own _ rfl _ _ 26 rfl w2.heap.size 3 i0 (.int .i64 0) 1 8 Tryz.underlying26 hi iz0 iz1 iz2 rfl (by decide) _ _ _ rfl (HO.out.alloc _) ⟨wr.heap.size, 0, none⟩ 1 1 [.int .i64 (nx : Int)] rfl rfl ?qc2 ?qc3 ?qc4 ?qc5 ?qc6 ?_)
        case qc2 =>
          intro j u hj
          match j, hj with
          | 0, hj => simp at hj; subst hj; simp [Addr.add]
        case qc3 => intro u hu; simp at hu; subst hu; rfl
        case qc4 => unfold maxLen; omega
        case qc5 => omega
        case qc6 => simp; omega
        intro v' w4 hown4 hgrow _
        have HB4 := Lib.hid (((HB3.out.alloc HB3.out.size _).grown hgrow (by simp; omega) (fun k hk => (HO.out.lt k hk).1)))
        have HW4 := Lib.hid (HW2.out.mono HB4.out)
        have k4 := HW4.out.c2 (stopAt g m) (by omega)
        rw [HNXT.out] at k4
        have HO4 := Lib.hid hown4
        clear hown4 hgrow k0 k1 k2 k3
        go_wp2_with fail
        go_roundw
        case rel =>
          have hc : ∀ i, i < m → (fun i => if i = m then (f (stopAt g m)).next else g i) i = g i := fun i hi => by simp [show i ≠ m from by omega]
          have hl : intL (fun i => if i = m then (f (stopAt g m)).next else g i) (m + 1) = intL g m ++ [.int .i64 (nx : Int)] := by
            simp only [intL]; rw [intL_congr hc]; simp [HNXT.out]
          have hs : stopAt (fun i => if i = m then (f (stopAt g m)).next else g i) (m + 1) = nx := by
            show (if m = m then (f (stopAt g m)).next else g m).toNat = nx
            rw [if_pos rfl, HNXT.out]; rfl
          refine ⟨m + 1, fun i => if i = m then (f (stopAt g m)).next else g i, ?_, ?_, ?_, HC.out.more (by rw [HNXT.out]; exact hpos), ?_, HB4.out⟩
          · rw [hs]
          · rw [hs]; omega
          · rw [hs]; omega
          · rw [hl]; exact HO4.out
        case measure => simp [intOf]; omega
      · go_wp2_with fail
        obtain ⟨A, c, hv, hI, hblk⟩ := intsAt_own HO.out
        subst hv
        have hb1 := bTrans (bTrans HB.out HB2.out) HB3.out
        have HII := Lib.hid hI
        have hoth : ∀ q, A = some q → q.block ≠ w.heap.size + 1 := fun q hq => by have := hblk q hq; omega
        have HOT := Lib.hid hoth
        have HBK := Lib.hid (fun p (hp : A = some p) => (show w.heap.size ≤ p.block from by have := hblk p hp; omega))
        clear hI hblk hoth
        refine bodyPost_ret (v := .tuple #[.agg #[.int .i64 (f 0).rings, .int .i64 (f 0).pence, .int .i64 (f 0).next], .slice A m c, .bool true]) (by simp [results, Tryz.results176, go_sem, *]) rfl ⟨by (repeat (first | (with_reducible exact Below.refl _ _) | (with_reducible refine bAlloc ?_ _) | (with_reducible refine bDrew ?_) | (with_reducible refine bGrow ?_ _ _) | (with_reducible refine bSet ?_ ?_ _; (first | exact Nat.le_refl _ | exact Nat.le_add_right _ _ | (simp; omega))) | (with_reducible refine bTrans ?_ (by assumption)))), .inr ⟨HNO.out, A, m, c, g, rfl, by omega, HC.out, by omega, ?_, HBK.out⟩⟩
        exact ((HII.out.other HOT.out _).other HOT.out _).other HOT.out _
end Go.Proofs.YtjpfdhhiofjpbaaGreatDoor

/- Shafts (from the texts of the shafts). -/
namespace Go.Proofs.YtjpfdhhiofjpbaaGreatDoor
open Go.RowKit Go.Sort
/-- what find hands back -/
def Sought (w w' : World) (Ar Af : Option Addr) (cr cf : Nat) (S : Sh) (f : Nat → Way) (e : Ending) : Prop :=
  Below w.heap.size w w' ∧ ((¬ S.Ok ∧ e = .returned (.tuple #[.agg #[.slice none 0 0, .slice none 0 0, .int .i64 0, .int .i64 0, .int .i64 0], .agg #[.int .i64 (-1), .int .i64 0, .int .i64 0], .slice none 0 0, .int .i64 20])) ∨
    (S.Ok ∧ f 0 = noWay ∧ e = .returned (.tuple #[.agg #[.slice none 0 0, .slice none 0 0, .int .i64 0, .int .i64 0, .int .i64 0], .agg #[.int .i64 (-1), .int .i64 0, .int .i64 0], .slice none 0 0, .int .i64 3])) ∨
    (S.Ok ∧ f 0 ≠ noWay ∧ ∃ A m c g, e = .returned (.tuple #[.agg #[.slice Ar S.nr cr, .slice Af S.nf cf, .int .i64 S.deep, .int .i64 S.haul, .int .i64 S.rest], .agg #[.int .i64 (f 0).rings, .int .i64 (f 0).pence, .int .i64 (f 0).next], .slice A m c, .int .i64 0]) ∧ m ≤ S.nf ∧ ChainTo f m g ∧ ¬ 0 < (f (stopAt g m)).next ∧ IntsAt w' A m g ∧ ∀ p, A = some p → w.heap.size ≤ p.block))
end Go.Proofs.YtjpfdhhiofjpbaaGreatDoor

/- Shafts (from the texts of the shafts). -/
namespace Go.Proofs.YtjpfdhhiofjpbaaGreatDoor
open Go.RowKit Go.Sort
set_option maxHeartbeats 8000000 in
set_option maxRecDepth 100000 in
theorem find_cheaper (Ar Af : Option Addr) (cr cf : Nat) (S : Sh) (w : World) (hr : S.nr ≤ 9223372036854775807) (hf : S.nf ≤ 9223372036854775807) (hS : ShAt w Ar Af S) (hN : NoneAt w) :
    Calls Tryz.prog 150 #[.agg #[.slice Ar S.nr cr, .slice Af S.nf cf, .int .i64 S.deep, .int .i64 S.haul, .int .i64 S.rest], .func (.func 151) #[] #[]] w fun e w' => Sought w w' Ar Af cr cf S (S.waysOf ltP S.nf) e := by
  have hb0 := bAlloc (bAlloc (bAlloc (Below.refl w.heap.size w) (.cells #[.slice Ar S.nr cr, .slice Af S.nf cf, .int .i64 S.deep, .int .i64 S.haul, .int .i64 S.rest] 57)) (.cells #[.slice none 0 0, .slice none 0 0, .int .i64 0, .int .i64 0, .int .i64 0] 133)) (.cells #[.int .i64 0, .int .i64 0, .int .i64 0] 161)
  have HS := Lib.hid (hS.mono hb0)
  have HN := Lib.hid (hN.mono hb0)
  have HB := Lib.hid hb0
  obtain ⟨n0, n1, n2, n3⟩ := hN
  clear hS hb0
  by_cases hok : S.Ok
  · have hnf := hok.nf
    have hm : min 12 S.nf = S.nf := by omega
    generalize hff : S.waysOf ltP S.nf = f
    have HF := Lib.hid hff
    have HM := Lib.hid hm
    clear hff hm
    go_enter Tryz.func150, Tryz.ntmps150
    go_wp2_with (first | (go_at_call 120; refine (open_yes _ _ _ _ S _ hok HS.out).mono ?_; rintro e w1 ⟨rfl, hb1⟩; obtain ⟨bc1, bf1⟩ := bcell hb1; have hz1 := hb1.size; simp only [World.size_alloc] at hz1; have hy1 : w.heap.size + 2 < w1.heap.size := (by omega); have hx1 : w.heap.size + 1 < w1.heap.size := (by omega); have hw1 : w.heap.size < w1.heap.size := (by omega); have ho1 : 0 < w1.heap.size := (by omega); have HS1 := Lib.hid (HS.out.mono hb1); have HN1 := Lib.hid (HN.out.mono hb1)) | (go_at_call 176; refine (best_cheaper _ _ _ _ S _ hok (HS1.out.mono (bAlloc (Below.refl _ _) _)) (HN1.out.mono (bAlloc (Below.refl _ _) _)) 12 (Nat.le_refl _)).mono ?_; rintro e w2 ⟨hb2, h2⟩; rw [HM.out, HF.out] at h2; obtain ⟨bc2, bf2⟩ := bcell hb2; have hz2 := hb2.size; simp only [World.size_alloc] at hz2; have hy2 : w.heap.size + 2 < w2.heap.size := (by omega); have hx2 : w.heap.size + 1 < w2.heap.size := (by omega); have hv2 : w1.heap.size < w2.heap.size := (by omega); have ho2 : 0 < w2.heap.size := (by omega); rcases h2 with ⟨h20, rfl⟩ | ⟨h20, A, m, c, g, rfl, hmn, hch, hend, hI, hblk⟩))
    · go_region
      go_wp2_with fail
      exact bodyPost_ret (v := .tuple #[.agg #[.slice none 0 0, .slice none 0 0, .int .i64 0, .int .i64 0, .int .i64 0], .agg #[.int .i64 (-1), .int .i64 0, .int .i64 0], .slice none 0 0, .int .i64 3]) (by simp [results, Tryz.results150, go_sem, *]) rfl ⟨by (repeat (first | (with_reducible exact Below.refl _ _) | (with_reducible refine bAlloc ?_ _) | (with_reducible refine bDrew ?_) | (with_reducible refine bGrow ?_ _ _) | (with_reducible refine bSet ?_ ?_ _; (first | exact Nat.le_refl _ | exact Nat.le_add_right _ _ | (simp; omega))) | (with_reducible refine bTrans ?_ (by assumption)))), .inr (.inl ⟨hok, h20, rfl⟩)⟩
    · have HI := Lib.hid hI
      have h1 : ∀ q, A = some q → q.block ≠ w.heap.size + 1 := fun q hq => by have := hblk q hq; simp only [World.size_alloc] at this; omega
      have h2 : ∀ q, A = some q → q.block ≠ w.heap.size + 1 + 1 := fun q hq => by have := hblk q hq; simp only [World.size_alloc] at this; omega
      have HK := Lib.hid (fun p (hp : A = some p) => (show w.heap.size ≤ p.block from by have := hblk p hp; simp only [World.size_alloc] at this; omega))
      have H1 := Lib.hid h1
      have H2 := Lib.hid h2
      clear hI hblk h1 h2
      go_region
      go_wp2_with fail
      refine bodyPost_ret (v := .tuple #[.agg #[.slice Ar S.nr cr, .slice Af S.nf cf, .int .i64 S.deep, .int .i64 S.haul, .int .i64 S.rest], .agg #[.int .i64 (f 0).rings, .int .i64 (f 0).pence, .int .i64 (f 0).next], .slice A m c, .int .i64 0]) (by simp [results, Tryz.results150, go_sem, *]) rfl ⟨by (repeat (first | (with_reducible exact Below.refl _ _) | (with_reducible refine bAlloc ?_ _) | (with_reducible refine bDrew ?_) | (with_reducible refine bGrow ?_ _ _) | (with_reducible refine bSet ?_ ?_ _; (first | exact Nat.le_refl _ | exact Nat.le_add_right _ _ | (simp; omega))) | (with_reducible refine bTrans ?_ (by assumption)))), .inr (.inr ⟨hok, h20, A, m, c, g, rfl, hmn, hch, by omega, ?_, HK.out⟩)⟩
      refine IntsAt.drew (IntsAt.alloc ?_ _)
      exact ((((((((HI.out.other (p := ⟨w.heap.size + 1, 0, none⟩) H1.out _).other (p := ⟨w.heap.size + 1, 1, none⟩) H1.out _).other (p := ⟨w.heap.size + 1, 2, none⟩) H1.out _).other (p := ⟨w.heap.size + 1, 3, none⟩) H1.out _).other (p := ⟨w.heap.size + 1, 4, none⟩) H1.out _).other (p := ⟨w.heap.size + 1 + 1, 0, none⟩) H2.out _).other (p := ⟨w.heap.size + 1 + 1, 1, none⟩) H2.out _).other (p := ⟨w.heap.size + 1 + 1, 2, none⟩) H2.out _)
  · go_enter Tryz.func150, Tryz.ntmps150
    go_wp2_with (go_at_call 120; refine (open_no _ _ _ _ S _ _ hr hf HS.out 20 (.inl ⟨hok, rfl⟩)).mono ?_; rintro e w1 ⟨rfl, hb1⟩; obtain ⟨bc1, bf1⟩ := bcell hb1; have hz1 := hb1.size; simp only [World.size_alloc] at hz1; have hy1 : w.heap.size + 2 < w1.heap.size := (by omega); have hx1 : w.heap.size + 1 < w1.heap.size := (by omega); have hw1 : w.heap.size < w1.heap.size := (by omega); have ho1 : 0 < w1.heap.size := (by omega))
    go_region
    go_wp2_with fail
    exact bodyPost_ret (v := .tuple #[.agg #[.slice none 0 0, .slice none 0 0, .int .i64 0, .int .i64 0, .int .i64 0], .agg #[.int .i64 (-1), .int .i64 0, .int .i64 0], .slice none 0 0, .int .i64 20]) (by simp [results, Tryz.results150, go_sem, *]) rfl ⟨by (repeat (first | (with_reducible exact Below.refl _ _) | (with_reducible refine bAlloc ?_ _) | (with_reducible refine bDrew ?_) | (with_reducible refine bGrow ?_ _ _) | (with_reducible refine bSet ?_ ?_ _; (first | exact Nat.le_refl _ | exact Nat.le_add_right _ _ | (simp; omega))) | (with_reducible refine bTrans ?_ (by assumption)))), .inl ⟨hok, rfl⟩⟩
end Go.Proofs.YtjpfdhhiofjpbaaGreatDoor

/- Shafts (from the texts of the shafts). -/
namespace Go.Proofs.YtjpfdhhiofjpbaaGreatDoor
open Go.RowKit Go.Sort
open Classical in
noncomputable def Sh.fewestOut (S : Sh) : Int × Int := if ¬ S.Ok then (0, 20) else if S.waysOf ltR S.nf 0 = noWay then (0, 3) else ((S.waysOf ltR S.nf 0).rings, 0)
open Classical in
noncomputable def Sh.cheapOut (S : Sh) : Int × Int := if ¬ S.Ok then (0, 20) else if S.waysOf ltP S.nf 0 = noWay then (0, 3) else (sumTo S.price S.nf + (S.waysOf ltP S.nf 0).pence, 0)
theorem fewestOut_none {S : Sh} (h : S.Ok) (h2 : S.waysOf ltR S.nf 0 = noWay) : S.fewestOut = (0, 3) := by unfold Sh.fewestOut; rw [if_neg (not_not_intro h), if_pos h2]
theorem fewestOut_some {S : Sh} (h : S.Ok) (h2 : S.waysOf ltR S.nf 0 ≠ noWay) : S.fewestOut = ((S.waysOf ltR S.nf 0).rings, 0) := by unfold Sh.fewestOut; rw [if_neg (not_not_intro h), if_neg h2]
theorem cheapOut_bad {S : Sh} (h : ¬ S.Ok) : S.cheapOut = (0, 20) := if_pos h
theorem cheapOut_none {S : Sh} (h : S.Ok) (h2 : S.waysOf ltP S.nf 0 = noWay) : S.cheapOut = (0, 3) := by unfold Sh.cheapOut; rw [if_neg (not_not_intro h), if_pos h2]
theorem cheapOut_some {S : Sh} (h : S.Ok) (h2 : S.waysOf ltP S.nf 0 ≠ noWay) : S.cheapOut = (sumTo S.price S.nf + (S.waysOf ltP S.nf 0).pence, 0) := by unfold Sh.cheapOut; rw [if_neg (not_not_intro h), if_neg h2]
theorem pence_bd {S : Sh} (ok : S.Ok) (lt : Way → Way → Bool) (k : Nat) (hk : k ≤ 12) : 0 ≤ (S.waysOf lt k 0).pence ∧ (S.waysOf lt k 0).pence ≤ 2484 := by
  have := waysOf_in ok lt k 0 (Nat.zero_le _)
  have h1 := this.p0
  have h2 := this.p1
  omega
set_option maxHeartbeats 4000000 in
set_option maxRecDepth 100000 in
theorem Cheap_any (Ar Af : Option Addr) (cr cf : Nat) (S : Sh) (w : World) (hr : S.nr ≤ 9223372036854775807) (hf : S.nf ≤ 9223372036854775807) (hS : ShAt w Ar Af S) (hN : NoneAt w) :
    Calls Tryz.prog 90 #[.agg #[.slice Ar S.nr cr, .slice Af S.nf cf, .int .i64 S.deep, .int .i64 S.haul, .int .i64 S.rest]] w fun e w' => e = .returned (.tuple #[.int .i64 S.cheapOut.1, .int .i64 S.cheapOut.2]) ∧ Below w.heap.size w w' := by
  have hb0 := bAlloc (Below.refl w.heap.size w) (.cells #[.slice Ar S.nr cr, .slice Af S.nf cf, .int .i64 S.deep, .int .i64 S.haul, .int .i64 S.rest] 57)
  have HS := Lib.hid (hS.mono hb0)
  have HN := Lib.hid (hN.mono hb0)
  have HB := Lib.hid hb0
  clear hS hb0 hN
  go_enter Tryz.func90, Tryz.ntmps90
  go_wp2_with (go_at_call 150; refine (find_cheaper _ _ _ _ S _ hr hf HS.out HN.out).mono ?_; rintro e w1 ⟨hb1, h1⟩; have hz1 := hb1.size; simp only [World.size_alloc] at hz1; have hy1 : w.heap.size < w1.heap.size := (by omega); have HS1 := Lib.hid (HS.out.mono hb1); rcases h1 with ⟨hok, rfl⟩ | ⟨hok, h2, rfl⟩ | ⟨hok, h2, A, m, c, g, rfl, hmn, hch, hend, hI, hblk⟩)
  · go_ret2
    exact ⟨by rw [cheapOut_bad hok]; rfl, by (repeat (first | (with_reducible exact Below.refl _ _) | (with_reducible refine bAlloc ?_ _) | (with_reducible refine bDrew ?_) | (with_reducible refine bGrow ?_ _ _) | (with_reducible refine bSet ?_ ?_ _; (first | exact Nat.le_refl _ | exact Nat.le_add_right _ _ | (simp; omega))) | (with_reducible refine bTrans ?_ (by assumption))))⟩
  · go_ret2
    exact ⟨by rw [cheapOut_none hok h2]; rfl, by (repeat (first | (with_reducible exact Below.refl _ _) | (with_reducible refine bAlloc ?_ _) | (with_reducible refine bDrew ?_) | (with_reducible refine bGrow ?_ _ _) | (with_reducible refine bSet ?_ ?_ _; (first | exact Nat.le_refl _ | exact Nat.le_add_right _ _ | (simp; omega))) | (with_reducible refine bTrans ?_ (by assumption))))⟩
  · clear hI hblk hch hend
    have hnf := hok.nf
    obtain ⟨p0, p1⟩ := pence_bd hok ltP S.nf hnf
    obtain ⟨y0, y1, y2, y3⟩ := digs_bd hok (k := S.nf) (Nat.le_refl _)
    have HE := Lib.hid (cheapOut_some hok h2)
    have e1 : IntKind.i64.wrap (sumTo S.price S.nf + (S.waysOf ltP S.nf 0).pence) = sumTo S.price S.nf + (S.waysOf ltP S.nf 0).pence := IntWalk.i64_in _ (by omega)
    clear h2
    refine wp_region_quiet_below (by kernel_rfl) (by kernel_rfl) ?_
    repeat (go_big_quiet_step ((go_at_call 152; exact Calls.regrown_of (digging_any _ _ _ _ S _ hok ((((HS1.out.mono (bAlloc (Below.refl _ _) _)).mono (bAlloc (Below.refl _ _) _))).mono (below_regrown _ _ _))))))
    refine wpQuiet_nil ?_
    clear e1
    intro w3 hw3
    have hb3 := below_of_regrown hw3
    clear hw3
    go_wp2_with fail
    go_ret2
    exact ⟨by rw [HE.out]; rfl, by (repeat (first | (with_reducible exact Below.refl _ _) | (with_reducible refine bAlloc ?_ _) | (with_reducible refine bDrew ?_) | (with_reducible refine bGrow ?_ _ _) | (with_reducible refine bSet ?_ ?_ _; (first | exact Nat.le_refl _ | exact Nat.le_add_right _ _ | (simp; omega))) | (with_reducible refine bTrans ?_ (by assumption))))⟩
end Go.Proofs.YtjpfdhhiofjpbaaGreatDoor

/- Shafts (from the texts of the shafts). -/
namespace Go.Proofs.YtjpfdhhiofjpbaaGreatDoor
open Go.RowKit Go.Sort
end Go.Proofs.YtjpfdhhiofjpbaaGreatDoor

/- Shafts (from the texts of the shafts). -/
namespace Go.Proofs.YtjpfdhhiofjpbaaGreatDoor
open Go.RowKit Go.Sort
end Go.Proofs.YtjpfdhhiofjpbaaGreatDoor

/- Shafts (from the texts of the shafts). -/
namespace Go.Proofs.YtjpfdhhiofjpbaaGreatDoor
open Go.RowKit Go.Sort
section
variable {P : Program} {ops : Array Oper} {md : Region.Mode}
attribute [go_sem] Oper.heldAt Oper.heldUpon newer_refl depsP
end
end Go.Proofs.YtjpfdhhiofjpbaaGreatDoor

/- Shafts (from the texts of the shafts). -/
namespace Go.Proofs.YtjpfdhhiofjpbaaGreatDoor
open Go.RowKit Go.Sort
end Go.Proofs.YtjpfdhhiofjpbaaGreatDoor

/- Shafts (from the texts of the shafts). -/
namespace Go.Proofs.YtjpfdhhiofjpbaaGreatDoor
open Go.RowKit Go.Sort
/-- the shaft with one more foot -/
def Sh.more (S : Sh) (r : Int) : Sh := ⟨S.nr, S.rock, S.nf + 1, fun i => if i = S.nf then r else S.foot i, S.deep, S.haul, S.rest⟩
theorem Sh.Ok.more {S : Sh} (h : S.Ok) {r : Int} (h0 : 0 ≤ r) (h1 : r < S.nr) (hn : S.nf < 12) : (S.more r).Ok :=
  ⟨h.nr, hn, h.rock, fun i hi => by
    show 0 ≤ if i = S.nf then r else S.foot i
    split
    · exact h0
    · exact h.f0 i (by have : i < S.nf + 1 := hi; omega), fun i hi => by
    show (if i = S.nf then r else S.foot i) < S.nr
    split
    · exact h1
    · exact h.f1 i (by have : i < S.nf + 1 := hi; omega), h.d0, h.d1, h.l0, h.l1, h.r0, h.r1⟩
theorem cheapOut_bd {S : Sh} (ok : S.Ok) : 0 ≤ S.cheapOut.1 ∧ S.cheapOut.1 ≤ 4968 := by
  obtain ⟨y0, y1, _, _⟩ := digs_bd ok (k := S.nf) (Nat.le_refl _)
  obtain ⟨p0, p1⟩ := pence_bd ok ltP S.nf ok.nf
  by_cases h : S.waysOf ltP S.nf 0 = noWay
  · rw [cheapOut_none ok h]; exact ⟨Int.le_refl 0, by decide⟩
  · rw [cheapOut_some ok h]
    show 0 ≤ sumTo S.price S.nf + (S.waysOf ltP S.nf 0).pence ∧ sumTo S.price S.nf + (S.waysOf ltP S.nf 0).pence ≤ 4968
    omega
end Go.Proofs.YtjpfdhhiofjpbaaGreatDoor

/- What chapter 9 says of a town of places, as plain functions. No program in sight. -/
namespace Go.Proofs.YtjpfdhhiofjpbaaGreatDoor
open Go.RowKit Go.Sort
/-- how far two places are apart -/
def dst (a b : Int) : Int := max (a - b) (b - a)
theorem dst_comm (a b : Int) : dst a b = dst b a := by unfold dst; omega
/-- whether an old well forbids a spot in a world -/
def Pt.forb (t : Pt) (s w : Nat) (a : Int) : Bool := decide (dst (t.old w) (t.spot s).at_ < t.far) || decide (t.harm < (t.spot s).fl.fall a.toNat w * t.many)
/-- in how many of the first k worlds that are left -/
def Pt.inTo (t : Pt) (s w k : Nat) : Nat := cntB (fun i => t.forb s w (intL0 t.q.leftL i)) k
def Pt.inN (t : Pt) (s w : Nat) : Nat := t.inTo s w t.q.leftL.length
def Pt.whoB (t : Pt) (s w : Nat) : Bool := decide (0 < t.inN s w)
def Pt.m (t : Pt) : Nat := t.q.wells.toNat
/-- the old wells that forbid a spot in some world -/
def Pt.who (t : Pt) (s : Nat) : List Int := selTo (t.whoB s) t.m
def Pt.whoAny (t : Pt) (s : Nat) : Bool := anyB (t.whoB s) t.m
noncomputable def Pt.cheap (t : Pt) (s : Nat) : Int × Int := (t.spot s).sh.cheapOut
noncomputable def Pt.canB (t : Pt) (s : Nat) : Bool := decide ((t.cheap s).2 = 0)
noncomputable def Pt.freeB (t : Pt) (s : Nat) : Bool := t.canB s && !t.whoAny s
noncomputable def Pt.frees (t : Pt) : List Int := selTo t.freeB t.ns
/-- what the first k wells that forbid a spot ask -/
def Pt.askedTo (t : Pt) (s k : Nat) : Int := sumTo (fun w => if t.whoB s w then t.pence w else 0) k
noncomputable def Pt.whole (t : Pt) (s : Nat) : Int := (t.cheap s).1 + t.askedTo s t.m
/-- the first of the first n with p at which f is least -/
def minBy (f : Nat → Int) (p : Nat → Bool) : Nat → Option Nat
  | 0 => none
  | n + 1 => if p n && (match minBy f p n with | none => true | some b => decide (f n < f b)) then some n else minBy f p n
noncomputable def Pt.best (t : Pt) : Option Nat := minBy (fun s => (t.cheap s).1) t.freeB t.ns
noncomputable def Pt.cheapest (t : Pt) : Option Nat := minBy t.whole t.canB t.ns
/-- the distance of the nearest of the first k old wells, from 99 on -/
def Pt.nearTo (t : Pt) (s : Nat) : Nat → Int
  | 0 => 99
  | k + 1 => min (t.nearTo s k) (dst (t.old k) (t.spot s).at_)
def Pt.harmed (t : Pt) (h : Int) : Pt := { t with harm := h }
noncomputable def Pt.anyFree (t : Pt) : Bool := anyB t.freeB t.ns
noncomputable def Pt.loosen (t : Pt) : Nat := firstFrom (fun h => (t.harmed (h : Int)).anyFree) 100 0
/-- the pair that is cheapest so far, and what it costs -/
structure Pr where
  (one other least : Int)
/-- whether two spots may be a pair -/
noncomputable def Pt.mayB (t : Pt) (a b : Nat) : Bool := t.canB a && t.canB b && decide (a < b) && decide (t.far ≤ dst (t.spot a).at_ (t.spot b).at_)
noncomputable def Pt.pairIn (t : Pt) (a : Nat) : Nat → Pr → Pr
  | 0, x => x
  | b + 1, x => if t.mayB a b && (decide ((t.pairIn a b x).least < 0) || decide (t.whole a + t.whole b < (t.pairIn a b x).least)) then ⟨a, b, t.whole a + t.whole b⟩ else t.pairIn a b x
noncomputable def Pt.pairTo (t : Pt) : Nat → Pr
  | 0 => ⟨0, 0, -1⟩
  | a + 1 => t.pairIn a t.ns (t.pairTo a)
noncomputable def Pt.pair (t : Pt) : Pr := t.pairTo t.ns
/-! ### errors -/
noncomputable def Pt.askErr (t : Pt) (is : Bool) : Int := if t.err = 0 then (if is then 0 else 1) else t.err
noncomputable def Pt.knowErr (t : Pt) (is : Bool) : Int := if t.askErr is = 0 then (if t.q.leftL = [] then 3 else 0) else t.askErr is
def Pt.hasB (t : Pt) (n : Int) : Bool := inR n 0 ((t.ns : Int) - 1)
theorem Pt.askErr_zero {t : Pt} {is : Bool} (h : t.askErr is = 0) : t.Ok ∧ is = true := by
  unfold Pt.askErr at h
  by_cases ok : t.Ok
  · rw [Pt.err_ok ok, if_pos rfl] at h
    cases is
    · simp at h
    · exact ⟨ok, rfl⟩
  · rw [Pt.err_bad ok, if_neg (by decide)] at h
    exact absurd h (by decide)
theorem Pt.askErr_ok {t : Pt} (ok : t.Ok) : t.askErr true = 0 := by unfold Pt.askErr; rw [Pt.err_ok ok, if_pos rfl, if_pos rfl]
theorem Pt.askErr_arg {t : Pt} (ok : t.Ok) : t.askErr false = 1 := by unfold Pt.askErr; rw [Pt.err_ok ok, if_pos rfl, if_neg (by decide)]
theorem Pt.askErr_bad {t : Pt} (h : ¬ t.Ok) (is : Bool) : t.askErr is = 90 := by unfold Pt.askErr; rw [Pt.err_bad h, if_neg (by decide)]
theorem Pt.knowErr_zero {t : Pt} {is : Bool} (h : t.knowErr is = 0) : t.Ok ∧ is = true ∧ t.q.leftL ≠ [] := by
  unfold Pt.knowErr at h
  by_cases h0 : t.askErr is = 0
  · rw [if_pos h0] at h
    obtain ⟨a, b⟩ := Pt.askErr_zero h0
    refine ⟨a, b, fun e => ?_⟩
    rw [if_pos e] at h
    exact absurd h (by decide)
  · rw [if_neg h0] at h
    exact absurd h h0
theorem Pt.knowErr_ok {t : Pt} (ok : t.Ok) (h : t.q.leftL ≠ []) : t.knowErr true = 0 := by unfold Pt.knowErr; rw [Pt.askErr_ok ok, if_pos rfl, if_neg h]
theorem Pt.knowErr_none {t : Pt} (ok : t.Ok) (h : t.q.leftL = []) : t.knowErr true = 3 := by unfold Pt.knowErr; rw [Pt.askErr_ok ok, if_pos rfl, if_pos h]
/-! ### what each function returns -/
noncomputable def Pt.nearOut (t : Pt) (s : Int) : Int × Int := if t.askErr (t.hasB s) = 0 then (if t.no = 0 then (0, 3) else (t.nearTo s.toNat t.no, 0)) else (0, t.askErr (t.hasB s))
noncomputable def Pt.priceOut (t : Pt) (s : Int) : Int × Int := if t.askErr (t.hasB s) = 0 then t.cheap s.toNat else (0, t.askErr (t.hasB s))
def Pt.oldB (t : Pt) (n : Int) : Bool := t.q.wellB n
noncomputable def Pt.forbidsOut (t : Pt) (s w : Int) : Int × Int := if t.knowErr (t.hasB s && t.oldB w) = 0 then (knownK (t.inN s.toNat w.toNat) t.q.leftL.length, 0) else (0, t.knowErr (t.hasB s && t.oldB w))
def optOut : Option Nat → Int × Int
  | none => (0, 3)
  | some b => (b, 0)
noncomputable def Pt.bestOut (t : Pt) : Int × Int := if t.knowErr true = 0 then optOut t.best else (0, t.knowErr true)
noncomputable def Pt.cheapestOut (t : Pt) : Int × Int := if t.knowErr true = 0 then optOut t.cheapest else (0, t.knowErr true)
noncomputable def Pt.loosenOut (t : Pt) : Int × Int := if t.knowErr true = 0 then (if t.loosen < 100 then ((t.loosen : Int), 0) else (0, 3)) else (0, t.knowErr true)
noncomputable def Pt.wholeOut (t : Pt) (s : Int) : Int × Int := if t.knowErr (t.hasB s) = 0 then (if t.canB s.toNat then (t.whole s.toNat, 0) else (0, 3)) else (0, t.knowErr (t.hasB s))
noncomputable def Pt.pairOut (t : Pt) : Int × Int × Int := if t.knowErr true = 0 then (if t.pair.least < 0 then (0, 0, 3) else (t.pair.one, t.pair.other, 0)) else (0, 0, t.knowErr true)
end Go.Proofs.YtjpfdhhiofjpbaaGreatDoor
/- Walks of the law 05: Same, of two towns that read alike. Conditions: lengths are Go's. -/
namespace Go.Proofs.YtjpfdhhiofjpbaaGreatDoor
open Go.RowKit Go.Sort
theorem neqFact (w : World) (a b c d e : Int) : (binOp .neq 64 (.agg #[.int .i64 a, .int .i64 b, .int .i64 c, .int .i64 d, .int .i64 e]) (.agg #[.int .i64 a, .int .i64 b, .int .i64 c, .int .i64 d, .int .i64 e])).run Tryz.prog w = .ok (.bool false) w := by
  simp [go_sem]
attribute [local go_sem] neqFact
end Go.Proofs.YtjpfdhhiofjpbaaGreatDoor
/- Towns with one fact more, one world more, or in another order: what becomes of the worlds that are left. Plain Lean. No condition but what is said. -/
namespace Go.Proofs.YtjpfdhhiofjpbaaGreatDoor
open Go.RowKit Go.Sort
/-! ### One fact more -/
def Qt.add (t : Qt) (f : Fact) : Qt := ⟨t.wells, t.nw, t.world, t.nf + 1, fun i => if i < t.nf then t.fact i else f⟩
theorem Qt.Ok.falls {t : Qt} (ok : t.Ok) {L : List Int} (hL : ∀ a, a ∈ L → a ∈ t.leftL) : t.Falls L := fun a ha x hx => by
  obtain ⟨i, hi, _, rfl⟩ := (leftTo_mem t t.nw).1 (hL a ha)
  have hm := testsL_mem.1 hx
  have hw := ok.world i hi
  have w0 := ok.w0
  have hk : x.1 < (t.world i).n := by have := hw.n; omega
  have hl := hw.len _ hk
  unfold Qt.F
  rw [Int.toNat_natCast]
  exact hw.fall _ hk _ (by omega)
/-! ### One world more -/
/-! ### Another order -/
/-! ### Fewer worlds: spans, and what is known -/
end Go.Proofs.YtjpfdhhiofjpbaaGreatDoor
/- A region that draws its order, in a fence: its operations yield known values in every world of a class and keep to the class; then a tail. No program in sight. -/
namespace Go.Proofs.YtjpfdhhiofjpbaaGreatDoor
open Go.RowKit Go.Sort Go.Shelf
section
variable {P : Program} {ops : Array Oper} {md : Region.Mode} {n : Nat} {F : Fence} {Cl : World → Prop}
/-- a fence that lets everything by -/
structure Open (F : Fence) (P : Program) : Prop where
  fn : ∀ f, F.fn f
  depth : F.depth.isSome = false
  call : ∀ {n f : Nat} {args : Array Value} {w : World} {R : Ending → World → Prop}, Calls P f args w R → CallsIn F n P f args w R
theorem openRound (P : Program) (l : Nat) : Open (Fence.wide.inRound l) P := ⟨fun _ => trivial, rfl, fun h => CallsIn.inRound l (callsIn_wide.2 h)⟩
def clsUpon (P : Program) (Cl : World → Prop) (w : World) (v : Value) : Result Next → Prop
  | .ok (.value u) w' => Cl w' ∧ u = v
  | .ok .skip w' => Cl w' ∧ v = undef
  | .ok (.enter f args) w' => w' = w ∧ Calls P f args w (fun e w'' => e = .returned v ∧ Cl w'')
  | _ => False
def clsAt (P : Program) (Cl : World → Prop) (o : Oper) (a : Act) (w : World) (v : Value) : Prop := clsUpon P Cl w v ((execOp a.eval o).run P w)
attribute [go_sem] clsAt clsUpon
theorem wpIn_of_cls (hF : Open F P) {o : Oper} {a : Act} {w : World} {v : Value} {K : Act → World → Prop} {Q : Exit → Act → World → Prop} (hdf : ∀ c, o.op ≠ .defer c) (h : clsAt P Cl o a w v) (hK : ∀ w', Cl w' → K (a.put o.dst v) w') : o.wpIn F n P a w K Q := by
  unfold clsAt at h
  unfold Oper.wpIn
  refine ⟨fun f _ => hF.fn f, ?_⟩
  rw [Oper.semAt_eq _ _ _ hdf]
  generalize (execOp a.eval o).run P w = r at *
  cases r with
  | ok n' w' =>
    cases n' <;> simp only [clsUpon] at h <;> simp only [Oper.uponIn]
    case value u =>
      obtain ⟨e1, e2⟩ := h
      rw [e2]
      exact hK _ e1
    case skip =>
      obtain ⟨e1, e2⟩ := h
      rw [← e2]
      exact hK _ e1
    case enter f args =>
      obtain ⟨e1, hc⟩ := h
      rw [e1]
      exact ⟨(fun h => by rw [hF.depth] at h; cases h), (hF.call hc).mono fun e w'' ⟨he, hw''⟩ => by subst he; exact hK _ hw''⟩
  | halt x w' => simp only [clsUpon] at h
end
end Go.Proofs.YtjpfdhhiofjpbaaGreatDoor
/- A map of worlds to numbers, as the package quarrels keeps it: look-up and store. No condition. -/
namespace Go.Proofs.YtjpfdhhiofjpbaaGreatDoor
open Go.RowKit Go.Sort Go.Shelf
/-- what each entry of the map says -/
def DepOk (t : Qt) (es : Array MapEntry) : Prop := ∀ e, e ∈ es.toList → ∃ s : Nat, s < 64 ∧ e.key = .int .u64 (s : Int) ∧ e.val = .int .i64 (t.depth (bitsL s))
def DepMap (w : World) (mp : Nat) (t : Qt) : Prop := ∃ es clock, w.heap[mp]? = some (.map es clock) ∧ DepOk t es
theorem DepMap.lt {w : World} {mp : Nat} {t : Qt} (h : DepMap w mp t) : mp < w.heap.size := by
  obtain ⟨es, clock, h1, _⟩ := h
  exact (Array.getElem?_eq_some_iff.1 h1).1
theorem DepMap.mono {w w' : World} {mp : Nat} {t : Qt} (h : DepMap w mp t) (hb : Below w.heap.size w w') : DepMap w' mp t := by
  obtain ⟨es, clock, h1, h2⟩ := h
  exact ⟨es, clock, (hb.block mp (Array.getElem?_eq_some_iff.1 h1).1).trans h1, h2⟩
end Go.Proofs.YtjpfdhhiofjpbaaGreatDoor
/- The walk of after of the package quarrels, by the contract of enough. Condition: a valid town. -/
namespace Go.Proofs.YtjpfdhhiofjpbaaGreatDoor
open Go.RowKit Go.Sort Go.Shelf
theorem CourtAt.kept {w w' : World} {C : Nat} {Aw Af : Option Addr} {cw cf : Nat} {t : Qt} {s mp : Nat} (h : CourtAt w C Aw Af cw cf t s mp) (hg : w.grownBy w' (some mp)) (hne : C ≠ mp) : CourtAt w' C Aw Af cw cf t s mp := by
  have hb := hg.block C h.box.lt (fun e => hne (Option.some.inj e))
  exact ⟨⟨Nat.lt_of_lt_of_le h.box.lt hg.size, fun i v hi => (cell_of_heap hb i).trans (h.box.cell i v hi)⟩, fun o => (frozen_of_heap hb o).trans (h.frz o)⟩
/-- a court at work, its map right -/
structure DEnv (W0 w : World) (C mp s0 : Nat) (Aw Af : Option Addr) (cw cf : Nat) (t : Qt) : Prop where
  below : Below W0.heap.size W0 w
  court : CourtAt w C Aw Af cw cf t s0 mp
  dep : DepMap w mp t
  town : QAt W0 Aw Af t
  tab : TabAt W0
  base : W0.heap.size ≤ mp
  ne : C ≠ mp
theorem DEnv.step {W0 w w' : World} {C mp s0 : Nat} {Aw Af : Option Addr} {cw cf : Nat} {t : Qt} (h : DEnv W0 w C mp s0 Aw Af cw cf t) (hg : w.grownBy w' (some mp)) (hd : DepMap w' mp t) : DEnv W0 w' C mp s0 Aw Af cw cf t :=
  ⟨h.below.grown hg h.below.size (fun k e => by injection e with e; rw [← e]; exact h.base), h.court.kept hg h.ne, hd, h.town, h.tab, h.base, h.ne⟩
theorem DEnv.mono {W0 w w' : World} {C mp s0 : Nat} {Aw Af : Option Addr} {cw cf : Nat} {t : Qt} (h : DEnv W0 w C mp s0 Aw Af cw cf t) (hb : Below w.heap.size w w') : DEnv W0 w' C mp s0 Aw Af cw cf t :=
  h.step (grown_below hb) (h.dep.mono hb)
end Go.Proofs.YtjpfdhhiofjpbaaGreatDoor
/- The walk of enough of the package quarrels. Condition: a valid town. -/
namespace Go.Proofs.YtjpfdhhiofjpbaaGreatDoor
open Go.RowKit Go.Sort Go.Shelf
attribute [local go_sem] Oper.semAt_some
theorem grown_alloc {w w' : World} {r : Option Nat} (h : w.grownBy w' r) (o : Obj) : w.grownBy (w'.alloc o) r := grown_trans h (World.grownBy_alloc w' o r)
theorem DepMap.set {w : World} {mp : Nat} {t : Qt} (h : DepMap w mp t) {b : Nat} (hb : b ≠ mp) (o : Nat) (v : Value) : DepMap (w.setCell ⟨b, o, none⟩ v) mp t := by
  obtain ⟨es, clock, h1, h2⟩ := h
  exact ⟨es, clock, (Below.heap_setCell w ⟨b, o, none⟩ v mp (by show mp ≠ b; omega)).trans h1, h2⟩
theorem DepMap.put {w : World} {mp : Nat} {t : Qt} (h : DepMap w mp t) {b : Nat} (hb : b ≠ mp) (o : Obj) : DepMap (w.putObj b o) mp t := by
  obtain ⟨es, clock, h1, h2⟩ := h
  exact ⟨es, clock, (World.putObj_heap_other (fun e => hb (by omega))).trans h1, h2⟩
end Go.Proofs.YtjpfdhhiofjpbaaGreatDoor
/- A region that draws its order, in a fence: values told by shapes and by what stands, then a store, for which one operation need not wait. No program in sight. -/
namespace Go.Proofs.YtjpfdhhiofjpbaaGreatDoor
open Go.RowKit Go.Sort Go.Shelf
section
variable {P : Program} {ops : Array Oper} {md : Region.Mode} {F : Fence} {k : Nat}
theorem wpIn_of_stir (hF : Open F P) {o : Oper} {a : Act} {w : World} {S : World → World → Prop} {r : World → Value → Prop} {K : Act → World → Prop} {Q : Exit → Act → World → Prop} (hdf : ∀ c, o.op ≠ .defer c) (h : Oper.stirAt P o a w S r) (hK : ∀ v w', S w w' → r w' v → K (a.put o.dst v) w') : o.wpIn F k P a w K Q := by
  unfold Oper.stirAt at h
  unfold Oper.wpIn
  refine ⟨fun f _ => hF.fn f, ?_⟩
  rw [Oper.semAt_eq _ _ _ hdf]
  generalize (execOp a.eval o).run P w = x at *
  cases x with
  | ok n' w' =>
    cases n' <;> simp only [Oper.stirUpon] at h <;> simp only [Oper.uponIn]
    case value u => exact hK _ _ h.1 h.2
    case skip =>
      obtain ⟨e1, e3, e2⟩ := h
      rw [e1]
      exact hK _ _ e3 e2
    case enter f args =>
      obtain ⟨e1, hc⟩ := h
      rw [e1]
      exact ⟨(fun h => by rw [hF.depth] at h; cases h), (hF.call hc).mono fun e w'' ⟨v, he, hw'', hr⟩ => by subst he; exact hK _ _ hw'' hr⟩
  | halt x w' => simp only [Oper.stirUpon] at h
end
end Go.Proofs.YtjpfdhhiofjpbaaGreatDoor
/- Walk of the package quarrels: Depth. Conditions: lengths are Go's; the listed table holds what it holds. -/
namespace Go.Proofs.YtjpfdhhiofjpbaaGreatDoor
open Go.RowKit Go.Sort Go.Shelf
end Go.Proofs.YtjpfdhhiofjpbaaGreatDoor
/- A region that draws its order, in a fence: known values over a class of worlds, but one operation's value is a letter (a new box), then a tail. No program in sight. -/
namespace Go.Proofs.YtjpfdhhiofjpbaaGreatDoor
open Go.RowKit Go.Sort Go.Shelf
section
variable {P : Program} {ops : Array Oper} {md : Region.Mode} {n : Nat} {F : Fence} {Cl : Option Nat → World → Prop} {val : Nat → Value}
end
end Go.Proofs.YtjpfdhhiofjpbaaGreatDoor
/- Walk of the package quarrels: Next. Conditions: lengths are Go's; the listed table holds what it holds. -/
namespace Go.Proofs.YtjpfdhhiofjpbaaGreatDoor
open Go.RowKit Go.Sort Go.Shelf
attribute [local go_sem] Oper.semAt_some
section
variable {P : Program} {ops : Array Oper} {Cl : World → Prop}
end
/-- the worlds of the region: the map is right; the new box is there -/
def NextCl (w : World) (mp : Nat) (t : Qt) (ob : Option Nat) (w' : World) : Prop := w.grownBy w' (some mp) ∧ DepMap w' mp t ∧ ∀ b, ob = some b → w.heap.size ≤ b ∧ Boxed w' b 3 (.int .i64 0)
theorem NextCl.step {w w' w'' : World} {mp : Nat} {t : Qt} {ob : Option Nat} (h : NextCl w mp t ob w') (hmp : mp < w.heap.size) (hg : w'.grownBy w'' (some mp)) (hd : DepMap w'' mp t) : NextCl w mp t ob w'' :=
  ⟨grown_trans h.1 hg, hd, fun b hb => ⟨(h.2.2 b hb).1, (h.2.2 b hb).2.kept hg (fun e => by injection e with e; have := (h.2.2 b hb).1; omega)⟩⟩
theorem NextCl.new {w w' : World} {mp : Nat} {t : Qt} (h : NextCl w mp t none w') : NextCl w mp t (some w'.heap.size) (w'.alloc (.cells #[.int .i64 0] 3)) :=
  ⟨grown_alloc h.1 _, h.2.1.mono (bAlloc (Below.refl _ _) _), fun b hb => by injection hb with hb; subst hb; exact ⟨h.1.size, Boxed.new _ _ _⟩⟩
end Go.Proofs.YtjpfdhhiofjpbaaGreatDoor
/- The walk of Decide of the package quarrels: its first region, where it ends in an error. Conditions: lengths are Go's; the listed table holds what it holds. -/
namespace Go.Proofs.YtjpfdhhiofjpbaaGreatDoor
open Go.RowKit Go.Sort Go.Shelf
end Go.Proofs.YtjpfdhhiofjpbaaGreatDoor
