/- Parts joined: what all claims of this seat need. -/
import Derived.Test.YthnojgdckkdcgaaGreatDoorNSG
import Derived.Test.YthnojgdckkdcgaaGreatDoorNSA
import Derived.ArgAppend
import Derived.Test.YthnojgdckkdcgaaGreatDoorNSH
set_option linter.unusedSimpArgs false
set_option linter.unusedVariables false
namespace Go.Proofs.YthnojgdckkdcgaaGreatDoor
open Go.RowKit Go.Sort
def ltP (x y : Way) : Bool := decide (x.pence < y.pence)
set_option maxHeartbeats 8000000 in
set_option maxRecDepth 100000 in
theorem ways_cheaper (Ar Af : Option Addr) (cr cf : Nat) (S : Sh) (w : World) (ok : S.Ok) (hS : ShAt w Ar Af S) (hN : NoneAt w) (M : Nat) (_ : M ≤ 12) :
    Calls Tryz.prog 194 #[.agg #[.slice Ar S.nr cr, .slice Af S.nf cf, .int .i64 S.deep, .int .i64 S.haul, .int .i64 S.rest], .func (.func 136) #[] #[], .int .i64 M] w fun e w' => Wayed w w' (S.nf + 1) (S.waysOf ltP (min M S.nf)) e := by
  have hb0 := bAlloc (Below.refl w.heap.size w) (.cells #[.slice Ar S.nr cr, .slice Af S.nf cf, .int .i64 S.deep, .int .i64 S.haul, .int .i64 S.rest] 150)
  have HS := Lib.hid (hS.mono hb0)
  have hN' := hN.mono hb0
  have HN := Lib.hid hN'
  have HB := Lib.hid hb0
  obtain ⟨n0, n1, n2, n3⟩ := hN
  clear hS hb0 hN'
  have hnf := ok.nf
  obtain ⟨L, hL⟩ : ∃ L, L = min M S.nf := ⟨_, rfl⟩
  have hmin : (if (S.nf : Int) < (M : Int) then (S.nf : Int) else (M : Int)) = (L : Int) := by split <;> omega
  have hmin2 : (if S.nf < M then (S.nf : Int) else (M : Int)) = (L : Int) := by split <;> omega
  have hL2 : L ≤ S.nf := by omega
  rw [← hL]
  clear hL
  go_enter Tryz.func194, Tryz.ntmps194
  go_wp2_with (go_at_call 203; refine (repeat_any _ _ (S.nf + 1) _ (by omega) _ (by omega) (by omega) ⟨(by simp), fun i hi => (by obtain rfl : i = 0 := (by omega); simp [go_sem, noWay]), fun i hi => (by obtain rfl : i = 0 := (by omega); simp [go_sem, noWay]), fun i hi => (by obtain rfl : i = 0 := (by omega); simp [go_sem, noWay]), fun j => (by simp [go_sem])⟩).mono ?_; rintro e w1 ⟨g1, c1, rfl, hg1, hW1, hb1⟩; obtain ⟨bc1, bf1⟩ := bcell hb1; have hz1 := hb1.size; simp only [World.size_alloc] at hz1 hg1; have hy1 : w.heap.size + 1 < w1.heap.size := (by omega); have k0 := hW1.c0 S.nf (by omega); have k1 := hW1.c1 S.nf (by omega); have k2 := hW1.c2 S.nf (by omega); have kf := hW1.fr; have HW1 := Lib.hid hW1; clear hW1)
  have HB1 := Lib.hid (bTrans (bAlloc (Below.refl _ (w.alloc (.cells #[.slice Ar S.nr cr, .slice Af S.nf cf, .int .i64 S.deep, .int .i64 S.haul, .int .i64 S.rest] 150))) (.cells #[.int .i64 (-1), .int .i64 0, .int .i64 0] 198)) hb1)
  clear hb1
  have HF : ∀ (i : Nat), S.waysOf ltP 0 i = if i = S.nf then ⟨0, 0, 0⟩ else noWay := fun i => rfl
  have HF0 := Lib.hid HF
  clear HF
  go_loopw [8, 29] (fun o i wr => ∃ (k g c : Nat), k ≤ L ∧ i = .int .i64 k ∧ o = .slice (some ⟨g, 0, none⟩) (S.nf + 1) c ∧ w.heap.size < g ∧ WaysAt wr g (S.nf + 1) (S.waysOf ltP k) ∧ Below (w.alloc (.cells #[.slice Ar S.nr cr, .slice Af S.nf cf, .int .i64 S.deep, .int .i64 S.haul, .int .i64 S.rest] 150)).heap.size (w.alloc (.cells #[.slice Ar S.nr cr, .slice Af S.nf cf, .int .i64 S.deep, .int .i64 S.haul, .int .i64 S.rest] 150)) wr) (fun _ i _ => L - (intOf i).toNat)
  case atStart => exact ⟨0, g1, c1, Nat.zero_le _, rfl, rfl, by omega, (HW1.out.set (d := S.nf) (by omega) ⟨0, 0, 0⟩).congr (fun i _ => (HF0.out i).symm), ((HB1.out.setCell (by simp; omega) _).setCell (by simp; omega) _).setCell (by simp; omega) _⟩
  case round =>
    obtain ⟨k, g, c, hk, rfl, rfl, hg, hW, hB⟩ := hrel
    obtain ⟨bc, bf⟩ := bcell hB
    have hz := hB.size
    simp only [World.size_alloc] at hz
    have hy : w.heap.size < wr.heap.size := hz
    have hglt := hW.lt
    have HW2 := Lib.hid hW
    have HB2 := Lib.hid hB
    clear hW hB HW1 HB1 k0 k1 k2 kf hg1 hy1 hz1 bc1 bf1
    by_cases hlt : k < L
    · have hin := fun d (hd : d ≤ S.nf) => waysOf_in ok ltP k d hd
      have HQ0 : ∀ j, S.waysOf ltP (k + 1) j = S.moreWays ltP (S.waysOf ltP k) j := fun j => rfl
      have HQ := Lib.hid HQ0
      have HI := Lib.hid hin
      clear hin HQ0
      obtain ⟨Q, hQ⟩ : ∃ Q, Q = S.waysOf ltP (k + 1) := ⟨_, rfl⟩
      rw [← hQ] at HQ
      have HQE := Lib.hid hQ
      clear hQ
      generalize S.waysOf ltP k = P at HW2 HQ HI
      go_wp2_with (go_at_call 204; refine (clone_any _ _ _ _ _ (by omega) (by omega) HW2.out).mono ?_; rintro e w2 ⟨g2, c2, rfl, hg2, hW2, hb2⟩)
      have hgg : g ≠ g2 := by omega
      have HW3 := Lib.hid hW2
      have HW4 := Lib.hid (HW2.out.mono hb2)
      have HB3 := Lib.hid (bTrans HB2.out hb2)
      have hg3 : w.heap.size < g2 := by omega
      clear hW2 hb2 hg2
      go_loopw [34] (fun i wr2 => ∃ d : Nat, d ≤ S.nf ∧ i = .int .i64 d ∧ WaysAt wr2 g2 (S.nf + 1) (fun j => if j < d then Q j else P j) ∧ WaysAt wr2 g (S.nf + 1) P ∧ Below (w.alloc (.cells #[.slice Ar S.nr cr, .slice Af S.nf cf, .int .i64 S.deep, .int .i64 S.haul, .int .i64 S.rest] 150)).heap.size (w.alloc (.cells #[.slice Ar S.nr cr, .slice Af S.nf cf, .int .i64 S.deep, .int .i64 S.haul, .int .i64 S.rest] 150)) wr2) (fun i _ => S.nf - (intOf i).toNat)
      case atStart => exact ⟨0, Nat.zero_le _, rfl, HW3.out.congr (fun j _ => by simp), HW4.out, HB3.out⟩
      case round =>
        obtain ⟨d, hd, rfl, hM2, hP2, hB⟩ := hrel
        have HM := Lib.hid hM2
        have HP := Lib.hid hP2
        have HB4 := Lib.hid hB
        clear hM2 hP2 hB
        by_cases hdlt : d < S.nf
        · obtain ⟨fb0, fb1⟩ := S.falls_bd hd
          go_wp2_with fail
          go_loopw [11] (fun i wr3 => ∃ m : Nat, d + m ≤ S.falls d ∧ i = .int .i64 (d + 1 + m : Nat) ∧ WaysAt wr3 g2 (S.nf + 1) (fun j => if j < d then Q j else if j = d then S.lookTo ltP P d m else P j) ∧ WaysAt wr3 g (S.nf + 1) P ∧ Below (w.alloc (.cells #[.slice Ar S.nr cr, .slice Af S.nf cf, .int .i64 S.deep, .int .i64 S.haul, .int .i64 S.rest] 150)).heap.size (w.alloc (.cells #[.slice Ar S.nr cr, .slice Af S.nf cf, .int .i64 S.deep, .int .i64 S.haul, .int .i64 S.rest] 150)) wr3) (fun i _ => S.falls d + 1 - (intOf i).toNat)
          case atStart => exact ⟨0, by omega, rfl, HM.out.congr (fun j _ => by by_cases e : j = d <;> simp [e, Sh.lookTo]), HP.out, HB4.out⟩
          case round =>
            obtain ⟨m, hm, rfl, hM3, hP3, hB⟩ := hrel
            obtain ⟨bc4, bf4⟩ := bcell hB
            have hz4 := hB.size
            simp only [World.size_alloc] at hz4
            have hy4 : w.heap.size < wr.heap.size := hz4
            have ho4 : 0 < wr.heap.size := by omega
            have hx4 := hM3.lt
            have hx5 := hP3.lt
            have HM5 := Lib.hid hM3
            have HP5 := Lib.hid hP3
            have HB5 := Lib.hid hB
            have HS5 := Lib.hid (HS.out.mono hB)
            clear hM3 hP3 hB
            by_cases hlast : d + m = S.falls d
            · go_wp2_with (go_at_call 205; refine (falls_any _ _ _ _ S _ ok HS5.out d hd).mono ?_; rintro e w5 ⟨rfl, hb5⟩)
              have HMM := Lib.hid (HM5.out.mono hb5)
              have HPM := Lib.hid (HP5.out.mono hb5)
              have HBM := Lib.hid (bTrans HB5.out hb5)
              clear hb5
              go_roundw
              case rel =>
                refine ⟨d + 1, by omega, by go_num, HMM.out.congr (fun j hj => ?_), HPM.out, HBM.out⟩
                rcases Nat.lt_trichotomy j d with h1 | h1 | h1
                · simp [h1, show j < d + 1 from by omega]
                · subst h1
                  rw [if_neg (Nat.lt_irrefl _), if_pos rfl, if_pos (Nat.lt_succ_self _), HQ.out j]
                  unfold Sh.moreWays
                  rw [if_pos hdlt, show S.falls j - j = m from by omega]
                · rw [if_neg (by omega), if_neg (by omega), if_neg (by omega)]
              case measure => simp [intOf]; omega
            · obtain ⟨X, hX⟩ : ∃ X, X = P (d + 1 + m) := ⟨_, rfl⟩
              obtain ⟨Y, hY⟩ : ∃ Y, Y = S.lookTo ltP P d m := ⟨_, rfl⟩
              have a0 := HP5.out.c0 (d + 1 + m) (by omega)
              have a1 := HP5.out.c1 (d + 1 + m) (by omega)
              have a2 := HP5.out.c2 (d + 1 + m) (by omega)
              rw [← hX] at a0 a1 a2
              have b0 : wr.cell? ⟨g2, d * 3, none⟩ = some (.int .i64 Y.rings) := by rw [hY]; simpa using HM5.out.c0 d (by omega)
              have b1 : wr.cell? ⟨g2, d * 3 + 1, none⟩ = some (.int .i64 Y.pence) := by rw [hY]; simpa using HM5.out.c1 d (by omega)
              have b2 : wr.cell? ⟨g2, d * 3 + 2, none⟩ = some (.int .i64 Y.next) := by rw [hY]; simpa using HM5.out.c2 d (by omega)
              have hXI : X.In k := hX ▸ HI.out _ (by omega)
              have hYI : Y.In (k + 1) := hY ▸ lookTo_in ok HI.out m (by omega)
              have HX := Lib.hid hX
              have HY := Lib.hid hY
              clear hX hY
              obtain ⟨x0, x1, x2, x3, x4, x5⟩ := hXI
              obtain ⟨y0, y1, y2, y3, y4, y5⟩ := hYI
              by_cases hno : X = noWay
              · have HNO := Lib.hid hno
                rw [hno] at a0 a1 a2
                have hs1 := sameWay_t X hno
                rw [hno] at hs1
                simp only [noWay] at hs1
                clear hno x0 x1 x2 x3 x4 x5
                simp only [noWay] at a0 a1 a2
                go_wp2_with (go_at_call 205; refine (falls_any _ _ _ _ S _ ok HS5.out d hd).mono ?_; rintro e w5 ⟨rfl, hb5⟩; obtain ⟨bc5, bf5⟩ := bcell hb5; have hz5 := hb5.size; have hy5 : w.heap.size < w5.heap.size := (by omega); have ho5 : 0 < w5.heap.size := (by omega); have hg5 : g < w5.heap.size := (by omega); have hg6 : g2 < w5.heap.size := (by omega))
                have HMM := Lib.hid (HM5.out.mono hb5)
                have HPM := Lib.hid (HP5.out.mono hb5)
                have HBM := Lib.hid (bTrans HB5.out hb5)
                have HSM := Lib.hid (HS5.out.mono hb5)
                clear hb5
                refine wp_region_quiet_below (by kernel_rfl) (by kernel_rfl) ?_
                repeat (go_big_quiet_step (((go_at_call 206; exact Calls.regrown_of (rests_any _ _ _ _ S _ ok (HSM.out.mono (below_regrown _ _ _)) _ (d + 1 + m) (by omega) (by omega) (by omega))))))
                refine wpQuiet_nil ?_
                intro w6 hw6
                have hb6 := below_of_regrown hw6
                clear hw6
                go_wp2_with fail
                go_roundw
                case rel => exact ⟨m + 1, by omega, by go_num, (HMM.out.mono hb6).congr (fun j _ => by rw [show S.lookTo ltP P d (m + 1) = S.lookTo ltP P d m from look_skip (.inl (HX.out ▸ HNO.out))]), HPM.out.mono hb6, bTrans HBM.out hb6⟩
                case measure => simp [intOf]; omega
              · have HNO := Lib.hid hno
                have hs1 := sameWay_f X hno
                clear hno
                cases hr : S.restsB (d + 1 + m)
                · go_wp2_with (go_at_call 205; refine (falls_any _ _ _ _ S _ ok HS5.out d hd).mono ?_; rintro e w5 ⟨rfl, hb5⟩; obtain ⟨bc5, bf5⟩ := bcell hb5; have hz5 := hb5.size; have hy5 : w.heap.size < w5.heap.size := (by omega); have ho5 : 0 < w5.heap.size := (by omega); have hg5 : g < w5.heap.size := (by omega); have hg6 : g2 < w5.heap.size := (by omega))
                  have HMM := Lib.hid (HM5.out.mono hb5)
                  have HPM := Lib.hid (HP5.out.mono hb5)
                  have HBM := Lib.hid (bTrans HB5.out hb5)
                  have HSM := Lib.hid (HS5.out.mono hb5)
                  clear hb5
                  refine wp_region_quiet_below (by kernel_rfl) (by kernel_rfl) ?_
                  repeat (go_big_quiet_step (((go_at_call 206; exact Calls.regrown_of (rests_any _ _ _ _ S _ ok (HSM.out.mono (below_regrown _ _ _)) _ (d + 1 + m) (by omega) (by omega) (by omega))))))
                  refine wpQuiet_nil ?_
                  intro w6 hw6
                  have hb6 := below_of_regrown hw6
                  clear hw6
                  go_wp2_with fail
                  go_roundw
                  case rel => exact ⟨m + 1, by omega, by go_num, (HMM.out.mono hb6).congr (fun j _ => by rw [show S.lookTo ltP P d (m + 1) = S.lookTo ltP P d m from look_skip (.inr hr)]), HPM.out.mono hb6, bTrans HBM.out hb6⟩
                  case measure => simp [intOf]; omega
                · obtain ⟨rb0, rb1⟩ := ring_of_rests ok (d := d + 1 + m) (by omega) (by omega) hr
                  have hcase : (sameWay Y.rings Y.pence Y.next (-1) 0 0 = true ∧ S.lookTo ltP P d (m + 1) = S.wayTo X (d + 1 + m)) ∨ (sameWay Y.rings Y.pence Y.next (-1) 0 0 = false ∧ decide (X.pence + S.ringc (d + 1 + m) < Y.pence) = true ∧ (X.pence + S.ringc (d + 1 + m) < Y.pence) ∧ S.lookTo ltP P d (m + 1) = S.wayTo X (d + 1 + m)) ∨ (sameWay Y.rings Y.pence Y.next (-1) 0 0 = false ∧ decide (X.pence + S.ringc (d + 1 + m) < Y.pence) = false ∧ ¬ (X.pence + S.ringc (d + 1 + m) < Y.pence) ∧ S.lookTo ltP P d (m + 1) = Y) := by
                    have e1 : ¬ (P (d + 1 + m) = noWay ∨ S.restsB (d + 1 + m) = false) := by
                      rintro (h | h)
                      · exact HNO.out (HX.out.trans h)
                      · rw [hr] at h; cases h
                    have e2 : S.lookTo ltP P d (m + 1) = if Y = noWay ∨ ltP (S.wayTo X (d + 1 + m)) Y = true then S.wayTo X (d + 1 + m) else Y := by
                      show S.look ltP P (S.lookTo ltP P d m) (d + 1 + m) = _
                      unfold Sh.look
                      rw [if_neg e1, ← HX.out, ← HY.out]
                    by_cases h1 : Y = noWay
                    · exact .inl ⟨sameWay_t Y h1, by rw [e2, if_pos (.inl h1)]⟩
                    · cases h2 : ltP (S.wayTo X (d + 1 + m)) Y
                      · exact .inr (.inr ⟨sameWay_f Y h1, h2, of_decide_eq_false h2, by rw [e2, if_neg (by rintro (h | h); exact h1 h; rw [h2] at h; cases h)]⟩)
                      · exact .inr (.inl ⟨sameWay_f Y h1, h2, of_decide_eq_true h2, by rw [e2, if_pos (.inr h2)]⟩)
                  rcases hcase with ⟨hs2, he⟩ | ⟨hs2, hlt2, hlt3, he⟩ | ⟨hs2, hlt2, hlt3, he⟩
                  all_goals
                    have HE := Lib.hid he
                    clear he
                    go_wp2_with (go_at_call 205; refine (falls_any _ _ _ _ S _ ok HS5.out d hd).mono ?_; rintro e w5 ⟨rfl, hb5⟩; obtain ⟨bc5, bf5⟩ := bcell hb5; have hz5 := hb5.size; have hy5 : w.heap.size < w5.heap.size := (by omega); have ho5 : 0 < w5.heap.size := (by omega); have hg5 : g < w5.heap.size := (by omega); have hg6 : g2 < w5.heap.size := (by omega))
                    have HMM := Lib.hid (HM5.out.mono hb5)
                    have HPM := Lib.hid (HP5.out.mono hb5)
                    have HBM := Lib.hid (bTrans HB5.out hb5)
                    have HSM := Lib.hid (HS5.out.mono hb5)
                    clear hb5
                    refine wp_region_quiet_below (by kernel_rfl) (by kernel_rfl) ?_
                    repeat (go_big_quiet_step (((go_at_call 206; exact Calls.regrown_of (rests_any _ _ _ _ S _ ok (HSM.out.mono (below_regrown _ _ _)) _ (d + 1 + m) (by omega) (by omega) (by omega))))))
                    refine wpQuiet_nil ?_
                    intro w6 hw6
                    have hb6 := below_of_regrown hw6
                    clear hw6
                    obtain ⟨bc6, bf6⟩ := bcell hb6
                    have hz6 := hb6.size
                    have hy6 : w.heap.size < w6.heap.size := (by omega)
                    have ho6 : 0 < w6.heap.size := (by omega)
                    have hg7 : g < w6.heap.size := (by omega)
                    have hg8 : g2 < w6.heap.size := (by omega)
                    have HM7 := Lib.hid (HMM.out.mono hb6)
                    have HP7 := Lib.hid (HPM.out.mono hb6)
                    have HB7 := Lib.hid (bTrans HBM.out hb6)
                    have HS7 := Lib.hid (HSM.out.mono hb6)
                    clear hb6 HMM HPM HBM HSM
                    go_wp2_with fail
                    have e1 : IntKind.i64.wrap (X.rings + 1) = X.rings + 1 := IntWalk.i64_in _ (by omega)
                    have e2 : IntKind.i64.wrap (X.pence + S.ringc (d + 1 + m)) = X.pence + S.ringc (d + 1 + m) := IntWalk.i64_in _ (by omega)
                    have i1 : (0 : Int) ≤ (d : Int) + 1 + m := by omega
                    have i2 : (d : Int) + 1 + m < (S.nf : Int) + 1 := by omega
                    have i3 : ((d : Int) + 1 + m).toNat = d + 1 + m := by omega
                    refine wp_region_new 18 19 12 75 198 #[.int .i64 0, .int .i64 0, .int .i64 0] (by kernel_rfl) (by kernel_rfl) (by rfl) (by rfl) (by rfl) (by rfl) (by rfl) (by rfl) (fun _ => by kernel_rfl) (by kernel_rfl) (by simp) ?_
                    repeat (first | (refine wpCalm_skip rfl ?_) | (refine wpCalm_step rfl (fun K hK => ?_); go_simp; (first | (refine hK _ ?_; clear hK K) | (apply Exists.intro; refine ⟨fun _ => ?_, hK _ ?_⟩; ((go_at_call 207; exact (ring_any _ _ _ _ S _ ok (HS7.out.mono (below_regrown _ _ _)) _ (d + 1 + m) (by omega) (by omega) (by omega)))); clear hK K))))
                    refine wpCalm_nil ?_
                    clear e1 e2 i1 i2 i3
                    refine ⟨#[.int .i64 (X.rings + 1), .int .i64 (X.pence + S.ringc (d + 1 + m)), .int .i64 ((d : Int) + 1 + m)], rfl, rfl, by simp [Value.oneCell'], ?_⟩
                    intro b w7 hb7 hbb hb2 hblk
                    have hbc : ∀ i, World.cell? w7 ⟨b, i, none⟩ = (#[.int .i64 (X.rings + 1), .int .i64 (X.pence + S.ringc (d + 1 + m)), .int .i64 ((d : Int) + 1 + m)] : Array Value)[i]? := fun i => cell_of_row w7 b i _ _ _ hblk
                    simp only [Act.put, List.setIfInBounds_toArray, List.set_cons_succ, List.set_cons_zero]
                    obtain ⟨bc7, bf7⟩ := bcell hb7
                    have hz7 := hb7.size
                    have hy7 : w.heap.size < w7.heap.size := (by omega)
                    have ho7 : 0 < w7.heap.size := (by omega)
                    have hg9 : g < w7.heap.size := (by omega)
                    have hg10 : g2 < w7.heap.size := (by omega)
                    have HM8 := Lib.hid (HM7.out.mono hb7)
                    have HP8 := Lib.hid (HP7.out.mono hb7)
                    have HB8 := Lib.hid (bTrans HB7.out hb7)
                    obtain ⟨q0, q1, q2, q3⟩ := HN.out.mono HB8.out
                    have m0 : w7.cell? ⟨g2, d * 3, none⟩ = some (.int .i64 Y.rings) := by rw [HY.out]; simpa using HM8.out.c0 d (by omega)
                    have m1 : w7.cell? ⟨g2, d * 3 + 1, none⟩ = some (.int .i64 Y.pence) := by rw [HY.out]; simpa using HM8.out.c1 d (by omega)
                    have m2 : w7.cell? ⟨g2, d * 3 + 2, none⟩ = some (.int .i64 Y.next) := by rw [HY.out]; simpa using HM8.out.c2 d (by omega)
                    have v0 : w7.cell? ⟨b, 0, none⟩ = some (.int .i64 (X.rings + 1)) := hbc 0
                    have v1 : w7.cell? ⟨b, 1, none⟩ = some (.int .i64 (X.pence + S.ringc (d + 1 + m))) := hbc 1
                    have v2 : w7.cell? ⟨b, 2, none⟩ = some (.int .i64 ((d : Int) + 1 + m)) := hbc 2
                    clear hb7 HM7 HP7 HB7 HS7 hbc hblk bc bf bc4 bf4 bc5 bf5 bc6 bf6 bc7 bf7 a0 a1 a2 b0 b1 b2 n0 n1 n2 n3 hs1 hr
                    clear HS HN HS5 HM5 HP5 HB5 x0 x1 x2 x3 x4 x5 y0 y1 y2 y3 y4 y5 rb0 rb1 hz4 hy4 hx4 hx5 hz5 hy5 ho5 hg5 hg6 hz6 hy6 ho6 hg7 hg8 hz7 hbb ho4
                    go_wp2_with fail
                    refine wp_region_quiet_below (by kernel_rfl) (by kernel_rfl) ?_
                    repeat (go_big_quiet_step (((go_at_call 136; exact Calls.regrown_of (cheaper_any ⟨X.rings + 1, X.pence + S.ringc (d + 1 + m), (d : Int) + 1 + m⟩ Y _)))))
                    refine wpQuiet_nil ?_
                    intro w8 hw8
                    have hb8 := below_of_regrown hw8
                    clear hw8
                    obtain ⟨bc8, bf8⟩ := bcell hb8
                    replace m0 := (bc8 _ _ hg10).trans m0
                    replace m1 := (bc8 _ _ hg10).trans m1
                    replace m2 := (bc8 _ _ hg10).trans m2
                    replace v0 := (bc8 _ _ hb2).trans v0
                    replace v1 := (bc8 _ _ hb2).trans v1
                    replace v2 := (bc8 _ _ hb2).trans v2
                    clear q0 q1 q2 q3 bc8 bf8
                    have hz8 := hb8.size
                    have hb9 : b < w8.heap.size := (by omega)
                    have hg11 : g2 < w8.heap.size := (by omega)
                    have HM9 := Lib.hid (HM8.out.mono hb8)
                    have HP9 := Lib.hid (HP8.out.mono hb8)
                    have HB9 := Lib.hid (bTrans HB8.out hb8)
                    have hfr := HM9.out.fr
                    clear hb8 HM8 HP8 HB8
                    go_wp2_with fail
                    go_roundw
                    case rel =>
                      first
                        | exact ⟨m + 1, by omega, by go_num, HM9.out.congr (fun j _ => by
                            by_cases e : j = d
                            · subst e; simp [HE.out, ← HY.out]
                            · simp [e]), HP9.out, HB9.out⟩
                        | exact ⟨m + 1, by omega, by go_num, (HM9.out.set (d := d) (by omega) ⟨X.rings + 1, X.pence + S.ringc (d + 1 + m), (d : Int) + 1 + m⟩).congr (fun j _ => by
                            by_cases e : j = d
                            · subst e; simp [HE.out, Sh.wayTo]
                            · simp [e]), ((HP9.out.other (fun e => hgg e.symm) _).other (fun e => hgg e.symm) _).other (fun e => hgg e.symm) _, ((HB9.out.setCell (by simp; omega) _).setCell (by simp; omega) _).setCell (by simp; omega) _⟩
                    case measure => simp [intOf]; omega
        · obtain rfl : d = S.nf := by omega
          go_wp2_with fail
          go_roundw
          case rel => exact ⟨k + 1, g2, c2, by omega, by go_num, rfl, hg3, by rw [← HQE.out]; exact HM.out.congr (fun j hj => by
            by_cases e : j < S.nf
            · rw [if_pos e]
            · rw [if_neg e, HQ.out j]; unfold Sh.moreWays; rw [if_neg e]), HB4.out⟩
          case measure => simp [intOf]; omega
    · obtain rfl : k = L := by omega
      go_wp2_with fail
      go_ret
      exact ⟨g, c, rfl, by omega, HW2.out, bTrans HB.out HB2.out⟩
end Go.Proofs.YthnojgdckkdcgaaGreatDoor


namespace Go.Proofs.YthnojgdckkdcgaaGreatDoor
open Go.RowKit Go.Sort
theorem intL_congr {g g' : Nat → Int} {n : Nat} (h : ∀ i, i < n → g i = g' i) : intL g n = intL g' n := by
  induction n with
  | zero => rfl
  | succ n ih => simp only [intL, ih (fun i hi => h i (by omega)), h n (by omega)]
theorem IntsAt.other {w : World} {A : Option Addr} {n : Nat} {g : Nat → Int} (h : IntsAt w A n g) {p : Addr} (hp : ∀ q, A = some q → q.block ≠ p.block) (v : Value) : IntsAt (w.setCell p v) A n g := by
  rcases h with h | ⟨b, o, rfl, hlt, hc⟩
  · exact .inl h
  · exact .inr ⟨b, o, rfl, by simpa [World.setCell] using hlt, fun i hi => (World.cell?_setCell_other _ _ _ _ (fun e => hp _ rfl (by rw [e]))).trans (hc i hi)⟩
theorem waysOf_next {S : Sh} (lt : Way → Way → Bool) : ∀ k d, d ≤ S.nf → 0 < (S.waysOf lt k d).next → (d : Int) < (S.waysOf lt k d).next ∧ (S.waysOf lt k d).next ≤ S.nf
  | 0, d, hd => by
    unfold Sh.waysOf
    split <;> simp [noWay]
  | k + 1, d, hd => by
    have ih := waysOf_next lt k d hd
    obtain ⟨b0, b1⟩ := S.falls_bd hd
    have key : ∀ m, d + m ≤ S.nf → 0 < (S.lookTo lt (S.waysOf lt k) d m).next → (d : Int) < (S.lookTo lt (S.waysOf lt k) d m).next ∧ (S.lookTo lt (S.waysOf lt k) d m).next ≤ S.nf := by
      intro m
      induction m with
      | zero => exact fun _ => ih
      | succ m im =>
        intro hm
        have im := im (by omega)
        simp only [Sh.lookTo, Sh.look]
        split
        · exact im
        · split
          · intro _; simp only [Sh.wayTo]; omega
          · exact im
    show 0 < (S.moreWays lt (S.waysOf lt k) d).next → (d : Int) < (S.moreWays lt (S.waysOf lt k) d).next ∧ (S.moreWays lt (S.waysOf lt k) d).next ≤ S.nf
    unfold Sh.moreWays
    split
    · exact key _ (by omega)
    · exact ih
/-- stops that follow the ways from depth 0 on -/
structure ChainTo (f : Nat → Way) (m : Nat) (g : Nat → Int) : Prop where
  step : ∀ i, i < m → g i = (f (stopAt g i)).next
  pos : ∀ i, i < m → 0 < g i
theorem stopAt_congr {g g' : Nat → Int} {m : Nat} (h : ∀ i, i < m → g i = g' i) : stopAt g m = stopAt g' m := by
  cases m with
  | zero => rfl
  | succ m => simp only [stopAt, h m (by omega)]
theorem ChainTo.more {f : Nat → Way} {m : Nat} {g : Nat → Int} (h : ChainTo f m g) (h0 : 0 < (f (stopAt g m)).next) : ChainTo f (m + 1) (fun i => if i = m then (f (stopAt g m)).next else g i) := by
  have hc : ∀ i, i < m → g i = (fun i => if i = m then (f (stopAt g m)).next else g i) i := fun i hi => by simp [show i ≠ m from by omega]
  refine ⟨fun i hi => ?_, fun i hi => ?_⟩
  · rw [← stopAt_congr (g := g) (g' := fun i => if i = m then (f (stopAt g m)).next else g i) (m := i) (fun j hj => hc j (by omega))]
    by_cases e : i = m
    · subst e; simp
    · simp only [if_neg e]; exact h.step i (by omega)
  · by_cases e : i = m
    · subst e; simpa using h0
    · simp only [if_neg e]; exact h.pos i (by omega)
/-- what best hands back -/
def Bested (w w' : World) (f : Nat → Way) (n : Nat) (e : Ending) : Prop :=
  Below w.heap.size w w' ∧ ((f 0 = noWay ∧ e = .returned (.tuple #[.agg #[.int .i64 (-1), .int .i64 0, .int .i64 0], .slice none 0 0, .bool false])) ∨
    (f 0 ≠ noWay ∧ ∃ A m c g, e = .returned (.tuple #[.agg #[.int .i64 (f 0).rings, .int .i64 (f 0).pence, .int .i64 (f 0).next], .slice A m c, .bool true]) ∧ m ≤ n ∧ ChainTo f m g ∧ ¬ 0 < (f (stopAt g m)).next ∧ IntsAt w' A m g ∧ ∀ p, A = some p → w.heap.size ≤ p.block))
end Go.Proofs.YthnojgdckkdcgaaGreatDoor


namespace Go.Proofs.YthnojgdckkdcgaaGreatDoor
open Go.RowKit Go.Sort
set_option maxHeartbeats 8000000 in
set_option maxRecDepth 100000 in
theorem best_cheaper (Ar Af : Option Addr) (cr cf : Nat) (S : Sh) (w : World) (ok : S.Ok) (hS : ShAt w Ar Af S) (hN : NoneAt w) (M : Nat) (hM : M ≤ 12) :
    Calls Tryz.prog 167 #[.agg #[.slice Ar S.nr cr, .slice Af S.nf cf, .int .i64 S.deep, .int .i64 S.haul, .int .i64 S.rest], .func (.func 136) #[] #[], .int .i64 M] w fun e w' => Bested w w' (S.waysOf ltP (min M S.nf)) S.nf e := by
  have hb0 := bAlloc (bAlloc (Below.refl w.heap.size w) (.cells #[.slice Ar S.nr cr, .slice Af S.nf cf, .int .i64 S.deep, .int .i64 S.haul, .int .i64 S.rest] 150)) (.cells #[.int .i64 0, .int .i64 0, .int .i64 0] 198)
  have HS := Lib.hid (hS.mono hb0)
  have HN := Lib.hid (hN.mono hb0)
  have HB := Lib.hid hb0
  obtain ⟨n0, n1, n2, n3⟩ := hN
  clear hS hb0
  have hnf := ok.nf
  have HNX := Lib.hid (waysOf_next (S := S) ltP (min M S.nf))
  generalize hf : S.waysOf ltP (min M S.nf) = f at HNX
  have HF := Lib.hid hf
  clear hf
  obtain ⟨i0, hi, iz0, iz1, iz2⟩ := info_parts infoInt
  by_cases hno : f 0 = noWay
  all_goals
    have HNO := Lib.hid hno
    clear hno
    go_enter Tryz.func167, Tryz.ntmps167
    go_wp2_with (go_at_call 194; refine (ways_cheaper _ _ _ _ S _ ok HS.out HN.out M hM).mono ?_; rintro e w1 ⟨g1, c1, rfl, hg1, hW1, hb1⟩; rw [HF.out] at hW1; obtain ⟨bc1, bf1⟩ := bcell hb1; have hz1 := hb1.size; simp only [World.size_alloc] at hz1; have hy1 : w.heap.size + 1 < w1.heap.size := (by omega))
    have hglt := hW1.lt
    have k0 := hW1.c0 0 (by omega)
    have k1 := hW1.c1 0 (by omega)
    have k2 := hW1.c2 0 (by omega)
    have ho1 : 0 < w1.heap.size := (by omega)
    simp only [Nat.zero_mul, Nat.zero_add] at k0 k1 k2
    have HW1 := Lib.hid hW1
    have HB1 := Lib.hid hb1
    clear hW1 hb1
  · have hs := sameWay_t _ HNO.out
    rw [HNO.out] at hs k0 k1 k2
    simp only [noWay] at hs k0 k1 k2
    refine wp_region_quiet_below (by kernel_rfl) (by kernel_rfl) ?_
    repeat (go_big_quiet_step ((fail)))
    refine wpQuiet_nil ?_
    intro w2 hw2
    have hb2 := below_of_regrown hw2
    clear hw2
    obtain ⟨bc2, bf2⟩ := bcell hb2
    have hz2 := hb2.size
    have hy2 : w.heap.size + 1 < w2.heap.size := by omega
    have ho2 : 0 < w2.heap.size := by omega
    go_wp2_with fail
    have hb1 := HB1.out
    exact bodyPost_ret (v := .tuple #[.agg #[.int .i64 (-1), .int .i64 0, .int .i64 0], .slice none 0 0, .bool false]) (by simp [results, Tryz.results167, go_sem, *]) rfl ⟨by (repeat (first | (with_reducible exact Below.refl _ _) | (with_reducible refine bAlloc ?_ _) | (with_reducible refine bDrew ?_) | (with_reducible refine bGrow ?_ _ _) | (with_reducible refine bSet ?_ ?_ _; (first | exact Nat.le_refl _ | exact Nat.le_add_right _ _ | (simp; omega))) | (with_reducible refine bTrans ?_ (by assumption)))), .inl ⟨HNO.out, rfl⟩⟩
  · have hs := sameWay_f _ HNO.out
    refine wp_region_quiet_below (by kernel_rfl) (by kernel_rfl) ?_
    repeat (go_big_quiet_step ((fail)))
    refine wpQuiet_nil ?_
    intro w2 hw2
    have hb2 := below_of_regrown hw2
    clear hw2
    go_wp2_with fail
    have HW2 := Lib.hid (HW1.out.mono hb2)
    have HB2 := Lib.hid (bTrans HB1.out hb2)
    have hz2 := hb2.size
    clear HW1 HB1 hb2 k0 k1 k2 hglt
    go_loopw [10, 11] (fun v i wr => ∃ m g, i = .int .i64 (stopAt g m : Nat) ∧ stopAt g m ≤ S.nf ∧ m ≤ stopAt g m ∧ ChainTo f m g ∧ wr.ownsRow w2.heap.size 3 1 v m (intL g m) ∧ Below w2.heap.size w2 wr) (fun _ i _ => S.nf - (intOf i).toNat)
    case atStart => exact ⟨0, fun _ => 0, rfl, Nat.zero_le _, Nat.le_refl _, ⟨fun i hi => by omega, fun i hi => by omega⟩, World.ownsRow_nil _ _ _ _, Below.refl _ _⟩
    case round =>
      obtain ⟨m, g, rfl, hm1, hm2, hch, hown, hB⟩ := hrel
      have HW3 := Lib.hid (HW2.out.mono hB)
      have k2 := HW3.out.c2 (stopAt g m) (by omega)
      have k0 := HW3.out.c0 0 (by omega)
      have k1 := HW3.out.c1 0 (by omega)
      have k3 := HW3.out.c2 0 (by omega)
      simp only [Nat.zero_mul, Nat.zero_add] at k0 k1 k3
      have hglt := HW3.out.lt
      have HC := Lib.hid hch
      have HO := Lib.hid hown
      have HB3 := Lib.hid hB
      clear hch hown
      have hz3 := hB.size
      obtain ⟨bc3, bf3⟩ := bcell (bTrans HB2.out hB)
      clear hB
      by_cases hpos : 0 < (f (stopAt g m)).next
      · obtain ⟨p0, p1⟩ := HNX.out (stopAt g m) hm1 hpos
        obtain ⟨nx, hnx⟩ : ∃ nx : Nat, (f (stopAt g m)).next = nx := ⟨((f (stopAt g m)).next).toNat, by omega⟩
        have HNXT := Lib.hid hnx
        rw [hnx] at k2 p0 p1 hpos
        clear hnx bc3 bf3
        go_wp2_with (at_builtin; refine wpList_append_own _ rfl _ _ 34 rfl w2.heap.size 3 i0 (.int .i64 0) 1 8 Tryz.underlying34 hi iz0 iz1 iz2 rfl (by decide) _ _ _ rfl (HO.out.alloc _) ⟨wr.heap.size, 0, none⟩ 1 1 [.int .i64 (nx : Int)] rfl rfl ?qc2 ?qc3 ?qc4 ?qc5 ?qc6 ?_)
        case qc2 =>
          intro j u hj
          match j, hj with
          | 0, hj => simp at hj; subst hj; simp [Addr.add]
        case qc3 => intro u hu; simp at hu; subst hu; rfl
        case qc4 => unfold maxLen; omega
        case qc5 => omega
        case qc6 => simp; omega
        intro v' w4 hown4 hgrow _
        have HB4 := Lib.hid (((HB3.out.alloc HB3.out.size _).grown hgrow (by simp; omega) (fun k hk => (HO.out.lt k hk).1)))
        have HW4 := Lib.hid (HW2.out.mono HB4.out)
        have k4 := HW4.out.c2 (stopAt g m) (by omega)
        rw [HNXT.out] at k4
        have HO4 := Lib.hid hown4
        clear hown4 hgrow k0 k1 k2 k3
        go_wp2_with fail
        go_roundw
        case rel =>
          have hc : ∀ i, i < m → (fun i => if i = m then (f (stopAt g m)).next else g i) i = g i := fun i hi => by simp [show i ≠ m from by omega]
          have hl : intL (fun i => if i = m then (f (stopAt g m)).next else g i) (m + 1) = intL g m ++ [.int .i64 (nx : Int)] := by
            simp only [intL]; rw [intL_congr hc]; simp [HNXT.out]
          have hs : stopAt (fun i => if i = m then (f (stopAt g m)).next else g i) (m + 1) = nx := by
            show (if m = m then (f (stopAt g m)).next else g m).toNat = nx
            rw [if_pos rfl, HNXT.out]; rfl
          refine ⟨m + 1, fun i => if i = m then (f (stopAt g m)).next else g i, ?_, ?_, ?_, HC.out.more (by rw [HNXT.out]; exact hpos), ?_, HB4.out⟩
          · rw [hs]
          · rw [hs]; omega
          · rw [hs]; omega
          · rw [hl]; exact HO4.out
        case measure => simp [intOf]; omega
      · go_wp2_with fail
        obtain ⟨A, c, hv, hI, hblk⟩ := intsAt_own HO.out
        subst hv
        have hb1 := bTrans (bTrans HB.out HB2.out) HB3.out
        have HII := Lib.hid hI
        have hoth : ∀ q, A = some q → q.block ≠ w.heap.size + 1 := fun q hq => by have := hblk q hq; omega
        have HOT := Lib.hid hoth
        have HBK := Lib.hid (fun p (hp : A = some p) => (show w.heap.size ≤ p.block from by have := hblk p hp; omega))
        clear hI hblk hoth
        refine bodyPost_ret (v := .tuple #[.agg #[.int .i64 (f 0).rings, .int .i64 (f 0).pence, .int .i64 (f 0).next], .slice A m c, .bool true]) (by simp [results, Tryz.results167, go_sem, *]) rfl ⟨by (repeat (first | (with_reducible exact Below.refl _ _) | (with_reducible refine bAlloc ?_ _) | (with_reducible refine bDrew ?_) | (with_reducible refine bGrow ?_ _ _) | (with_reducible refine bSet ?_ ?_ _; (first | exact Nat.le_refl _ | exact Nat.le_add_right _ _ | (simp; omega))) | (with_reducible refine bTrans ?_ (by assumption)))), .inr ⟨HNO.out, A, m, c, g, rfl, by omega, HC.out, by omega, ?_, HBK.out⟩⟩
        exact ((HII.out.other HOT.out _).other HOT.out _).other HOT.out _
end Go.Proofs.YthnojgdckkdcgaaGreatDoor


namespace Go.Proofs.YthnojgdckkdcgaaGreatDoor
open Go.RowKit Go.Sort
/-- what find hands back -/
def Sought (w w' : World) (Ar Af : Option Addr) (cr cf : Nat) (S : Sh) (f : Nat → Way) (e : Ending) : Prop :=
  Below w.heap.size w w' ∧ ((¬ S.Ok ∧ e = .returned (.tuple #[.agg #[.slice none 0 0, .slice none 0 0, .int .i64 0, .int .i64 0, .int .i64 0], .agg #[.int .i64 (-1), .int .i64 0, .int .i64 0], .slice none 0 0, .int .i64 20])) ∨
    (S.Ok ∧ f 0 = noWay ∧ e = .returned (.tuple #[.agg #[.slice none 0 0, .slice none 0 0, .int .i64 0, .int .i64 0, .int .i64 0], .agg #[.int .i64 (-1), .int .i64 0, .int .i64 0], .slice none 0 0, .int .i64 3])) ∨
    (S.Ok ∧ f 0 ≠ noWay ∧ ∃ A m c g, e = .returned (.tuple #[.agg #[.slice Ar S.nr cr, .slice Af S.nf cf, .int .i64 S.deep, .int .i64 S.haul, .int .i64 S.rest], .agg #[.int .i64 (f 0).rings, .int .i64 (f 0).pence, .int .i64 (f 0).next], .slice A m c, .int .i64 0]) ∧ m ≤ S.nf ∧ ChainTo f m g ∧ ¬ 0 < (f (stopAt g m)).next ∧ IntsAt w' A m g ∧ ∀ p, A = some p → w.heap.size ≤ p.block))
end Go.Proofs.YthnojgdckkdcgaaGreatDoor


namespace Go.Proofs.YthnojgdckkdcgaaGreatDoor
open Go.RowKit Go.Sort
set_option maxHeartbeats 8000000 in
set_option maxRecDepth 100000 in
theorem find_cheaper (Ar Af : Option Addr) (cr cf : Nat) (S : Sh) (w : World) (hr : S.nr ≤ 9223372036854775807) (hf : S.nf ≤ 9223372036854775807) (hS : ShAt w Ar Af S) (hN : NoneAt w) :
    Calls Tryz.prog 135 #[.agg #[.slice Ar S.nr cr, .slice Af S.nf cf, .int .i64 S.deep, .int .i64 S.haul, .int .i64 S.rest], .func (.func 136) #[] #[]] w fun e w' => Sought w w' Ar Af cr cf S (S.waysOf ltP S.nf) e := by
  have hb0 := bAlloc (bAlloc (bAlloc (Below.refl w.heap.size w) (.cells #[.slice Ar S.nr cr, .slice Af S.nf cf, .int .i64 S.deep, .int .i64 S.haul, .int .i64 S.rest] 68)) (.cells #[.slice none 0 0, .slice none 0 0, .int .i64 0, .int .i64 0, .int .i64 0] 150)) (.cells #[.int .i64 0, .int .i64 0, .int .i64 0] 198)
  have HS := Lib.hid (hS.mono hb0)
  have HN := Lib.hid (hN.mono hb0)
  have HB := Lib.hid hb0
  obtain ⟨n0, n1, n2, n3⟩ := hN
  clear hS hb0
  by_cases hok : S.Ok
  · have hnf := hok.nf
    have hm : min 12 S.nf = S.nf := by omega
    generalize hff : S.waysOf ltP S.nf = f
    have HF := Lib.hid hff
    have HM := Lib.hid hm
    clear hff hm
    go_enter Tryz.func135, Tryz.ntmps135
    go_wp2_with (first | (go_at_call 94; refine (open_yes _ _ _ _ S _ hok HS.out).mono ?_; rintro e w1 ⟨rfl, hb1⟩; obtain ⟨bc1, bf1⟩ := bcell hb1; have hz1 := hb1.size; simp only [World.size_alloc] at hz1; have hy1 : w.heap.size + 2 < w1.heap.size := (by omega); have hx1 : w.heap.size + 1 < w1.heap.size := (by omega); have hw1 : w.heap.size < w1.heap.size := (by omega); have ho1 : 0 < w1.heap.size := (by omega); have HS1 := Lib.hid (HS.out.mono hb1); have HN1 := Lib.hid (HN.out.mono hb1)) | (go_at_call 167; refine (best_cheaper _ _ _ _ S _ hok (HS1.out.mono (bAlloc (Below.refl _ _) _)) (HN1.out.mono (bAlloc (Below.refl _ _) _)) 12 (Nat.le_refl _)).mono ?_; rintro e w2 ⟨hb2, h2⟩; rw [HM.out, HF.out] at h2; obtain ⟨bc2, bf2⟩ := bcell hb2; have hz2 := hb2.size; simp only [World.size_alloc] at hz2; have hy2 : w.heap.size + 2 < w2.heap.size := (by omega); have hx2 : w.heap.size + 1 < w2.heap.size := (by omega); have hv2 : w1.heap.size < w2.heap.size := (by omega); have ho2 : 0 < w2.heap.size := (by omega); rcases h2 with ⟨h20, rfl⟩ | ⟨h20, A, m, c, g, rfl, hmn, hch, hend, hI, hblk⟩))
    · go_region
      go_wp2_with fail
      exact bodyPost_ret (v := .tuple #[.agg #[.slice none 0 0, .slice none 0 0, .int .i64 0, .int .i64 0, .int .i64 0], .agg #[.int .i64 (-1), .int .i64 0, .int .i64 0], .slice none 0 0, .int .i64 3]) (by simp [results, Tryz.results135, go_sem, *]) rfl ⟨by (repeat (first | (with_reducible exact Below.refl _ _) | (with_reducible refine bAlloc ?_ _) | (with_reducible refine bDrew ?_) | (with_reducible refine bGrow ?_ _ _) | (with_reducible refine bSet ?_ ?_ _; (first | exact Nat.le_refl _ | exact Nat.le_add_right _ _ | (simp; omega))) | (with_reducible refine bTrans ?_ (by assumption)))), .inr (.inl ⟨hok, h20, rfl⟩)⟩
    · have HI := Lib.hid hI
      have h1 : ∀ q, A = some q → q.block ≠ w.heap.size + 1 := fun q hq => by have := hblk q hq; simp only [World.size_alloc] at this; omega
      have h2 : ∀ q, A = some q → q.block ≠ w.heap.size + 1 + 1 := fun q hq => by have := hblk q hq; simp only [World.size_alloc] at this; omega
      have HK := Lib.hid (fun p (hp : A = some p) => (show w.heap.size ≤ p.block from by have := hblk p hp; simp only [World.size_alloc] at this; omega))
      have H1 := Lib.hid h1
      have H2 := Lib.hid h2
      clear hI hblk h1 h2
      go_region
      go_wp2_with fail
      refine bodyPost_ret (v := .tuple #[.agg #[.slice Ar S.nr cr, .slice Af S.nf cf, .int .i64 S.deep, .int .i64 S.haul, .int .i64 S.rest], .agg #[.int .i64 (f 0).rings, .int .i64 (f 0).pence, .int .i64 (f 0).next], .slice A m c, .int .i64 0]) (by simp [results, Tryz.results135, go_sem, *]) rfl ⟨by (repeat (first | (with_reducible exact Below.refl _ _) | (with_reducible refine bAlloc ?_ _) | (with_reducible refine bDrew ?_) | (with_reducible refine bGrow ?_ _ _) | (with_reducible refine bSet ?_ ?_ _; (first | exact Nat.le_refl _ | exact Nat.le_add_right _ _ | (simp; omega))) | (with_reducible refine bTrans ?_ (by assumption)))), .inr (.inr ⟨hok, h20, A, m, c, g, rfl, hmn, hch, by omega, ?_, HK.out⟩)⟩
      refine IntsAt.drew (IntsAt.alloc ?_ _)
      exact ((((((((HI.out.other (p := ⟨w.heap.size + 1, 0, none⟩) H1.out _).other (p := ⟨w.heap.size + 1, 1, none⟩) H1.out _).other (p := ⟨w.heap.size + 1, 2, none⟩) H1.out _).other (p := ⟨w.heap.size + 1, 3, none⟩) H1.out _).other (p := ⟨w.heap.size + 1, 4, none⟩) H1.out _).other (p := ⟨w.heap.size + 1 + 1, 0, none⟩) H2.out _).other (p := ⟨w.heap.size + 1 + 1, 1, none⟩) H2.out _).other (p := ⟨w.heap.size + 1 + 1, 2, none⟩) H2.out _)
  · go_enter Tryz.func135, Tryz.ntmps135
    go_wp2_with (go_at_call 94; refine (open_no _ _ _ _ S _ _ hr hf HS.out 20 (.inl ⟨hok, rfl⟩)).mono ?_; rintro e w1 ⟨rfl, hb1⟩; obtain ⟨bc1, bf1⟩ := bcell hb1; have hz1 := hb1.size; simp only [World.size_alloc] at hz1; have hy1 : w.heap.size + 2 < w1.heap.size := (by omega); have hx1 : w.heap.size + 1 < w1.heap.size := (by omega); have hw1 : w.heap.size < w1.heap.size := (by omega); have ho1 : 0 < w1.heap.size := (by omega))
    go_region
    go_wp2_with fail
    exact bodyPost_ret (v := .tuple #[.agg #[.slice none 0 0, .slice none 0 0, .int .i64 0, .int .i64 0, .int .i64 0], .agg #[.int .i64 (-1), .int .i64 0, .int .i64 0], .slice none 0 0, .int .i64 20]) (by simp [results, Tryz.results135, go_sem, *]) rfl ⟨by (repeat (first | (with_reducible exact Below.refl _ _) | (with_reducible refine bAlloc ?_ _) | (with_reducible refine bDrew ?_) | (with_reducible refine bGrow ?_ _ _) | (with_reducible refine bSet ?_ ?_ _; (first | exact Nat.le_refl _ | exact Nat.le_add_right _ _ | (simp; omega))) | (with_reducible refine bTrans ?_ (by assumption)))), .inl ⟨hok, rfl⟩⟩
end Go.Proofs.YthnojgdckkdcgaaGreatDoor


namespace Go.Proofs.YthnojgdckkdcgaaGreatDoor
open Go.RowKit Go.Sort
open Classical in
noncomputable def Sh.cheapOut (S : Sh) : Int × Int := if ¬ S.Ok then (0, 20) else if S.waysOf ltP S.nf 0 = noWay then (0, 3) else (sumTo S.price S.nf + (S.waysOf ltP S.nf 0).pence, 0)
theorem cheapOut_bad {S : Sh} (h : ¬ S.Ok) : S.cheapOut = (0, 20) := if_pos h
theorem cheapOut_none {S : Sh} (h : S.Ok) (h2 : S.waysOf ltP S.nf 0 = noWay) : S.cheapOut = (0, 3) := by unfold Sh.cheapOut; rw [if_neg (not_not_intro h), if_pos h2]
theorem cheapOut_some {S : Sh} (h : S.Ok) (h2 : S.waysOf ltP S.nf 0 ≠ noWay) : S.cheapOut = (sumTo S.price S.nf + (S.waysOf ltP S.nf 0).pence, 0) := by unfold Sh.cheapOut; rw [if_neg (not_not_intro h), if_neg h2]
theorem pence_bd {S : Sh} (ok : S.Ok) (lt : Way → Way → Bool) (k : Nat) (hk : k ≤ 12) : 0 ≤ (S.waysOf lt k 0).pence ∧ (S.waysOf lt k 0).pence ≤ 2484 := by
  have := waysOf_in ok lt k 0 (Nat.zero_le _)
  have h1 := this.p0
  have h2 := this.p1
  omega
set_option maxHeartbeats 4000000 in
set_option maxRecDepth 100000 in
theorem Cheap_any (Ar Af : Option Addr) (cr cf : Nat) (S : Sh) (w : World) (hr : S.nr ≤ 9223372036854775807) (hf : S.nf ≤ 9223372036854775807) (hS : ShAt w Ar Af S) (hN : NoneAt w) :
    Calls Tryz.prog 91 #[.agg #[.slice Ar S.nr cr, .slice Af S.nf cf, .int .i64 S.deep, .int .i64 S.haul, .int .i64 S.rest]] w fun e w' => e = .returned (.tuple #[.int .i64 S.cheapOut.1, .int .i64 S.cheapOut.2]) ∧ Below w.heap.size w w' := by
  have hb0 := bAlloc (Below.refl w.heap.size w) (.cells #[.slice Ar S.nr cr, .slice Af S.nf cf, .int .i64 S.deep, .int .i64 S.haul, .int .i64 S.rest] 68)
  have HS := Lib.hid (hS.mono hb0)
  have HN := Lib.hid (hN.mono hb0)
  have HB := Lib.hid hb0
  clear hS hb0 hN
  go_enter Tryz.func91, Tryz.ntmps91
  go_wp2_with (go_at_call 135; refine (find_cheaper _ _ _ _ S _ hr hf HS.out HN.out).mono ?_; rintro e w1 ⟨hb1, h1⟩; have hz1 := hb1.size; simp only [World.size_alloc] at hz1; have hy1 : w.heap.size < w1.heap.size := (by omega); have HS1 := Lib.hid (HS.out.mono hb1); rcases h1 with ⟨hok, rfl⟩ | ⟨hok, h2, rfl⟩ | ⟨hok, h2, A, m, c, g, rfl, hmn, hch, hend, hI, hblk⟩)
  · go_ret2
    exact ⟨by rw [cheapOut_bad hok]; rfl, by (repeat (first | (with_reducible exact Below.refl _ _) | (with_reducible refine bAlloc ?_ _) | (with_reducible refine bDrew ?_) | (with_reducible refine bGrow ?_ _ _) | (with_reducible refine bSet ?_ ?_ _; (first | exact Nat.le_refl _ | exact Nat.le_add_right _ _ | (simp; omega))) | (with_reducible refine bTrans ?_ (by assumption))))⟩
  · go_ret2
    exact ⟨by rw [cheapOut_none hok h2]; rfl, by (repeat (first | (with_reducible exact Below.refl _ _) | (with_reducible refine bAlloc ?_ _) | (with_reducible refine bDrew ?_) | (with_reducible refine bGrow ?_ _ _) | (with_reducible refine bSet ?_ ?_ _; (first | exact Nat.le_refl _ | exact Nat.le_add_right _ _ | (simp; omega))) | (with_reducible refine bTrans ?_ (by assumption))))⟩
  · clear hI hblk hch hend
    have hnf := hok.nf
    obtain ⟨p0, p1⟩ := pence_bd hok ltP S.nf hnf
    obtain ⟨y0, y1, y2, y3⟩ := digs_bd hok (k := S.nf) (Nat.le_refl _)
    have HE := Lib.hid (cheapOut_some hok h2)
    have e1 : IntKind.i64.wrap (sumTo S.price S.nf + (S.waysOf ltP S.nf 0).pence) = sumTo S.price S.nf + (S.waysOf ltP S.nf 0).pence := IntWalk.i64_in _ (by omega)
    clear h2
    refine wp_region_quiet_below (by kernel_rfl) (by kernel_rfl) ?_
    repeat (go_big_quiet_step ((go_at_call 137; exact Calls.regrown_of (digging_any _ _ _ _ S _ hok ((((HS1.out.mono (bAlloc (Below.refl _ _) _)).mono (bAlloc (Below.refl _ _) _))).mono (below_regrown _ _ _))))))
    refine wpQuiet_nil ?_
    clear e1
    intro w3 hw3
    have hb3 := below_of_regrown hw3
    clear hw3
    go_wp2_with fail
    go_ret2
    exact ⟨by rw [HE.out]; rfl, by (repeat (first | (with_reducible exact Below.refl _ _) | (with_reducible refine bAlloc ?_ _) | (with_reducible refine bDrew ?_) | (with_reducible refine bGrow ?_ _ _) | (with_reducible refine bSet ?_ ?_ _; (first | exact Nat.le_refl _ | exact Nat.le_add_right _ _ | (simp; omega))) | (with_reducible refine bTrans ?_ (by assumption))))⟩
end Go.Proofs.YthnojgdckkdcgaaGreatDoor


namespace Go.Proofs.YthnojgdckkdcgaaGreatDoor
open Go.RowKit Go.Sort
end Go.Proofs.YthnojgdckkdcgaaGreatDoor


namespace Go.Proofs.YthnojgdckkdcgaaGreatDoor
open Go.RowKit Go.Sort
end Go.Proofs.YthnojgdckkdcgaaGreatDoor


namespace Go.Proofs.YthnojgdckkdcgaaGreatDoor
open Go.RowKit Go.Sort
section
variable {P : Program} {ops : Array Oper} {md : Region.Mode}
attribute [go_sem] Oper.heldAt Oper.heldUpon newer_refl depsP
end
end Go.Proofs.YthnojgdckkdcgaaGreatDoor


namespace Go.Proofs.YthnojgdckkdcgaaGreatDoor
open Go.RowKit Go.Sort
end Go.Proofs.YthnojgdckkdcgaaGreatDoor


namespace Go.Proofs.YthnojgdckkdcgaaGreatDoor
open Go.RowKit Go.Sort
def rockL (f : Nat → Rock) : Nat → List Value
  | 0 => []
  | n + 1 => rockL f n ++ [.int .i64 (f n).hours, .int .i64 (f n).pence, .int .i64 (f n).stand, .int .i64 (f n).seat]
theorem rockL_len (f : Nat → Rock) (n : Nat) : (rockL f n).length = n * 4 := by
  induction n with
  | zero => rfl
  | succ n ih => simp only [rockL, List.length_append, ih, List.length_cons, List.length_nil]; omega
theorem rockL_get (f : Nat → Rock) {n i : Nat} (h : i < n) : (rockL f n)[i * 4]? = some (.int .i64 (f i).hours) ∧ (rockL f n)[i * 4 + 1]? = some (.int .i64 (f i).pence) ∧ (rockL f n)[i * 4 + 2]? = some (.int .i64 (f i).stand) ∧ (rockL f n)[i * 4 + 3]? = some (.int .i64 (f i).seat) := by
  induction n with
  | zero => omega
  | succ n ih =>
    have hl := rockL_len f n
    rcases Nat.lt_or_ge i n with h1 | h1
    · obtain ⟨a, b, c, d⟩ := ih h1
      simp only [rockL]
      refine ⟨?_, ?_, ?_, ?_⟩ <;> rw [List.getElem?_append_left (by omega)] <;> assumption
    · obtain rfl : i = n := by omega
      simp only [rockL]
      refine ⟨?_, ?_, ?_, ?_⟩ <;> rw [List.getElem?_append_right (by omega), hl] <;> simp
theorem rockL_inv (f : Nat → Rock) {n j : Nat} {v : Value} (h : (rockL f n)[j]? = some v) : ∃ i, i < n ∧ ((j = i * 4 ∧ v = .int .i64 (f i).hours) ∨ (j = i * 4 + 1 ∧ v = .int .i64 (f i).pence) ∨ (j = i * 4 + 2 ∧ v = .int .i64 (f i).stand) ∨ (j = i * 4 + 3 ∧ v = .int .i64 (f i).seat)) := by
  have hj : j < n * 4 := by
    have := (List.getElem?_eq_some_iff.1 h).1
    rwa [rockL_len] at this
  obtain ⟨a, b, c, d⟩ := rockL_get f (n := n) (i := j / 4) (by omega)
  refine ⟨j / 4, by omega, ?_⟩
  rcases (by omega : j = j / 4 * 4 ∨ j = j / 4 * 4 + 1 ∨ j = j / 4 * 4 + 2 ∨ j = j / 4 * 4 + 3) with e | e | e | e
  · rw [← e, h] at a; exact .inl ⟨e, by simpa using a⟩
  · rw [← e, h] at b; exact .inr (.inl ⟨e, by simpa using b⟩)
  · rw [← e, h] at c; exact .inr (.inr (.inl ⟨e, by simpa using c⟩))
  · rw [← e, h] at d; exact .inr (.inr (.inr ⟨e, by simpa using d⟩))
theorem rocksAt_row {w : World} {A : Option Addr} {n : Nat} {f : Nat → Rock} : RocksAt w A n f ↔ RowAt w A (rockL f n) := by
  constructor
  · rintro (rfl | ⟨b, o, rfl, hlt, hc⟩)
    · exact .inl rfl
    · refine .inr ⟨b, o, rfl, hlt, fun j v hj => ?_⟩
      obtain ⟨i, hi, h⟩ := rockL_inv f hj
      obtain ⟨c0, c1, c2, c3⟩ := hc i hi
      rcases h with ⟨rfl, rfl⟩ | ⟨rfl, rfl⟩ | ⟨rfl, rfl⟩ | ⟨rfl, rfl⟩
      · exact c0
      · exact c1
      · exact c2
      · exact c3
  · rintro (h | ⟨b, o, rfl, hlt, hc⟩)
    · left
      have := congrArg List.length h
      rw [rockL_len] at this
      simp at this; omega
    · refine .inr ⟨b, o, rfl, hlt, fun i hi => ?_⟩
      obtain ⟨a0, a1, a2, a3⟩ := rockL_get f hi
      exact ⟨hc _ _ a0, hc _ _ a1, hc _ _ a2, hc _ _ a3⟩
end Go.Proofs.YthnojgdckkdcgaaGreatDoor


namespace Go.Proofs.YthnojgdckkdcgaaGreatDoor
open Go.RowKit Go.Sort
theorem cheapOut_bd {S : Sh} (ok : S.Ok) : 0 ≤ S.cheapOut.1 ∧ S.cheapOut.1 ≤ 4968 := by
  obtain ⟨y0, y1, _, _⟩ := digs_bd ok (k := S.nf) (Nat.le_refl _)
  obtain ⟨p0, p1⟩ := pence_bd ok ltP S.nf ok.nf
  by_cases h : S.waysOf ltP S.nf 0 = noWay
  · rw [cheapOut_none ok h]; exact ⟨Int.le_refl 0, by decide⟩
  · rw [cheapOut_some ok h]
    show 0 ≤ sumTo S.price S.nf + (S.waysOf ltP S.nf 0).pence ∧ sumTo S.price S.nf + (S.waysOf ltP S.nf 0).pence ≤ 4968
    omega
end Go.Proofs.YthnojgdckkdcgaaGreatDoor


namespace Go.Proofs.YthnojgdckkdcgaaGreatDoor
open Go.RowKit Go.Sort
theorem infoRock : (Tryz.prog.info? 190).map (fun i => (i.zero, i.size, i.bytes)) = some (some (.agg #[.int .i64 0, .int .i64 0, .int .i64 0, .int .i64 0]), 4, 32) := by kernel_rfl
end Go.Proofs.YthnojgdckkdcgaaGreatDoor


namespace Go.Proofs.YthnojgdckkdcgaaGreatDoor
open Go.RowKit Go.Sort
theorem TyB.set {w : World} {b : Nat} {t : TypeId} (h : ∃ cs, TBox w b t cs) (c o : Nat) (u : Value) : ∃ cs, TBox (w.setCell ⟨c, o, none⟩ u) b t cs := by
  obtain ⟨cs, h⟩ := h
  rcases Nat.decEq b c with e | e
  · exact ⟨cs, (Below.heap_setCell w ⟨c, o, none⟩ u b e).trans h⟩
  · subst e; exact ⟨_, h.set o u⟩
theorem owns_setTy {w : World} {base : Nat} {e t : TypeId} {size n : Nat} {v : Value} {xs : List Value} (h : w.ownsRow base e size v n xs) {b : Nat} (hb : ∃ cs, TBox w b t cs) (ht : t ≠ e) (o : Nat) (u : Value) : (w.setCell ⟨b, o, none⟩ u).ownsRow base e size v n xs := by
  obtain ⟨cs, hb⟩ := hb
  exact owns_setT h hb ht o u
def ShOwn (w : World) (base : Nat) (S : Sh) (e : Ending) : Prop :=
  ∃ gr gf cr cf, e = .returned (.agg #[.slice (some ⟨gr, 0, none⟩) S.nr cr, .slice (some ⟨gf, 0, none⟩) S.nf cf, .int .i64 S.deep, .int .i64 S.haul, .int .i64 S.rest]) ∧ w.ownsRow base 190 4 (.slice (some ⟨gr, 0, none⟩) S.nr cr) S.nr (rockL S.rock S.nr) ∧ w.ownsRow base 3 1 (.slice (some ⟨gf, 0, none⟩) S.nf cf) S.nf (intL S.foot S.nf)
set_option maxHeartbeats 4000000 in
set_option maxRecDepth 100000 in
theorem copySh_any (Ar Af : Option Addr) (cr cf : Nat) (S : Sh) (w : World) (hr : S.nr * 32 ≤ 140737488351232) (hf : S.nf * 8 ≤ 140737488351232) (hS : ShAt w Ar Af S) :
    Calls Tryz.prog 93 #[.agg #[.slice Ar S.nr cr, .slice Af S.nf cf, .int .i64 S.deep, .int .i64 S.haul, .int .i64 S.rest]] w fun e w' => ShOwn w' w.heap.size S e ∧ Below w.heap.size w w' := by
  have HS0 := Lib.hid hS
  clear hS
  go_enter Tryz.func93, Tryz.ntmps93
  go_wp2_with fail
  have hbW : Below w.heap.size w (((w.alloc (.cells #[.slice Ar S.nr cr, .slice Af S.nf cf, .int .i64 S.deep, .int .i64 S.haul, .int .i64 S.rest] 68)).alloc (.cells #[.slice none 0 0, .slice none 0 0, .int .i64 0, .int .i64 0, .int .i64 0] 68)).alloc (.cells #[.slice Ar S.nr cr, .slice Af S.nf cf, .int .i64 S.deep, .int .i64 S.haul, .int .i64 S.rest] 68)) := by (repeat (first | (with_reducible exact Below.refl _ _) | (with_reducible refine bAlloc ?_ _) | (with_reducible refine bDrew ?_) | (with_reducible refine bGrow ?_ _ _) | (with_reducible refine bSet ?_ ?_ _; (first | exact Nat.le_refl _ | exact Nat.le_add_right _ _ | (simp; omega))) | (with_reducible refine bTrans ?_ (by assumption))))
  have HBW := Lib.hid hbW
  have HTA := Lib.hid (TBox.new ((w.alloc (.cells #[.slice Ar S.nr cr, .slice Af S.nf cf, .int .i64 S.deep, .int .i64 S.haul, .int .i64 S.rest] 68)).alloc (.cells #[.slice none 0 0, .slice none 0 0, .int .i64 0, .int .i64 0, .int .i64 0] 68)) #[.slice Ar S.nr cr, .slice Af S.nf cf, .int .i64 S.deep, .int .i64 S.haul, .int .i64 S.rest] 68)
  have HTC := Lib.hid ((TBox.new (w.alloc (.cells #[.slice Ar S.nr cr, .slice Af S.nf cf, .int .i64 S.deep, .int .i64 S.haul, .int .i64 S.rest] 68)) #[.slice none 0 0, .slice none 0 0, .int .i64 0, .int .i64 0, .int .i64 0] 68).mono (bAlloc (Below.refl _ _) (.cells #[.slice Ar S.nr cr, .slice Af S.nf cf, .int .i64 S.deep, .int .i64 S.haul, .int .i64 S.rest] 68)))
  clear hbW
  have HZ := Lib.hid (fun w' (hb : Below (((w.alloc (.cells #[.slice Ar S.nr cr, .slice Af S.nf cf, .int .i64 S.deep, .int .i64 S.haul, .int .i64 S.rest] 68)).alloc (.cells #[.slice none 0 0, .slice none 0 0, .int .i64 0, .int .i64 0, .int .i64 0] 68)).alloc (.cells #[.slice Ar S.nr cr, .slice Af S.nf cf, .int .i64 S.deep, .int .i64 S.haul, .int .i64 S.rest] 68)).heap.size (((w.alloc (.cells #[.slice Ar S.nr cr, .slice Af S.nf cf, .int .i64 S.deep, .int .i64 S.haul, .int .i64 S.rest] 68)).alloc (.cells #[.slice none 0 0, .slice none 0 0, .int .i64 0, .int .i64 0, .int .i64 0] 68)).alloc (.cells #[.slice Ar S.nr cr, .slice Af S.nf cf, .int .i64 S.deep, .int .i64 S.haul, .int .i64 S.rest] 68)) w') => (show w.heap.size + 3 ≤ w'.heap.size from by have := hb.size; simpa using this))
  refine wp_region_stir 9 [.held emptyV (ownsV (w.heap.size + 3) 190 4 0 []), .const (.pointer (some ⟨w.heap.size, 0, none⟩)), .const (.slice Ar S.nr cr), .held (ShapeOf S.nr) (ownsV (w.heap.size + 3) 190 4 S.nr (rockL S.rock S.nr)),
    .held emptyV (ownsV (w.heap.size + 3) 3 1 0 []), .const (.pointer (some ⟨w.heap.size, 1, none⟩)), .const (.slice Af S.nf cf), .held (ShapeOf S.nf) (ownsV (w.heap.size + 3) 3 1 S.nf (intL S.foot S.nf)), .const (.pointer (some ⟨w.heap.size + 2, 0, none⟩))]
    (by kernel_rfl) (by kernel_rfl) rfl ⟨⟨⟨_, 0, rfl⟩, fun _ _ _ hb h => owns_below h hb⟩, trivial, trivial, ownsG, ⟨⟨_, 0, rfl⟩, fun _ _ _ hb h => owns_below h hb⟩, trivial, trivial, ownsG, trivial, trivial⟩ (crossAll_no _ _ _ _ trivial) ?_
  refine wpStir_held rfl (fun w' hb hd => ?_) (fun v hv => ?_)
  · clear hd
    have hl := World.ownsRow_lit (base := w.heap.size + 3) (e := 190) (size := 4) w' #[] 0 (HZ.out _ hb) (by decide) rfl
    go_simp
    exact ⟨bAlloc (Below.refl _ _) _, ⟨_, rfl⟩, hl⟩
  obtain ⟨b0, rfl⟩ := hv
  iterate 2 refine wpStir_const (by go_simp) ?_
  simp only [Act.put, List.setIfInBounds_toArray, List.set_cons_succ, List.set_cons_zero]
  refine wpStir_held rfl (fun w' hb hd => ?_) (fun v hv => ?_)
  · have h1 : ownsV (w.heap.size + 3) 190 4 0 [] w' (.slice (some ⟨b0, 0, none⟩) 0 0) := hd.1 (by kernel_rfl)
    clear hd
    exact stir_copy3 w' _ _ 66 rfl 190 _ 4 32 infoRock Tryz.underlying66 rfl (by decide) b0 Ar S.nr cr (rockL S.rock S.nr) rfl rfl (rockL_len _ _) ((rocksAt_row.1 HS0.out.rocks).mono (bTrans HBW.out hb)) (by unfold maxLen; omega) (by omega) _ (HZ.out _ hb) h1
  obtain ⟨b1, c1, rfl⟩ := hv
  refine wpStir_held rfl (fun w' hb hd => ?_) (fun v hv => ?_)
  · clear hd
    have hl := World.ownsRow_lit (base := w.heap.size + 3) (e := 3) (size := 1) w' #[] 0 (HZ.out _ hb) (by decide) rfl
    go_simp
    exact ⟨bAlloc (Below.refl _ _) _, ⟨_, rfl⟩, hl⟩
  obtain ⟨b4, rfl⟩ := hv
  iterate 2 refine wpStir_const (by go_simp) ?_
  simp only [Act.put, List.setIfInBounds_toArray, List.set_cons_succ, List.set_cons_zero]
  refine wpStir_held rfl (fun w' hb hd => ?_) (fun v hv => ?_)
  · have h1 : ownsV (w.heap.size + 3) 3 1 0 [] w' (.slice (some ⟨b4, 0, none⟩) 0 0) := hd.1 (by kernel_rfl)
    clear hd
    exact stir_copy3 w' _ _ 34 rfl 3 _ 1 8 infoInt Tryz.underlying34 rfl (by decide) b4 Af S.nf cf (intL S.foot S.nf) rfl rfl (by rw [intL_len, Nat.mul_one]) ((intsAt_row.1 HS0.out.feet).mono (bTrans HBW.out hb)) (by unfold maxLen; omega) (by omega) _ (HZ.out _ hb) h1
  obtain ⟨b2, c2, rfl⟩ := hv
  refine wpStir_const (by go_simp) ?_
  simp only [Act.put, List.setIfInBounds_toArray, List.set_cons_succ, List.set_cons_zero]
  refine wpStir_end (fun w3 hb3 hd => ?_)
  have hbw := bTrans HBW.out hb3
  have hd2 : ownsV (w.heap.size + 3) 3 1 S.nf (intL S.foot S.nf) w3 (.slice (some ⟨b2, 0, none⟩) S.nf c2) := hd.1
  have hd1 : ownsV (w.heap.size + 3) 190 4 S.nr (rockL S.rock S.nr) w3 (.slice (some ⟨b1, 0, none⟩) S.nr c1) := hd.2.2.1
  clear hd
  have HO1 := Lib.hid hd1
  have HO2 := Lib.hid hd2
  have HBX := Lib.hid hbw
  have HTA3 := Lib.hid (HTA.out.mono hb3)
  have HTC3 := Lib.hid (HTC.out.mono hb3)
  obtain ⟨bc, bf⟩ := bcell hb3
  have hz := hb3.size
  simp only [World.size_alloc] at hz
  clear hd1 hd2 HBW hb3 hbw
  simp only [List.drop_succ_cons, List.drop_zero]
  go_wp2_with fail
  refine bodyPost_ret (v := .agg #[.slice (some ⟨b1, 0, none⟩) S.nr c1, .slice (some ⟨b2, 0, none⟩) S.nf c2, .int .i64 S.deep, .int .i64 S.haul, .int .i64 S.rest]) (by simp [results, Tryz.results93, go_sem, *]) rfl ?_
  have hbx := HBX.out
  have ty1 : ∃ cs, TBox w3 (w.heap.size + 2) 68 cs := ⟨_, by have := HTA3.out; simp only [World.size_alloc] at this; exact this⟩
  have ty2 : ∃ cs, TBox w3 (w.heap.size + 1) 68 cs := ⟨_, by have := HTC3.out; simp only [World.size_alloc] at this; exact this⟩
  refine ⟨⟨b1, b2, c1, c2, rfl, ?_, ?_⟩, by (repeat (first | (with_reducible exact Below.refl _ _) | (with_reducible refine bAlloc ?_ _) | (with_reducible refine bDrew ?_) | (with_reducible refine bGrow ?_ _ _) | (with_reducible refine bSet ?_ ?_ _; (first | exact Nat.le_refl _ | exact Nat.le_add_right _ _ | (simp; omega))) | (with_reducible refine bTrans ?_ (by assumption))))⟩
  · refine owns_lower (base := w.heap.size + 3) ?_ (by omega)
    have h := HO1.out
    unfold ownsV at h
    repeat with_reducible refine owns_setTy (t := 68) ?_ ?_ (by decide) _ _
    with_reducible exact h
    all_goals repeat (first | with_reducible refine TyB.set ?_ _ _ _ | with_reducible exact ty1 | with_reducible exact ty2)
  · refine owns_lower (base := w.heap.size + 3) ?_ (by omega)
    have h := HO2.out
    unfold ownsV at h
    repeat with_reducible refine owns_setTy (t := 68) ?_ ?_ (by decide) _ _
    with_reducible exact h
    all_goals repeat (first | with_reducible refine TyB.set ?_ _ _ _ | with_reducible exact ty1 | with_reducible exact ty2)
end Go.Proofs.YthnojgdckkdcgaaGreatDoor

namespace Go.Proofs.YthnojgdckkdcgaaGreatDoor
open Go.RowKit Go.Sort
/-- a shaft of the call's own, as a value -/
def shV (S : Sh) (gr gf cr cf : Nat) : Value := .agg #[.slice (some ⟨gr, 0, none⟩) S.nr cr, .slice (some ⟨gf, 0, none⟩) S.nf cf, .int .i64 S.deep, .int .i64 S.haul, .int .i64 S.rest]
def shS (S : Sh) (v : Value) : Prop := ∃ gr gf cr cf, v = shV S gr gf cr cf
def shR (N : Nat) (S : Sh) (w : World) (v : Value) : Prop := ∀ gr gf cr cf, v = shV S gr gf cr cf → w.ownsRow N 190 4 (.slice (some ⟨gr, 0, none⟩) S.nr cr) S.nr (rockL S.rock S.nr) ∧ w.ownsRow N 3 1 (.slice (some ⟨gf, 0, none⟩) S.nf cf) S.nf (intL S.foot S.nf)
theorem shG {N : Nat} {S : Sh} : (Stir.held (shS S) (shR N S)).good := ⟨⟨_, 0, 0, 0, 0, rfl⟩, fun _ _ _ hb h a b c d e => ⟨owns_below (h a b c d e).1 hb, owns_below (h a b c d e).2 hb⟩⟩
theorem shV_inj {S : Sh} {a b c d a' b' c' d' : Nat} (h : shV S a b c d = shV S a' b' c' d') : a = a' ∧ b = b' ∧ c = c' ∧ d = d' := by
  unfold shV at h
  simp only [Value.agg.injEq, Array.mk.injEq, List.cons.injEq, Value.slice.injEq, Option.some.injEq, Addr.mk.injEq, and_true, true_and] at h
  exact ⟨h.1.1, h.2.1, h.1.2, h.2.2⟩
/-- a spot of the call's own, as a value -/
def spV (y : Spot) (gr gf cr cf : Nat) : Value := .agg #[.int .i64 y.at_, .slice (some ⟨gr, 0, none⟩) y.sh.nr cr, .slice (some ⟨gf, 0, none⟩) y.sh.nf cf, .int .i64 y.sh.deep, .int .i64 y.sh.haul, .int .i64 y.sh.rest, .slice none 0 0]
def spS (y : Spot) (v : Value) : Prop := ∃ gr gf cr cf, v = spV y gr gf cr cf
def spR (N : Nat) (y : Spot) (w : World) (v : Value) : Prop := ∀ gr gf cr cf, v = spV y gr gf cr cf → w.ownsRow N 190 4 (.slice (some ⟨gr, 0, none⟩) y.sh.nr cr) y.sh.nr (rockL y.sh.rock y.sh.nr) ∧ w.ownsRow N 3 1 (.slice (some ⟨gf, 0, none⟩) y.sh.nf cf) y.sh.nf (intL y.sh.foot y.sh.nf)
theorem spG {N : Nat} {y : Spot} : (Stir.held (spS y) (spR N y)).good := ⟨⟨_, 0, 0, 0, 0, rfl⟩, fun _ _ _ hb h a b c d e => ⟨owns_below (h a b c d e).1 hb, owns_below (h a b c d e).2 hb⟩⟩
theorem spV_inj {y : Spot} {a b c d a' b' c' d' : Nat} (h : spV y a b c d = spV y a' b' c' d') : a = a' ∧ b = b' ∧ c = c' ∧ d = d' := by
  unfold spV at h
  simp only [Value.agg.injEq, Array.mk.injEq, List.cons.injEq, Value.slice.injEq, Option.some.injEq, Addr.mk.injEq, and_true, true_and] at h
  exact ⟨h.1.1, h.2.1, h.1.2, h.2.2⟩
end Go.Proofs.YthnojgdckkdcgaaGreatDoor

