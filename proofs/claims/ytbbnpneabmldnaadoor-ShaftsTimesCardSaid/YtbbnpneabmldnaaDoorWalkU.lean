/- Walk: ways, with the comparison by pence. (Made from the walk with the comparison by rings: the comparison's name turned.) -/
import Derived.Test.YtbbnpneabmldnaaDoorWalkT
namespace Go.Proofs.YtbbnpneabmldnaaDoor
open Go.RowKit Go.Sort
def ltP (x y : Way) : Bool := decide (x.pence < y.pence)
set_option maxHeartbeats 8000000 in
set_option maxRecDepth 100000 in
theorem ways_cheaper (Ar Af : Option Addr) (cr cf : Nat) (S : Sh) (w : World) (ok : S.Ok) (hS : ShAt w Ar Af S) (hN : NoneAt w) (M : Nat) (_ : M ≤ 12) :
    Calls Tryd.prog 90 #[.agg #[.slice Ar S.nr cr, .slice Af S.nf cf, .int .i64 S.deep, .int .i64 S.haul, .int .i64 S.rest], .func (.func 74) #[] #[], .int .i64 M] w fun e w' => Wayed w w' (S.nf + 1) (S.waysOf ltP (min M S.nf)) e := by
  have hb0 := bAlloc (Below.refl w.heap.size w) (.cells #[.slice Ar S.nr cr, .slice Af S.nf cf, .int .i64 S.deep, .int .i64 S.haul, .int .i64 S.rest] 75)
  have HS := Lib.hid (hS.mono hb0)
  have hN' := hN.mono hb0
  have HN := Lib.hid hN'
  have HB := Lib.hid hb0
  obtain ⟨n0, n1, n2, n3⟩ := hN
  clear hS hb0 hN'
  have hnf := ok.nf
  obtain ⟨L, hL⟩ : ∃ L, L = min M S.nf := ⟨_, rfl⟩
  have hmin : (if (S.nf : Int) < (M : Int) then (S.nf : Int) else (M : Int)) = (L : Int) := by split <;> omega
  have hmin2 : (if S.nf < M then (S.nf : Int) else (M : Int)) = (L : Int) := by split <;> omega
  have hL2 : L ≤ S.nf := by omega
  rw [← hL]
  clear hL
  go_enter Tryd.func90, Tryd.ntmps90
  go_wp2_with (go_at_call 93; refine (repeat_any _ _ (S.nf + 1) _ (by omega) _ (by omega) (by omega) ⟨(by simp), fun i hi => (by obtain rfl : i = 0 := (by omega); simp [go_sem, noWay]), fun i hi => (by obtain rfl : i = 0 := (by omega); simp [go_sem, noWay]), fun i hi => (by obtain rfl : i = 0 := (by omega); simp [go_sem, noWay]), fun j => (by simp [go_sem])⟩).mono ?_; rintro e w1 ⟨g1, c1, rfl, hg1, hW1, hb1⟩; obtain ⟨bc1, bf1⟩ := bcell hb1; have hz1 := hb1.size; simp only [World.size_alloc] at hz1 hg1; have hy1 : w.heap.size + 1 < w1.heap.size := (by omega); have k0 := hW1.c0 S.nf (by omega); have k1 := hW1.c1 S.nf (by omega); have k2 := hW1.c2 S.nf (by omega); have kf := hW1.fr; have HW1 := Lib.hid hW1; clear hW1)
  have HB1 := Lib.hid (bTrans (bAlloc (Below.refl _ (w.alloc (.cells #[.slice Ar S.nr cr, .slice Af S.nf cf, .int .i64 S.deep, .int .i64 S.haul, .int .i64 S.rest] 75))) (.cells #[.int .i64 (-1), .int .i64 0, .int .i64 0] 84)) hb1)
  clear hb1
  have HF : ∀ (i : Nat), S.waysOf ltP 0 i = if i = S.nf then ⟨0, 0, 0⟩ else noWay := fun i => rfl
  have HF0 := Lib.hid HF
  clear HF
  go_loopw [8, 29] (fun o i wr => ∃ (k g c : Nat), k ≤ L ∧ i = .int .i64 k ∧ o = .slice (some ⟨g, 0, none⟩) (S.nf + 1) c ∧ w.heap.size < g ∧ WaysAt wr g (S.nf + 1) (S.waysOf ltP k) ∧ Below (w.alloc (.cells #[.slice Ar S.nr cr, .slice Af S.nf cf, .int .i64 S.deep, .int .i64 S.haul, .int .i64 S.rest] 75)).heap.size (w.alloc (.cells #[.slice Ar S.nr cr, .slice Af S.nf cf, .int .i64 S.deep, .int .i64 S.haul, .int .i64 S.rest] 75)) wr) (fun _ i _ => L - (intOf i).toNat)
  case atStart => exact ⟨0, g1, c1, Nat.zero_le _, rfl, rfl, by omega, (HW1.out.set (d := S.nf) (by omega) ⟨0, 0, 0⟩).congr (fun i _ => (HF0.out i).symm), ((HB1.out.setCell (by simp; omega) _).setCell (by simp; omega) _).setCell (by simp; omega) _⟩
  case round =>
    obtain ⟨k, g, c, hk, rfl, rfl, hg, hW, hB⟩ := hrel
    obtain ⟨bc, bf⟩ := bcell hB
    have hz := hB.size
    simp only [World.size_alloc] at hz
    have hy : w.heap.size < wr.heap.size := hz
    have hglt := hW.lt
    have HW2 := Lib.hid hW
    have HB2 := Lib.hid hB
    clear hW hB HW1 HB1 k0 k1 k2 kf hg1 hy1 hz1 bc1 bf1
    by_cases hlt : k < L
    · have hin := fun d (hd : d ≤ S.nf) => waysOf_in ok ltP k d hd
      have HQ0 : ∀ j, S.waysOf ltP (k + 1) j = S.moreWays ltP (S.waysOf ltP k) j := fun j => rfl
      have HQ := Lib.hid HQ0
      have HI := Lib.hid hin
      clear hin HQ0
      obtain ⟨Q, hQ⟩ : ∃ Q, Q = S.waysOf ltP (k + 1) := ⟨_, rfl⟩
      rw [← hQ] at HQ
      have HQE := Lib.hid hQ
      clear hQ
      generalize S.waysOf ltP k = P at HW2 HQ HI
      go_wp2_with (go_at_call 94; refine (clone_any _ _ _ _ _ (by omega) (by omega) HW2.out).mono ?_; rintro e w2 ⟨g2, c2, rfl, hg2, hW2, hb2⟩)
      have hgg : g ≠ g2 := by omega
      have HW3 := Lib.hid hW2
      have HW4 := Lib.hid (HW2.out.mono hb2)
      have HB3 := Lib.hid (bTrans HB2.out hb2)
      have hg3 : w.heap.size < g2 := by omega
      clear hW2 hb2 hg2
      go_loopw [34] (fun i wr2 => ∃ d : Nat, d ≤ S.nf ∧ i = .int .i64 d ∧ WaysAt wr2 g2 (S.nf + 1) (fun j => if j < d then Q j else P j) ∧ WaysAt wr2 g (S.nf + 1) P ∧ Below (w.alloc (.cells #[.slice Ar S.nr cr, .slice Af S.nf cf, .int .i64 S.deep, .int .i64 S.haul, .int .i64 S.rest] 75)).heap.size (w.alloc (.cells #[.slice Ar S.nr cr, .slice Af S.nf cf, .int .i64 S.deep, .int .i64 S.haul, .int .i64 S.rest] 75)) wr2) (fun i _ => S.nf - (intOf i).toNat)
      case atStart => exact ⟨0, Nat.zero_le _, rfl, HW3.out.congr (fun j _ => by simp), HW4.out, HB3.out⟩
      case round =>
        obtain ⟨d, hd, rfl, hM2, hP2, hB⟩ := hrel
        have HM := Lib.hid hM2
        have HP := Lib.hid hP2
        have HB4 := Lib.hid hB
        clear hM2 hP2 hB
        by_cases hdlt : d < S.nf
        · obtain ⟨fb0, fb1⟩ := S.falls_bd hd
          go_wp2_with fail
          go_loopw [11] (fun i wr3 => ∃ m : Nat, d + m ≤ S.falls d ∧ i = .int .i64 (d + 1 + m : Nat) ∧ WaysAt wr3 g2 (S.nf + 1) (fun j => if j < d then Q j else if j = d then S.lookTo ltP P d m else P j) ∧ WaysAt wr3 g (S.nf + 1) P ∧ Below (w.alloc (.cells #[.slice Ar S.nr cr, .slice Af S.nf cf, .int .i64 S.deep, .int .i64 S.haul, .int .i64 S.rest] 75)).heap.size (w.alloc (.cells #[.slice Ar S.nr cr, .slice Af S.nf cf, .int .i64 S.deep, .int .i64 S.haul, .int .i64 S.rest] 75)) wr3) (fun i _ => S.falls d + 1 - (intOf i).toNat)
          case atStart => exact ⟨0, by omega, rfl, HM.out.congr (fun j _ => by by_cases e : j = d <;> simp [e, Sh.lookTo]), HP.out, HB4.out⟩
          case round =>
            obtain ⟨m, hm, rfl, hM3, hP3, hB⟩ := hrel
            obtain ⟨bc4, bf4⟩ := bcell hB
            have hz4 := hB.size
            simp only [World.size_alloc] at hz4
            have hy4 : w.heap.size < wr.heap.size := hz4
            have ho4 : 0 < wr.heap.size := by omega
            have hx4 := hM3.lt
            have hx5 := hP3.lt
            have HM5 := Lib.hid hM3
            have HP5 := Lib.hid hP3
            have HB5 := Lib.hid hB
            have HS5 := Lib.hid (HS.out.mono hB)
            clear hM3 hP3 hB
            by_cases hlast : d + m = S.falls d
            · go_wp2_with (go_at_call 92; refine (falls_any _ _ _ _ S _ ok HS5.out d hd).mono ?_; rintro e w5 ⟨rfl, hb5⟩)
              have HMM := Lib.hid (HM5.out.mono hb5)
              have HPM := Lib.hid (HP5.out.mono hb5)
              have HBM := Lib.hid (bTrans HB5.out hb5)
              clear hb5
              go_roundw
              case rel =>
                refine ⟨d + 1, by omega, by go_num, HMM.out.congr (fun j hj => ?_), HPM.out, HBM.out⟩
                rcases Nat.lt_trichotomy j d with h1 | h1 | h1
                · simp [h1, show j < d + 1 from by omega]
                · subst h1
                  rw [if_neg (Nat.lt_irrefl _), if_pos rfl, if_pos (Nat.lt_succ_self _), HQ.out j]
                  unfold Sh.moreWays
                  rw [if_pos hdlt, show S.falls j - j = m from by omega]
                · rw [if_neg (by omega), if_neg (by omega), if_neg (by omega)]
              case measure => simp [intOf]; omega
            · obtain ⟨X, hX⟩ : ∃ X, X = P (d + 1 + m) := ⟨_, rfl⟩
              obtain ⟨Y, hY⟩ : ∃ Y, Y = S.lookTo ltP P d m := ⟨_, rfl⟩
              have a0 := HP5.out.c0 (d + 1 + m) (by omega)
              have a1 := HP5.out.c1 (d + 1 + m) (by omega)
              have a2 := HP5.out.c2 (d + 1 + m) (by omega)
              rw [← hX] at a0 a1 a2
              have b0 : wr.cell? ⟨g2, d * 3, none⟩ = some (.int .i64 Y.rings) := by rw [hY]; simpa using HM5.out.c0 d (by omega)
              have b1 : wr.cell? ⟨g2, d * 3 + 1, none⟩ = some (.int .i64 Y.pence) := by rw [hY]; simpa using HM5.out.c1 d (by omega)
              have b2 : wr.cell? ⟨g2, d * 3 + 2, none⟩ = some (.int .i64 Y.next) := by rw [hY]; simpa using HM5.out.c2 d (by omega)
              have hXI : X.In k := hX ▸ HI.out _ (by omega)
              have hYI : Y.In (k + 1) := hY ▸ lookTo_in ok HI.out m (by omega)
              have HX := Lib.hid hX
              have HY := Lib.hid hY
              clear hX hY
              obtain ⟨x0, x1, x2, x3, x4, x5⟩ := hXI
              obtain ⟨y0, y1, y2, y3, y4, y5⟩ := hYI
              by_cases hno : X = noWay
              · have HNO := Lib.hid hno
                rw [hno] at a0 a1 a2
                have hs1 := sameWay_t X hno
                rw [hno] at hs1
                simp only [noWay] at hs1
                clear hno x0 x1 x2 x3 x4 x5
                simp only [noWay] at a0 a1 a2
                go_wp2_with (go_at_call 92; refine (falls_any _ _ _ _ S _ ok HS5.out d hd).mono ?_; rintro e w5 ⟨rfl, hb5⟩; obtain ⟨bc5, bf5⟩ := bcell hb5; have hz5 := hb5.size; have hy5 : w.heap.size < w5.heap.size := (by omega); have ho5 : 0 < w5.heap.size := (by omega); have hg5 : g < w5.heap.size := (by omega); have hg6 : g2 < w5.heap.size := (by omega))
                have HMM := Lib.hid (HM5.out.mono hb5)
                have HPM := Lib.hid (HP5.out.mono hb5)
                have HBM := Lib.hid (bTrans HB5.out hb5)
                have HSM := Lib.hid (HS5.out.mono hb5)
                clear hb5
                refine wp_region_quiet_below (by kernel_rfl) (by kernel_rfl) ?_
                repeat (go_big_quiet_step (((go_at_call 91; exact Calls.regrown_of (rests_any _ _ _ _ S _ ok (HSM.out.mono (below_regrown _ _ _)) _ (d + 1 + m) (by omega) (by omega) (by omega))))))
                refine wpQuiet_nil ?_
                intro w6 hw6
                have hb6 := below_of_regrown hw6
                clear hw6
                go_wp2_with fail
                go_roundw
                case rel => exact ⟨m + 1, by omega, by go_num, (HMM.out.mono hb6).congr (fun j _ => by rw [show S.lookTo ltP P d (m + 1) = S.lookTo ltP P d m from look_skip (.inl (HX.out ▸ HNO.out))]), HPM.out.mono hb6, bTrans HBM.out hb6⟩
                case measure => simp [intOf]; omega
              · have HNO := Lib.hid hno
                have hs1 := sameWay_f X hno
                clear hno
                cases hr : S.restsB (d + 1 + m)
                · go_wp2_with (go_at_call 92; refine (falls_any _ _ _ _ S _ ok HS5.out d hd).mono ?_; rintro e w5 ⟨rfl, hb5⟩; obtain ⟨bc5, bf5⟩ := bcell hb5; have hz5 := hb5.size; have hy5 : w.heap.size < w5.heap.size := (by omega); have ho5 : 0 < w5.heap.size := (by omega); have hg5 : g < w5.heap.size := (by omega); have hg6 : g2 < w5.heap.size := (by omega))
                  have HMM := Lib.hid (HM5.out.mono hb5)
                  have HPM := Lib.hid (HP5.out.mono hb5)
                  have HBM := Lib.hid (bTrans HB5.out hb5)
                  have HSM := Lib.hid (HS5.out.mono hb5)
                  clear hb5
                  refine wp_region_quiet_below (by kernel_rfl) (by kernel_rfl) ?_
                  repeat (go_big_quiet_step (((go_at_call 91; exact Calls.regrown_of (rests_any _ _ _ _ S _ ok (HSM.out.mono (below_regrown _ _ _)) _ (d + 1 + m) (by omega) (by omega) (by omega))))))
                  refine wpQuiet_nil ?_
                  intro w6 hw6
                  have hb6 := below_of_regrown hw6
                  clear hw6
                  go_wp2_with fail
                  go_roundw
                  case rel => exact ⟨m + 1, by omega, by go_num, (HMM.out.mono hb6).congr (fun j _ => by rw [show S.lookTo ltP P d (m + 1) = S.lookTo ltP P d m from look_skip (.inr hr)]), HPM.out.mono hb6, bTrans HBM.out hb6⟩
                  case measure => simp [intOf]; omega
                · obtain ⟨rb0, rb1⟩ := ring_of_rests ok (d := d + 1 + m) (by omega) (by omega) hr
                  have hcase : (sameWay Y.rings Y.pence Y.next (-1) 0 0 = true ∧ S.lookTo ltP P d (m + 1) = S.wayTo X (d + 1 + m)) ∨ (sameWay Y.rings Y.pence Y.next (-1) 0 0 = false ∧ decide (X.pence + S.ringc (d + 1 + m) < Y.pence) = true ∧ (X.pence + S.ringc (d + 1 + m) < Y.pence) ∧ S.lookTo ltP P d (m + 1) = S.wayTo X (d + 1 + m)) ∨ (sameWay Y.rings Y.pence Y.next (-1) 0 0 = false ∧ decide (X.pence + S.ringc (d + 1 + m) < Y.pence) = false ∧ ¬ (X.pence + S.ringc (d + 1 + m) < Y.pence) ∧ S.lookTo ltP P d (m + 1) = Y) := by
                    have e1 : ¬ (P (d + 1 + m) = noWay ∨ S.restsB (d + 1 + m) = false) := by
                      rintro (h | h)
                      · exact HNO.out (HX.out.trans h)
                      · rw [hr] at h; cases h
                    have e2 : S.lookTo ltP P d (m + 1) = if Y = noWay ∨ ltP (S.wayTo X (d + 1 + m)) Y = true then S.wayTo X (d + 1 + m) else Y := by
                      show S.look ltP P (S.lookTo ltP P d m) (d + 1 + m) = _
                      unfold Sh.look
                      rw [if_neg e1, ← HX.out, ← HY.out]
                    by_cases h1 : Y = noWay
                    · exact .inl ⟨sameWay_t Y h1, by rw [e2, if_pos (.inl h1)]⟩
                    · cases h2 : ltP (S.wayTo X (d + 1 + m)) Y
                      · exact .inr (.inr ⟨sameWay_f Y h1, h2, of_decide_eq_false h2, by rw [e2, if_neg (by rintro (h | h); exact h1 h; rw [h2] at h; cases h)]⟩)
                      · exact .inr (.inl ⟨sameWay_f Y h1, h2, of_decide_eq_true h2, by rw [e2, if_pos (.inr h2)]⟩)
                  rcases hcase with ⟨hs2, he⟩ | ⟨hs2, hlt2, hlt3, he⟩ | ⟨hs2, hlt2, hlt3, he⟩
                  all_goals
                    have HE := Lib.hid he
                    clear he
                    go_wp2_with (go_at_call 92; refine (falls_any _ _ _ _ S _ ok HS5.out d hd).mono ?_; rintro e w5 ⟨rfl, hb5⟩; obtain ⟨bc5, bf5⟩ := bcell hb5; have hz5 := hb5.size; have hy5 : w.heap.size < w5.heap.size := (by omega); have ho5 : 0 < w5.heap.size := (by omega); have hg5 : g < w5.heap.size := (by omega); have hg6 : g2 < w5.heap.size := (by omega))
                    have HMM := Lib.hid (HM5.out.mono hb5)
                    have HPM := Lib.hid (HP5.out.mono hb5)
                    have HBM := Lib.hid (bTrans HB5.out hb5)
                    have HSM := Lib.hid (HS5.out.mono hb5)
                    clear hb5
                    refine wp_region_quiet_below (by kernel_rfl) (by kernel_rfl) ?_
                    repeat (go_big_quiet_step (((go_at_call 91; exact Calls.regrown_of (rests_any _ _ _ _ S _ ok (HSM.out.mono (below_regrown _ _ _)) _ (d + 1 + m) (by omega) (by omega) (by omega))))))
                    refine wpQuiet_nil ?_
                    intro w6 hw6
                    have hb6 := below_of_regrown hw6
                    clear hw6
                    obtain ⟨bc6, bf6⟩ := bcell hb6
                    have hz6 := hb6.size
                    have hy6 : w.heap.size < w6.heap.size := (by omega)
                    have ho6 : 0 < w6.heap.size := (by omega)
                    have hg7 : g < w6.heap.size := (by omega)
                    have hg8 : g2 < w6.heap.size := (by omega)
                    have HM7 := Lib.hid (HMM.out.mono hb6)
                    have HP7 := Lib.hid (HPM.out.mono hb6)
                    have HB7 := Lib.hid (bTrans HBM.out hb6)
                    have HS7 := Lib.hid (HSM.out.mono hb6)
                    clear hb6 HMM HPM HBM HSM
                    go_wp2_with fail
                    have e1 : IntKind.i64.wrap (X.rings + 1) = X.rings + 1 := IntWalk.i64_in _ (by omega)
                    have e2 : IntKind.i64.wrap (X.pence + S.ringc (d + 1 + m)) = X.pence + S.ringc (d + 1 + m) := IntWalk.i64_in _ (by omega)
                    have i1 : (0 : Int) ≤ (d : Int) + 1 + m := by omega
                    have i2 : (d : Int) + 1 + m < (S.nf : Int) + 1 := by omega
                    have i3 : ((d : Int) + 1 + m).toNat = d + 1 + m := by omega
                    refine wp_region_new 18 19 12 75 84 #[.int .i64 0, .int .i64 0, .int .i64 0] (by kernel_rfl) (by kernel_rfl) (by rfl) (by rfl) (by rfl) (by rfl) (by rfl) (by rfl) (fun _ => by kernel_rfl) (by kernel_rfl) (by simp) ?_
                    repeat (first | (refine wpCalm_skip rfl ?_) | (refine wpCalm_step rfl (fun K hK => ?_); go_simp; (first | (refine hK _ ?_; clear hK K) | (apply Exists.intro; refine ⟨fun _ => ?_, hK _ ?_⟩; ((go_at_call 85; exact (ring_any _ _ _ _ S _ ok (HS7.out.mono (below_regrown _ _ _)) _ (d + 1 + m) (by omega) (by omega) (by omega)))); clear hK K))))
                    refine wpCalm_nil ?_
                    clear e1 e2 i1 i2 i3
                    refine ⟨#[.int .i64 (X.rings + 1), .int .i64 (X.pence + S.ringc (d + 1 + m)), .int .i64 ((d : Int) + 1 + m)], rfl, rfl, by simp [Value.oneCell'], ?_⟩
                    intro b w7 hb7 hbb hb2 hblk
                    have hbc : ∀ i, World.cell? w7 ⟨b, i, none⟩ = (#[.int .i64 (X.rings + 1), .int .i64 (X.pence + S.ringc (d + 1 + m)), .int .i64 ((d : Int) + 1 + m)] : Array Value)[i]? := fun i => cell_of_row w7 b i _ _ _ hblk
                    simp only [Act.put, List.setIfInBounds_toArray, List.set_cons_succ, List.set_cons_zero]
                    obtain ⟨bc7, bf7⟩ := bcell hb7
                    have hz7 := hb7.size
                    have hy7 : w.heap.size < w7.heap.size := (by omega)
                    have ho7 : 0 < w7.heap.size := (by omega)
                    have hg9 : g < w7.heap.size := (by omega)
                    have hg10 : g2 < w7.heap.size := (by omega)
                    have HM8 := Lib.hid (HM7.out.mono hb7)
                    have HP8 := Lib.hid (HP7.out.mono hb7)
                    have HB8 := Lib.hid (bTrans HB7.out hb7)
                    obtain ⟨q0, q1, q2, q3⟩ := HN.out.mono HB8.out
                    have m0 : w7.cell? ⟨g2, d * 3, none⟩ = some (.int .i64 Y.rings) := by rw [HY.out]; simpa using HM8.out.c0 d (by omega)
                    have m1 : w7.cell? ⟨g2, d * 3 + 1, none⟩ = some (.int .i64 Y.pence) := by rw [HY.out]; simpa using HM8.out.c1 d (by omega)
                    have m2 : w7.cell? ⟨g2, d * 3 + 2, none⟩ = some (.int .i64 Y.next) := by rw [HY.out]; simpa using HM8.out.c2 d (by omega)
                    have v0 : w7.cell? ⟨b, 0, none⟩ = some (.int .i64 (X.rings + 1)) := hbc 0
                    have v1 : w7.cell? ⟨b, 1, none⟩ = some (.int .i64 (X.pence + S.ringc (d + 1 + m))) := hbc 1
                    have v2 : w7.cell? ⟨b, 2, none⟩ = some (.int .i64 ((d : Int) + 1 + m)) := hbc 2
                    clear hb7 HM7 HP7 HB7 HS7 hbc hblk bc bf bc4 bf4 bc5 bf5 bc6 bf6 bc7 bf7 a0 a1 a2 b0 b1 b2 n0 n1 n2 n3 hs1 hr
                    clear HS HN HS5 HM5 HP5 HB5 x0 x1 x2 x3 x4 x5 y0 y1 y2 y3 y4 y5 rb0 rb1 hz4 hy4 hx4 hx5 hz5 hy5 ho5 hg5 hg6 hz6 hy6 ho6 hg7 hg8 hz7 hbb ho4
                    go_wp2_with fail
                    refine wp_region_quiet_below (by kernel_rfl) (by kernel_rfl) ?_
                    repeat (go_big_quiet_step (((go_at_call 74; exact Calls.regrown_of (cheaper_any ⟨X.rings + 1, X.pence + S.ringc (d + 1 + m), (d : Int) + 1 + m⟩ Y _)))))
                    refine wpQuiet_nil ?_
                    intro w8 hw8
                    have hb8 := below_of_regrown hw8
                    clear hw8
                    obtain ⟨bc8, bf8⟩ := bcell hb8
                    replace m0 := (bc8 _ _ hg10).trans m0
                    replace m1 := (bc8 _ _ hg10).trans m1
                    replace m2 := (bc8 _ _ hg10).trans m2
                    replace v0 := (bc8 _ _ hb2).trans v0
                    replace v1 := (bc8 _ _ hb2).trans v1
                    replace v2 := (bc8 _ _ hb2).trans v2
                    clear q0 q1 q2 q3 bc8 bf8
                    have hz8 := hb8.size
                    have hb9 : b < w8.heap.size := (by omega)
                    have hg11 : g2 < w8.heap.size := (by omega)
                    have HM9 := Lib.hid (HM8.out.mono hb8)
                    have HP9 := Lib.hid (HP8.out.mono hb8)
                    have HB9 := Lib.hid (bTrans HB8.out hb8)
                    have hfr := HM9.out.fr
                    clear hb8 HM8 HP8 HB8
                    go_wp2_with fail
                    go_roundw
                    case rel =>
                      first
                        | exact ⟨m + 1, by omega, by go_num, HM9.out.congr (fun j _ => by
                            by_cases e : j = d
                            · subst e; simp [HE.out, ← HY.out]
                            · simp [e]), HP9.out, HB9.out⟩
                        | exact ⟨m + 1, by omega, by go_num, (HM9.out.set (d := d) (by omega) ⟨X.rings + 1, X.pence + S.ringc (d + 1 + m), (d : Int) + 1 + m⟩).congr (fun j _ => by
                            by_cases e : j = d
                            · subst e; simp [HE.out, Sh.wayTo]
                            · simp [e]), ((HP9.out.other (fun e => hgg e.symm) _).other (fun e => hgg e.symm) _).other (fun e => hgg e.symm) _, ((HB9.out.setCell (by simp; omega) _).setCell (by simp; omega) _).setCell (by simp; omega) _⟩
                    case measure => simp [intOf]; omega
        · obtain rfl : d = S.nf := by omega
          go_wp2_with fail
          go_roundw
          case rel => exact ⟨k + 1, g2, c2, by omega, by go_num, rfl, hg3, by rw [← HQE.out]; exact HM.out.congr (fun j hj => by
            by_cases e : j < S.nf
            · rw [if_pos e]
            · rw [if_neg e, HQ.out j]; unfold Sh.moreWays; rw [if_neg e]), HB4.out⟩
          case measure => simp [intOf]; omega
    · obtain rfl : k = L := by omega
      go_wp2_with fail
      go_ret
      exact ⟨g, c, rfl, by omega, HW2.out, bTrans HB.out HB2.out⟩
end Go.Proofs.YtbbnpneabmldnaaDoor
