/- Walk: ShaftsHours returns true. Condition: the way that there is not lies in its variable. -/
import Derived.Test.YtbbnpneabmldnaaDoorLawH
import Derived.Test.YtbbnpneabmldnaaDoorWithinLaw
namespace Go.Proofs.YtbbnpneabmldnaaDoor
open Go.RowKit Go.Sort
theorem Within_at {S : Sh} {h x y : Int} (hw : S.withinOut h = (x, y)) (Ar Af : Option Addr) (cr cf : Nat) (w : World) (hr : S.nr ≤ 9223372036854775807) (hf : S.nf ≤ 9223372036854775807) (hh : h ≤ 9223372036854775807) (hS : ShAt w Ar Af S) (hN : NoneAt w) :
    Calls Tryd.prog 26 #[.agg #[.slice Ar S.nr cr, .slice Af S.nf cf, .int .i64 S.deep, .int .i64 S.haul, .int .i64 S.rest], .int .i64 h] w fun e w' => e = .returned (.tuple #[.int .i64 x, .int .i64 y]) ∧ Below w.heap.size w w' := by
  have := Within_any Ar Af cr cf S h w hr hf hh hS hN
  rw [hw] at this
  exact this
/-- what Within says of two numbers of hours -/
theorem hours_cases {S : Sh} (ok : S.Ok) {m : Nat} {n lo hi : Int} (_ : S.Has) (hf : S.IsFew m) (hc : S.IsCheap n) (hlh : lo ≤ hi) :
    (∃ a b, S.withinOut lo = (a, 0) ∧ S.withinOut hi = (b, 0) ∧ b ≤ a ∧ n ≤ b ∧ 0 ≤ a ∧ a ≤ 4968 ∧ b ≤ 4968 ∧ S.hoursOf 0 + (m : Int) * S.rest ≤ lo ∧ S.hoursOf 0 + (m : Int) * S.rest ≤ hi) ∨
    (∃ b, S.withinOut lo = (0, 3) ∧ S.withinOut hi = (b, 0) ∧ n ≤ b ∧ b ≤ 4968 ∧ ¬ S.hoursOf 0 + (m : Int) * S.rest ≤ lo ∧ S.hoursOf 0 + (m : Int) * S.rest ≤ hi) ∨
    (S.withinOut lo = (0, 3) ∧ S.withinOut hi = (0, 3) ∧ ¬ S.hoursOf 0 + (m : Int) * S.rest ≤ lo ∧ ¬ S.hoursOf 0 + (m : Int) * S.rest ≤ hi) := by
  have hX : S.hoursOf 0 = S.dig := by unfold Sh.hoursOf Sh.dig; simp
  rw [hX]
  rcases within_cases ok lo with ⟨h1, a, h2, h3, h4, h5⟩ | ⟨h1, h2⟩ <;> rcases within_cases ok hi with ⟨k1, b, k2, k3, k4, k5⟩ | ⟨k1, k2⟩
  · exact .inl ⟨a, b, h2, k2, best_mono h3 k3 (ringsIn_mono ok h1.1 hlh), best_cheap k3 hc, h4, h5, k5, (there_iff ok hf lo).1 h1, (there_iff ok hf hi).1 k1⟩
  · exact absurd ((there_iff ok hf hi).2 (Int.le_trans ((there_iff ok hf lo).1 h1) hlh)) k1
  · exact .inr (.inl ⟨b, h2, k2, best_cheap k3 hc, k5, fun h => h1 ((there_iff ok hf lo).2 h), (there_iff ok hf hi).1 k1⟩)
  · exact .inr (.inr ⟨h2, k2, fun h => h1 ((there_iff ok hf lo).2 h), fun h => k1 ((there_iff ok hf hi).2 h)⟩)
theorem hours_none {S : Sh} (ok : S.Ok) (hh : ¬ S.Has) (h : Int) : S.withinOut h = (0, 3) := by
  rcases within_cases ok h with ⟨⟨_, l, h1, _⟩, _⟩ | ⟨_, h2⟩
  · exact absurd ⟨l, h1⟩ hh
  · exact h2
theorem hoursOf0_bd {S : Sh} (ok : S.Ok) : 0 ≤ S.hoursOf 0 ∧ S.hoursOf 0 ≤ 108 := by
  obtain ⟨_, _, y2, y3⟩ := digs_bd ok (k := S.nf) (Nat.le_refl _)
  have := ok.nf
  unfold Sh.hoursOf
  simp only [Int.natCast_zero, Int.mul_zero]
  omega
set_option maxHeartbeats 8000000 in
set_option maxRecDepth 100000 in
theorem ShaftsHours_any (Ar Af : Option Addr) (cr cf : Nat) (S : Sh) (one other : Int) (w : World) (hr : S.nr ≤ 9223372036854775807) (hf : S.nf ≤ 9223372036854775807) (hS : ShAt w Ar Af S) (hN : NoneAt w) (h1 : -9223372036854775808 ≤ one ∧ one ≤ 9223372036854775807) (h2 : -9223372036854775808 ≤ other ∧ other ≤ 9223372036854775807) :
    Calls Tryd.prog 8 #[.agg #[.slice Ar S.nr cr, .slice Af S.nf cf, .int .i64 S.deep, .int .i64 S.haul, .int .i64 S.rest], .int .i64 one, .int .i64 other] w fun e w' => e = .returned (.bool true) ∧ Below w.heap.size w w' := by
  have hb0 := bAlloc (Below.refl w.heap.size w) (.cells #[.slice Ar S.nr cr, .slice Af S.nf cf, .int .i64 S.deep, .int .i64 S.haul, .int .i64 S.rest] 25)
  have HS := Lib.hid (hS.mono hb0)
  have HN := Lib.hid (hN.mono hb0)
  have HB := Lib.hid hb0
  clear hS hN hb0
  obtain ⟨h10, h11⟩ := h1
  obtain ⟨h20, h21⟩ := h2
  by_cases ok : S.Ok
  · have hnr := ok.nr
    have hnf := ok.nf
    obtain ⟨lo, hi, hlo, hlh, hh⟩ : ∃ lo hi : Int, lo ≤ 9223372036854775807 ∧ lo ≤ hi ∧ hi ≤ 9223372036854775807 ∧ ((other < one ∧ ¬ one < other ∧ lo = other ∧ hi = one) ∨ (¬ other < one ∧ one < other ∧ lo = one ∧ hi = other) ∨ (other = one ∧ lo = one ∧ hi = one)) := by
      by_cases h : other < one
      · exact ⟨other, one, by omega, by omega, by omega, .inl ⟨h, by omega, rfl, rfl⟩⟩
      · by_cases h' : one < other
        · exact ⟨one, other, by omega, by omega, by omega, .inr (.inl ⟨h, h', rfl, rfl⟩)⟩
        · exact ⟨one, one, by omega, by omega, by omega, .inr (.inr ⟨by omega, rfl, rfl⟩)⟩
    have HNO := Lib.hid (fun (h : ¬ S.Has) => And.intro (hours_none ok h lo) (hours_none ok h hi))
    obtain ⟨hh1, hord⟩ := hh
    rcases hord with ⟨hoo, hop, rfl, rfl⟩ | ⟨hoo, hop, rfl, rfl⟩ | ⟨rfl, rfl, rfl⟩
    all_goals
      go_enter Tryd.func8, Tryd.ntmps8
      go_wp2_with fail
      refine (ready_any _ _ _ _ S _ hr hf HS.out).mono ?_
      rintro e w1 ⟨b, rfl, hbb, hb1⟩
      obtain rfl : b = true := hbb.2 ok
      have HB1 := Lib.hid hb1
      obtain ⟨bc1, bf1⟩ := bcell hb1
      have hz1 := hb1.size
      simp only [World.size_alloc] at hz1
      have hy1 : w.heap.size < w1.heap.size := by omega
      clear hb1 hbb
      go_wp2_with fail
      refine (lawBest_any _ _ _ _ S _ ok (HS.out.mono HB1.out) (HN.out.mono HB1.out)).mono ?_
      rintro e w3 ⟨⟨mm, nn, bb, rfl, hmm, hn0, hn1, hbest⟩, hb3⟩
      have HB3 := Lib.hid (bTrans HB1.out hb3)
      obtain ⟨bc3, bf3⟩ := bcell HB3.out
      have hz3 := HB3.out.size
      simp only [World.size_alloc] at hz3
      have hy3 : w.heap.size < w3.heap.size := by omega
      clear hb3 bc1 bf1 hz1 hy1 HB1
      rcases hbest with ⟨rfl, hhas, hfew, hcheap⟩ | ⟨rfl, hhas, rfl, rfl⟩
      case inr =>
        have HA := Lib.hid (HNO.out hhas).1
        have HC := Lib.hid (HNO.out hhas).2
        clear hhas
        go_wp2_with fail
        refine (Within_at HA.out _ _ _ _ _ hr hf hlo (HS.out.mono HB3.out) (HN.out.mono HB3.out)).mono ?_
        rintro e w4 ⟨rfl, hb4⟩
        have HB4 := Lib.hid (bTrans HB3.out hb4)
        obtain ⟨bc4, bf4⟩ := bcell HB4.out
        have hz4 := HB4.out.size
        simp only [World.size_alloc] at hz4
        have hy4 : w.heap.size < w4.heap.size := by omega
        clear hb4 bc3 bf3 hz3 hy3 HB3
        go_wp2_with fail
        refine (Within_at HC.out _ _ _ _ _ hr hf hh1 (HS.out.mono HB4.out) (HN.out.mono HB4.out)).mono ?_
        rintro e w5 ⟨rfl, hb5⟩
        have HB5 := Lib.hid (bTrans HB4.out hb5)
        clear hb5 bc4 bf4 hz4 hy4 HB4
        go_wp2_with (go_at_call 43; refine (isKnown_any _ _).mono ?_; rintro e w6 ⟨rfl, rfl⟩)
        refine (works_any _ (HN.out.mono HB5.out)).mono ?_
        rintro e w7 ⟨rfl, hb7⟩
        go_wp2_with fail
        go_ret
        exact ⟨rfl, bTrans HB.out (bTrans HB5.out hb7)⟩
      case inl =>
        have HF := Lib.hid (And.intro hhas (And.intro hfew hcheap))
        obtain ⟨x0, x1⟩ := hoursOf0_bd ok
        obtain ⟨y0, y1⟩ := mul_bd (a := (mm : Int)) (b := S.rest) (by omega) (by omega) ok.r0 ok.r1
        have hcs := hours_cases ok hhas hfew hcheap hlh
        obtain ⟨X, hX⟩ : ∃ X, S.hoursOf 0 = X := ⟨_, rfl⟩
        rw [hX] at hcs x0 x1
        have HX := Lib.hid hX
        clear hhas hfew hcheap hX
        rcases hcs with ⟨a, b, ha, hb, q1, q2, q3, q4, q5, q6, q7⟩ | ⟨b, ha, hb, q2, q5, q6, q7⟩ | ⟨ha, hb, q6, q7⟩
        all_goals try (exfalso; omega)
        all_goals
          have HA := Lib.hid ha
          have HC := Lib.hid hb
          clear ha hb
          go_wp2_with fail
          refine (Within_at HA.out _ _ _ _ _ hr hf hlo (HS.out.mono HB3.out) (HN.out.mono HB3.out)).mono ?_
          rintro e w4 ⟨rfl, hb4⟩
          have HB4 := Lib.hid (bTrans HB3.out hb4)
          obtain ⟨bc4, bf4⟩ := bcell HB4.out
          have hz4 := HB4.out.size
          simp only [World.size_alloc] at hz4
          have hy4 : w.heap.size < w4.heap.size := by omega
          clear hb4 bc3 bf3 hz3 hy3 HB3
          go_wp2_with fail
          refine (Within_at HC.out _ _ _ _ _ hr hf hh1 (HS.out.mono HB4.out) (HN.out.mono HB4.out)).mono ?_
          rintro e w5 ⟨rfl, hb5⟩
          have HB5 := Lib.hid (bTrans HB4.out hb5)
          obtain ⟨bc5, bf5⟩ := bcell HB5.out
          have hz5 := HB5.out.size
          simp only [World.size_alloc] at hz5
          have hy5 : w.heap.size < w5.heap.size := by omega
          clear hb5 bc4 bf4 hz4 hy4 HB4
          go_wp2_with (go_at_call 43; refine (isKnown_any _ _).mono ?_; rintro e w6 ⟨rfl, rfl⟩)
          refine (hoursOf_any _ _ _ _ S _ ok (HS.out.mono HB5.out) none 0 0 (by omega)).mono ?_
          rintro e w6 ⟨he6, hb6⟩
          rw [HX.out] at he6
          subst he6
          have HB6 := Lib.hid (bTrans HB5.out hb6)
          obtain ⟨bc6, bf6⟩ := bcell HB6.out
          have hz6 := HB6.out.size
          simp only [World.size_alloc] at hz6
          have hy6 : w.heap.size < w6.heap.size := by omega
          clear hb6 bc5 bf5 hz5 hy5 HB5
          go_wp2_with fail
          refine (Cheapest_law _ _ _ _ S _ ok (HS.out.mono HB6.out) (HN.out.mono HB6.out)).mono ?_
          rintro e w7 ⟨hp, hb7⟩
          rcases hp with ⟨_, A2, m2, c2, g2, rfl, hm2, hP2, hX2, hI2⟩ | ⟨hno, _⟩
          case inr => exact absurd HF.out.1 hno
          have HWC := Lib.hid (within_cheapest ok hP2 (hX2.uniq HF.out.2.2) HF.out.2.2)
          have HB7 := Lib.hid (bTrans HB6.out hb7)
          obtain ⟨bc7, bf7⟩ := bcell HB7.out
          have hz7 := HB7.out.size
          simp only [World.size_alloc] at hz7
          have hy7 : w.heap.size < w7.heap.size := by omega
          have hi2 : ((40 : Int) < (m2 : Int)) = False := by simp; omega
          have hho : S.hoursOf m2 ≤ 9223372036854775807 := by
            obtain ⟨_, _, u2, u3⟩ := digs_bd ok (k := S.nf) (Nat.le_refl _)
            obtain ⟨v0, v1⟩ := mul_bd (a := (m2 : Int)) (b := S.rest) (by omega) (by omega) ok.r0 ok.r1
            unfold Sh.hoursOf
            rw [Int.mul_comm]
            omega
          clear hb7 bc6 bf6 hz6 hy6 HB6 hP2 hX2 hI2
          go_wp2_with fail
          refine wp_region_quiet_below (by kernel_rfl) (by kernel_rfl) ?_
          repeat (go_big_quiet_step (((first | (go_at_call 44; exact Calls.regrown_of (hoursOf_any _ _ _ _ S _ ok ((HS.out.mono HB7.out).mono (below_regrown _ _ _)) A2 m2 c2 (by omega))) | (go_at_call 26; exact Calls.regrown_of (Within_at HWC.out _ _ _ _ _ hr hf hho ((HS.out.mono HB7.out).mono (below_regrown _ _ _)) ((HN.out.mono HB7.out).mono (below_regrown _ _ _))))))))
          refine wpQuiet_nil ?_
          intro w8 hw8
          have hb8 := below_of_regrown hw8
          clear hw8
          go_wp2_with fail
          refine (works_any _ ((HN.out.mono HB7.out).mono hb8)).mono ?_
          rintro e w9 ⟨rfl, hb9⟩
          go_wp2_with fail
          go_ret
          exact ⟨rfl, bTrans HB.out (bTrans (bTrans HB7.out hb8) hb9)⟩
  · go_enter Tryd.func8, Tryd.ntmps8
    go_wp2_with fail
    refine (ready_any _ _ _ _ S _ hr hf HS.out).mono ?_
    rintro e w1 ⟨b, rfl, hbb, hb1⟩
    obtain rfl : b = false := by
      cases b
      · rfl
      · exact absurd (hbb.1 rfl) ok
    clear hbb
    go_wp2_with fail
    refine (works_any _ (HN.out.mono hb1)).mono ?_
    rintro e w2 ⟨rfl, hb2⟩
    go_wp2_with fail
    go_ret
    exact ⟨rfl, bTrans HB.out (bTrans hb1 hb2)⟩
end Go.Proofs.YtbbnpneabmldnaaDoor
