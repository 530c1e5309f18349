/- Walk: good (the program). -/
import Derived.Test.YtbbnpneabmldnaaDoorWalkM
namespace Go.Proofs.YtbbnpneabmldnaaDoor
open Go.RowKit Go.Sort
/-- the tests of good ahead of its loop -/
theorem good_cases (S : Sh) (m : Nat) (g : Nat → Int) : (risingB 1 S.nf m g = false ∧ ¬ S.Plan m g) ∨
    (m = 0 ∧ risingB 1 S.nf m g = true ∧ ((0 : Int) != (S.nf : Int)) = true ∧ ¬ S.Plan m g) ∨ (m = 0 ∧ risingB 1 S.nf m g = true ∧ ((0 : Int) != (S.nf : Int)) = false ∧ stopAt g m = S.nf) ∨
    (0 < m ∧ risingB 1 S.nf m g = true ∧ (g (m - 1) != (S.nf : Int)) = true ∧ ¬ S.Plan m g) ∨ (0 < m ∧ risingB 1 S.nf m g = true ∧ (g (m - 1) != (S.nf : Int)) = false ∧ stopAt g m = S.nf) := by
  cases hrb : risingB 1 S.nf m g
  · exact .inl ⟨rfl, fun h => by rw [rising_iff.2 h.rising] at hrb; cases hrb⟩
  · have hR := rising_iff.1 hrb
    cases m with
    | zero =>
      by_cases h : (0 : Int) = S.nf
      · exact .inr (.inr (.inl ⟨rfl, rfl, by simp; omega, by simp only [stopAt]; omega⟩))
      · exact .inr (.inl ⟨rfl, rfl, by simp; omega, fun hp => by have := hp.last; simp only [stopAt] at this; omega⟩)
    | succ k =>
      have hl := hR.lo k (by omega)
      by_cases h : g k = S.nf
      · exact .inr (.inr (.inr (.inr ⟨by omega, rfl, by simp [h], by simp only [stopAt]; omega⟩)))
      · exact .inr (.inr (.inr (.inl ⟨by omega, rfl, by simp [h], fun hp => by have := hp.last; simp only [stopAt] at this; omega⟩)))
set_option maxHeartbeats 4000000 in
theorem good_any (Ar Af : Option Addr) (cr cf : Nat) (S : Sh) (w : World) (ok : S.Ok) (hS : ShAt w Ar Af S) (A : Option Addr) (m c : Nat) (g : Nat → Int) (hm : m ≤ 9223372036854775807) (hg : IntsAt w A m g) :
    Calls Tryd.prog 80 #[.agg #[.slice Ar S.nr cr, .slice Af S.nf cf, .int .i64 S.deep, .int .i64 S.haul, .int .i64 S.rest], .slice A m c] w fun e w' => e = .returned (.bool (S.planB m g)) ∧ Below w.heap.size w w' := by
  have hb0 := bAlloc (Below.refl w.heap.size w) (.cells #[.slice Ar S.nr cr, .slice Af S.nf cf, .int .i64 S.deep, .int .i64 S.haul, .int .i64 S.rest] 75)
  have HS := Lib.hid (hS.mono hb0)
  have HG := Lib.hid (hg.mono hb0)
  have HB := Lib.hid hb0
  clear hS hg hb0
  have hnf := ok.nf
  have HP0 : ∀ h : stopAt g m = S.nf, Rising 1 S.nf m g → (∀ i, i < m → S.restsB (g i).toNat = true) → (((S.firstFall (memOf m g) : Int) == (S.nf : Int)) = true ∧ S.planB m g = true) ∨ (((S.firstFall (memOf m g) : Int) == (S.nf : Int)) = false ∧ S.planB m g = false) := by
    intro h hR hrest
    have hff2 := firstFall_le S (memOf m g)
    rcases Nat.lt_or_ge (S.firstFall (memOf m g)) S.nf with hff | hff
    · exact .inr ⟨by simp; omega, S.planB_f fun h => by have := h.fall; omega⟩
    · exact .inl ⟨by simp; omega, S.planB_t ⟨hR, by omega, hrest, h⟩⟩
  have HPP := Lib.hid HP0
  clear HP0
  by_cases hm0 : m = 0
  · subst hm0
    rcases good_cases S 0 g with ⟨h1, h2⟩ | ⟨_, h1, h2, h3⟩ | ⟨_, h1, h2, h3⟩ | ⟨h0, _, _, _⟩ | ⟨h0, _, _, _⟩
    · have HP := Lib.hid (S.planB_f h2)
      clear h2
      go_enter Tryd.func80, Tryd.ntmps80
      go_wp2_with (go_at_call 82; refine (areStops_any _ _ _ _ S _ _ _ g _ hm HG.out).mono ?_; rintro e w1 ⟨rfl, hb1⟩)
      go_ret
      exact ⟨ret_bool HP.out.symm, bTrans HB.out hb1⟩
    · have HP := Lib.hid (S.planB_f h3)
      clear h3
      go_enter Tryd.func80, Tryd.ntmps80
      go_wp2_with (go_at_call 82; refine (areStops_any _ _ _ _ S _ _ _ g _ hm HG.out).mono ?_; rintro e w1 ⟨rfl, hb1⟩; obtain ⟨bc1, bf1⟩ := bcell hb1; have hz1 := hb1.size; simp only [World.size_alloc] at hz1; have hy1 : w.heap.size < w1.heap.size := hz1)
      go_ret
      exact ⟨ret_bool HP.out.symm, bTrans HB.out hb1⟩
    · have HL := Lib.hid h3
      have HR := Lib.hid (rising_iff.1 h1)
      clear h3
      go_enter Tryd.func80, Tryd.ntmps80
      go_wp2_with (go_at_call 82; refine (areStops_any _ _ _ _ S _ _ _ g _ hm HG.out).mono ?_; rintro e w1 ⟨rfl, hb1⟩; obtain ⟨bc1, bf1⟩ := bcell hb1; have hz1 := hb1.size; simp only [World.size_alloc] at hz1; have hy1 : w.heap.size < w1.heap.size := hz1)
      go_loopw [32] (fun i wr => i = .int .i64 0 ∧ Below w1.heap.size w1 wr) (fun i _ => 0)
      case atStart => exact ⟨rfl, Below.refl _ _⟩
      case round =>
        obtain ⟨rfl, hbel⟩ := hrel
        obtain ⟨bc3, bf3⟩ := bcell hbel
        have hz3 := hbel.size
        have hy3 : w.heap.size < wr.heap.size := by omega
        have HS2 := Lib.hid ((HS.out.mono hb1).mono hbel)
        have HG2 := Lib.hid ((HG.out.mono hb1).mono hbel)
        have HB2 := Lib.hid (bTrans (bTrans HB.out hb1) hbel)
        clear hb1 hbel
        rcases HPP.out HL.out HR.out (fun i hi => absurd hi (Nat.not_lt_zero i)) with ⟨he, hp⟩ | ⟨he, hp⟩
        all_goals
          have HP := Lib.hid hp
          have HE := Lib.hid he
          clear hp he
          go_wp2_with fail
          refine wp_region_quiet_below (by kernel_rfl) (by kernel_rfl) ?_
          repeat (go_big_quiet_step ((go_at_call 83; exact Calls.regrown_of (firstFall_any _ _ _ _ S _ ok (HS2.out.mono (below_regrown _ _ _)) _ _ _ g hm (HG2.out.mono (below_regrown _ _ _)) HR.out))))
          refine wpQuiet_nil ?_
          intro w4 hw4
          have hb4 := below_of_regrown hw4
          clear hw4
          go_wp2_with fail
          go_ret
          exact ⟨ret_bool (by rw [HP.out]; first | exact HE.out | simpa using HE.out), bTrans HB2.out hb4⟩
    · omega
    · omega
  · have hmi : (0 : Int) < (m : Int) := by omega
    rcases good_cases S m g with ⟨h1, h2⟩ | ⟨h0, _, _, _⟩ | ⟨h0, _, _, _⟩ | ⟨h0, h1, h2, h3⟩ | ⟨h0, h1, h2, h3⟩
    · have HP := Lib.hid (S.planB_f h2)
      clear h2
      rcases HG.out with h0 | ⟨b, o, hA, hb, hcell⟩
      · omega
      have c0 := hcell (m - 1) (by omega)
      clear hcell hm0
      subst hA
      go_enter Tryd.func80, Tryd.ntmps80
      go_wp2_with (go_at_call 82; refine (areStops_any _ _ _ _ S _ _ _ g _ hm HG.out).mono ?_; rintro e w1 ⟨rfl, hb1⟩)
      go_ret
      exact ⟨ret_bool HP.out.symm, bTrans HB.out hb1⟩
    · omega
    · omega
    · have HP := Lib.hid (S.planB_f h3)
      clear h3
      rcases HG.out with h0 | ⟨b, o, hA, hb, hcell⟩
      · omega
      have c0 := hcell (m - 1) (by omega)
      clear hcell hm0
      subst hA
      go_enter Tryd.func80, Tryd.ntmps80
      go_wp2_with (go_at_call 82; refine (areStops_any _ _ _ _ S _ _ _ g _ hm HG.out).mono ?_; rintro e w1 ⟨rfl, hb1⟩; obtain ⟨bc1, bf1⟩ := bcell hb1; have hz1 := hb1.size; simp only [World.size_alloc] at hz1; have hy1 : w.heap.size < w1.heap.size := hz1)
      go_ret
      exact ⟨ret_bool HP.out.symm, bTrans HB.out hb1⟩
    · have HL := Lib.hid h3
      have HR := Lib.hid (rising_iff.1 h1)
      clear h3
      rcases HG.out with h0 | ⟨b, o, hA, hb, hcell⟩
      · omega
      have c0 := hcell (m - 1) (by omega)
      clear hm0
      subst hA
      have HC := Lib.hid hcell
      clear hcell
      go_enter Tryd.func80, Tryd.ntmps80
      go_wp2_with (go_at_call 82; refine (areStops_any _ _ _ _ S _ _ _ g _ hm HG.out).mono ?_; rintro e w1 ⟨rfl, hb1⟩; obtain ⟨bc1, bf1⟩ := bcell hb1; have hz1 := hb1.size; simp only [World.size_alloc] at hz1; have hy1 : w.heap.size < w1.heap.size := hz1)
      go_loopw [32] (fun i wr => ∃ k : Nat, k ≤ m ∧ i = .int .i64 k ∧ (∀ j, j < k → S.restsB (g j).toNat = true) ∧ Below w1.heap.size w1 wr) (fun i _ => m - (intOf i).toNat)
      case atStart => exact ⟨0, Nat.zero_le _, rfl, fun j hj => by omega, Below.refl _ _⟩
      case round =>
        obtain ⟨k, hk, rfl, hno, hbel⟩ := hrel
        have HN := Lib.hid hno
        clear hno
        obtain ⟨bc3, bf3⟩ := bcell hbel
        have hz3 := hbel.size
        have hy3 : w.heap.size < wr.heap.size := by omega
        have HS2 := Lib.hid ((HS.out.mono hb1).mono hbel)
        have HG2 := Lib.hid ((HG.out.mono hb1).mono hbel)
        have HB2 := Lib.hid (bTrans (bTrans HB.out hb1) hbel)
        by_cases hlt : k < m
        · have c1 := HC.out k hlt
          have hbb : b < w1.heap.size := Nat.lt_of_lt_of_le hb hb1.size
          have c2 := (hb1.cell (p := ⟨b, o + k, none⟩) hb).trans c1
          have c3 := (hbel.cell (p := ⟨b, o + k, none⟩) hbb).trans c2
          clear c0 c1 c2 hbb
          obtain ⟨hs0, hs1, hs2⟩ := stop_nat HR.out hlt
          have HS0 := Lib.hid hs0
          clear hs0
          cases hrest : S.restsB (g k).toNat
          all_goals
            go_wp2_with (go_at_call 91; refine (rests_any _ _ _ _ S _ ok HS2.out _ _ HS0.out hs1 hs2).mono ?_; rintro e w4 ⟨rfl, hb4⟩)
          · go_ret
            exact ⟨ret_bool (S.planB_f fun h => by rw [h.rest k hlt] at hrest; cases hrest).symm, bTrans HB2.out hb4⟩
          · go_roundw
            case rel => exact ⟨k + 1, by omega, by go_num, forall_lt_succ HN.out hrest, bTrans hbel hb4⟩
            case measure => simp [intOf]; omega
        · obtain rfl : k = m := by omega
          clear hb1 hbel
          rcases HPP.out HL.out HR.out HN.out with ⟨he, hp⟩ | ⟨he, hp⟩
          all_goals
            have HP := Lib.hid hp
            have HE := Lib.hid he
            clear hp he
            go_wp2_with fail
            refine wp_region_quiet_below (by kernel_rfl) (by kernel_rfl) ?_
            repeat (go_big_quiet_step ((go_at_call 83; exact Calls.regrown_of (firstFall_any _ _ _ _ S _ ok (HS2.out.mono (below_regrown _ _ _)) _ _ _ g hm (HG2.out.mono (below_regrown _ _ _)) HR.out))))
            refine wpQuiet_nil ?_
            intro w4 hw4
            have hb4 := below_of_regrown hw4
            clear hw4
            go_wp2_with fail
            go_ret
            exact ⟨ret_bool (by rw [HP.out]; first | exact HE.out | simpa using HE.out), bTrans HB2.out hb4⟩
end Go.Proofs.YtbbnpneabmldnaaDoor
