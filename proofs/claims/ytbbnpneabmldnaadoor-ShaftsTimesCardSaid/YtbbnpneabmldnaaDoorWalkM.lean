/- Walk: IsPlan (the reference). -/
import Derived.Test.YtbbnpneabmldnaaDoorWalkL
namespace Go.Proofs.YtbbnpneabmldnaaDoor
open Go.RowKit Go.Sort
theorem firstFall_le (S : Sh) (mem : Nat → Bool) : S.firstFall mem ≤ S.nf := by
  have := (firstFrom_spec (S.fallAt mem) S.nf 0).2.1; unfold Sh.firstFall; omega
theorem fallsOf_cases (S : Sh) (mem : Nat → Bool) : (S.firstFall mem = S.nf ∧ S.fallsOf mem = -1) ∨ (S.firstFall mem < S.nf ∧ S.fallsOf mem = S.firstFall mem ∧ 0 ≤ S.fallsOf mem) := by
  have := firstFall_le S mem
  unfold Sh.fallsOf
  by_cases h : S.firstFall mem = S.nf
  · exact .inl ⟨h, if_pos h⟩
  · rw [if_neg h]; exact .inr ⟨by omega, rfl, by omega⟩
theorem plan_last {S : Sh} {m : Nat} {g : Nat → Int} (hR : Rising 1 S.nf m g) : (((S.nf : Int) == 0) = true ∧ (S.nf == 0) = true ∧ stopAt g m = S.nf) ∨
    (((S.nf : Int) == 0) = false ∧ (S.nf == 0) = false ∧ decide ((0 : Int) < (m : Int)) = false ∧ decide (0 < m) = false ∧ stopAt g m ≠ S.nf) ∨
    (((S.nf : Int) == 0) = false ∧ (S.nf == 0) = false ∧ (0 : Int) < (m : Int) ∧ 0 < m ∧ (g (m - 1) == (S.nf : Int)) = false ∧ stopAt g m ≠ S.nf) ∨
    (((S.nf : Int) == 0) = false ∧ (S.nf == 0) = false ∧ (0 : Int) < (m : Int) ∧ 0 < m ∧ (g (m - 1) == (S.nf : Int)) = true ∧ stopAt g m = S.nf) := by
  have hc := hR.count
  by_cases h0 : S.nf = 0
  · have : m = 0 := by omega
    subst this
    exact .inl ⟨by simp [h0], by simp [h0], by simp [stopAt, h0]⟩
  · have e1 : ((S.nf : Int) == 0) = false := by simp [h0]
    have e2 : (S.nf == 0) = false := by simp [h0]
    cases m with
    | zero => exact .inr (.inl ⟨e1, e2, by simp, by simp, by simp only [stopAt]; omega⟩)
    | succ k =>
      have hl := hR.lo k (by omega)
      by_cases h : g k = (S.nf : Int)
      · exact .inr (.inr (.inr ⟨e1, e2, by omega, by omega, by simp [h], by simp only [stopAt]; omega⟩))
      · exact .inr (.inr (.inl ⟨e1, e2, by omega, by omega, by simp [h], by simp only [stopAt]; omega⟩))
set_option maxHeartbeats 2000000 in
theorem isPlan_any (Ar Af : Option Addr) (cr cf : Nat) (S : Sh) (w : World) (ok : S.Ok) (hS : ShAt w Ar Af S) (A : Option Addr) (m c : Nat) (g : Nat → Int) (hm : m ≤ 9223372036854775807) (hg : IntsAt w A m g) :
    Calls Tryd.prog 29 #[.agg #[.slice Ar S.nr cr, .slice Af S.nf cf, .int .i64 S.deep, .int .i64 S.haul, .int .i64 S.rest], .slice A m c] w fun e w' => e = .returned (.bool (S.planB m g)) ∧ Below w.heap.size w w' := by
  have hb0 := bAlloc (Below.refl w.heap.size w) (.cells #[.slice Ar S.nr cr, .slice Af S.nf cf, .int .i64 S.deep, .int .i64 S.haul, .int .i64 S.rest] 25)
  have HS := Lib.hid (hS.mono hb0)
  have HG := Lib.hid (hg.mono hb0)
  have HB := Lib.hid hb0
  clear hS hg hb0
  have hnf := ok.nf
  cases hrb : risingB 1 S.nf m g
  · have HE := Lib.hid (S.planB_f (m := m) (g := g) fun h => by rw [rising_iff.2 h.rising] at hrb; cases hrb)
    go_enter Tryd.func29, Tryd.ntmps29
    go_wp2_with (go_at_call 52; refine (areStops_ref _ _ _ _ S _ _ _ g _ hm HG.out).mono ?_; rintro e w1 ⟨rfl, hb1⟩)
    go_ret
    exact ⟨ret_bool HE.out.symm, bTrans HB.out hb1⟩
  · have HR := Lib.hid (rising_iff.1 hrb)
    rcases fallsOf_cases S (memOf m g) with ⟨hff, hfo⟩ | ⟨hff, _, hfo⟩
    · have HFF := Lib.hid hff
      clear hff
      go_enter Tryd.func29, Tryd.ntmps29
      go_wp2_with (first | (go_at_call 52; refine (areStops_ref _ _ _ _ S _ _ _ g _ hm HG.out).mono ?_; rintro e w1 ⟨rfl, hb1⟩; obtain ⟨bc1, bf1⟩ := bcell hb1; have hz1 := hb1.size; simp only [World.size_alloc] at hz1; have hy1 : w.heap.size < w1.heap.size := hz1) | (go_at_call 78; refine (fallsOf_any _ _ _ _ S _ ok (HS.out.mono hb1) _ _ _ g hm (HG.out.mono hb1)).mono ?_; rintro e w2 ⟨rfl, hb2⟩; obtain ⟨bc2, bf2⟩ := bcell hb2; have hz2 := hb2.size; have hy2 : w.heap.size < w2.heap.size := (by omega)))
      have HB2 := Lib.hid (bTrans (bTrans HB.out hb1) hb2)
      have HS2 := Lib.hid ((HS.out.mono hb1).mono hb2)
      have HG2 := Lib.hid ((HG.out.mono hb1).mono hb2)
      clear hb1 hb2
      go_loopw [5] (fun i wr => ∃ k : Nat, k ≤ m ∧ i = .int .i64 k ∧ (∀ j, j < k → S.restsB (g j).toNat = true) ∧ Below w2.heap.size w2 wr) (fun i _ => m - (intOf i).toNat)
      case atStart => exact ⟨0, Nat.zero_le _, rfl, fun j hj => by omega, Below.refl _ _⟩
      case round =>
        obtain ⟨k, hk, rfl, hno, hbel⟩ := hrel
        have HN := Lib.hid hno
        clear hno
        obtain ⟨bc3, bf3⟩ := bcell hbel
        have hz3 := hbel.size
        have hy3 : w.heap.size < wr.heap.size := by omega
        by_cases hlt : k < m
        · rcases HG2.out.mono hbel with h0 | ⟨b, o, hA, hb, hcell⟩
          · omega
          have c0 := hcell k hlt
          clear hcell
          subst hA
          obtain ⟨hs0, hs1, hs2⟩ := stop_nat HR.out hlt
          have HS0 := Lib.hid hs0
          clear hs0
          cases hrest : S.restsB (g k).toNat
          all_goals
            go_wp2_with fail
            refine wp_region_quiet_below (by kernel_rfl) (by kernel_rfl) ?_
            repeat (go_big_quiet_step ((go_at_call 54; exact Calls.regrown_of (canRest_any _ _ _ _ S _ ok ((HS2.out.mono hbel).mono (below_regrown _ _ _)) _ _ HS0.out hs1 hs2))))
            refine wpQuiet_nil ?_
            intro w4 hw4
            have hb4 := below_of_regrown hw4
            clear hw4
            go_wp2_with fail
          · go_ret
            exact ⟨ret_bool (S.planB_f fun h => by rw [h.rest k hlt] at hrest; cases hrest).symm, bTrans (bTrans HB2.out hbel) hb4⟩
          · go_roundw
            case rel => exact ⟨k + 1, by omega, by go_num, forall_lt_succ HN.out hrest, bTrans hbel hb4⟩
            case measure => simp [intOf]; omega
        · obtain rfl : k = m := by omega
          rcases plan_last HR.out with ⟨p1, p2, p3⟩ | ⟨p1, p2, p3, p4, p5⟩ | ⟨p1, p2, p3, p4, p5, p6⟩ | ⟨p1, p2, p3, p4, p5, p6⟩
          · have HP := Lib.hid p3
            clear p3
            go_wp2_with fail
            refine wp_region_quiet_below (by kernel_rfl) (by kernel_rfl) ?_
            repeat (go_big_quiet_step ((fail)))
            refine wpQuiet_nil ?_
            intro w4 hw4
            have hb4 := below_of_regrown hw4
            clear hw4
            go_wp2_with fail
            go_ret
            exact ⟨ret_bool (S.planB_t ⟨HR.out, HFF.out, HN.out, HP.out⟩).symm, bTrans (bTrans HB2.out hbel) hb4⟩
          · have HP := Lib.hid p5
            clear p5
            go_wp2_with fail
            refine wp_region_quiet_below (by kernel_rfl) (by kernel_rfl) ?_
            repeat (go_big_quiet_step ((fail)))
            refine wpQuiet_nil ?_
            intro w4 hw4
            have hb4 := below_of_regrown hw4
            clear hw4
            go_wp2_with fail
            go_ret
            exact ⟨ret_bool (S.planB_f fun h => HP.out h.last).symm, bTrans (bTrans HB2.out hbel) hb4⟩
          all_goals
            have HP := Lib.hid p6
            clear p6
            rcases HG2.out.mono hbel with h0 | ⟨b, o, hA, hb, hcell⟩
            · omega
            have c0 := hcell (k - 1) (by omega)
            clear hcell
            subst hA
            go_wp2_with fail
            refine wp_region_quiet_below (by kernel_rfl) (by kernel_rfl) ?_
            repeat (go_big_quiet_step ((fail)))
            refine wpQuiet_nil ?_
            intro w4 hw4
            have hb4 := below_of_regrown hw4
            clear hw4
            go_wp2_with fail
            go_ret
          · exact ⟨ret_bool (S.planB_f fun h => HP.out h.last).symm, bTrans (bTrans HB2.out hbel) hb4⟩
          · exact ⟨ret_bool (S.planB_t ⟨HR.out, HFF.out, HN.out, HP.out⟩).symm, bTrans (bTrans HB2.out hbel) hb4⟩
    · have HE := Lib.hid (S.planB_f (m := m) (g := g) fun h => by have := h.fall; omega)
      clear hff
      go_enter Tryd.func29, Tryd.ntmps29
      go_wp2_with (first | (go_at_call 52; refine (areStops_ref _ _ _ _ S _ _ _ g _ hm HG.out).mono ?_; rintro e w1 ⟨rfl, hb1⟩; obtain ⟨bc1, bf1⟩ := bcell hb1; have hz1 := hb1.size; simp only [World.size_alloc] at hz1; have hy1 : w.heap.size < w1.heap.size := hz1) | (go_at_call 78; refine (fallsOf_any _ _ _ _ S _ ok (HS.out.mono hb1) _ _ _ g hm (HG.out.mono hb1)).mono ?_; rintro e w2 ⟨rfl, hb2⟩; obtain ⟨bc2, bf2⟩ := bcell hb2; have hz2 := hb2.size; have hy2 : w.heap.size < w2.heap.size := (by omega)))
      go_ret
      exact ⟨ret_bool HE.out.symm, bTrans (bTrans HB.out hb1) hb2⟩
end Go.Proofs.YtbbnpneabmldnaaDoor
