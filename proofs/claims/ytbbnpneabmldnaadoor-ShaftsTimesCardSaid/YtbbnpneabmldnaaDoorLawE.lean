/- Walk: ShaftsPrice returns true. Condition: the way that there is not lies in its variable. -/
import Derived.Test.YtbbnpneabmldnaaDoorLawD
namespace Go.Proofs.YtbbnpneabmldnaaDoor
open Go.RowKit Go.Sort
theorem huge_no {S : Sh} {n : Nat} (h : S.hugeB n = false) : S.nr ≤ 40 ∧ S.nf ≤ 40 ∧ n ≤ 40 := by
  unfold Sh.hugeB at h; simp at h; omega
set_option maxHeartbeats 8000000 in
set_option maxRecDepth 100000 in
theorem ShaftsPrice_any (Ar Af : Option Addr) (cr cf : Nat) (S : Sh) (n : Int) (w : World) (hr : S.nr ≤ 9223372036854775807) (hf : S.nf ≤ 9223372036854775807) (hS : ShAt w Ar Af S) (hN : NoneAt w) :
    Calls Tryd.prog 3 #[.agg #[.slice Ar S.nr cr, .slice Af S.nf cf, .int .i64 S.deep, .int .i64 S.haul, .int .i64 S.rest], .int .i64 n] w fun e w' => e = .returned (.bool true) ∧ Below w.heap.size w w' := by
  have hb0 := bAlloc (Below.refl w.heap.size w) (.cells #[.slice Ar S.nr cr, .slice Af S.nf cf, .int .i64 S.deep, .int .i64 S.haul, .int .i64 S.rest] 25)
  have HS := Lib.hid (hS.mono hb0)
  have HN := Lib.hid (hN.mono hb0)
  have HB := Lib.hid hb0
  clear hS hN hb0
  cases hh : S.hugeB 0
  · obtain ⟨h40, h41, _⟩ := huge_no hh
    go_enter Tryd.func3, Tryd.ntmps3
    go_wp2_with (go_at_call 15; refine (Huge_any _ _ _ _ S _ _ _ _ hr hf (by omega)).mono ?_; rintro e w1 ⟨rfl, hb1⟩; obtain ⟨bc1, bf1⟩ := bcell hb1; have hz1 := hb1.size; simp only [World.size_alloc] at hz1; have hy1 : w.heap.size < w1.heap.size := (by omega))
    refine (Copy_any _ _ _ _ S _ (by omega) (by omega) (HS.out.mono hb1)).mono ?_
    rintro e w2 ⟨⟨A2, F2, c2, d2, rfl, hS2, hFr, hFf⟩, hb2⟩
    have HB2 := Lib.hid (Below.refl (w2.alloc (.cells #[.slice A2 S.nr c2, .slice F2 S.nf d2, .int .i64 S.deep, .int .i64 S.haul, .int .i64 S.rest] 25)).heap.size (w2.alloc (.cells #[.slice A2 S.nr c2, .slice F2 S.nf d2, .int .i64 S.deep, .int .i64 S.haul, .int .i64 S.rest] 25)))
    have HB0 := Lib.hid (bTrans HB.out (bTrans (bTrans hb1 hb2) (bAlloc (Below.refl _ _) (.cells #[.slice A2 S.nr c2, .slice F2 S.nf d2, .int .i64 S.deep, .int .i64 S.haul, .int .i64 S.rest] 25))))
    have HBx := Lib.hid (bTrans (bTrans hb1 hb2) (bAlloc (Below.refl _ _) (.cells #[.slice A2 S.nr c2, .slice F2 S.nf d2, .int .i64 S.deep, .int .i64 S.haul, .int .i64 S.rest] 25)))
    have HS2 := Lib.hid (hS2.mono (bAlloc (Below.refl _ _) (.cells #[.slice A2 S.nr c2, .slice F2 S.nf d2, .int .i64 S.deep, .int .i64 S.haul, .int .i64 S.rest] 25)))
    have HO2 := Lib.hid ((HS.out.mono (bTrans hb1 hb2)).mono (bAlloc (Below.refl _ _) (.cells #[.slice A2 S.nr c2, .slice F2 S.nf d2, .int .i64 S.deep, .int .i64 S.haul, .int .i64 S.rest] 25)))
    have HN2 := Lib.hid ((HN.out.mono (bTrans hb1 hb2)).mono (bAlloc (Below.refl _ _) (.cells #[.slice A2 S.nr c2, .slice F2 S.nf d2, .int .i64 S.deep, .int .i64 S.haul, .int .i64 S.rest] 25)))
    obtain ⟨bc2, bf2⟩ := bcell (bTrans hb1 hb2)
    have hz2 := (bTrans hb1 hb2).size
    simp only [World.size_alloc] at hz2
    have hy2 : w.heap.size < w2.heap.size := by omega
    have hx2 : True := trivial
    have HFR := Lib.hid hFr
    have HFF := Lib.hid hFf
    clear hb1 hb2 bc1 bf1 hz1 hy1 hS2 hFr hFf
    go_wp2_with fail
    refine wp_region_quiet_below (by kernel_rfl) (by kernel_rfl) ?_
    repeat (go_big_quiet_step (((first | (go_at_call 18; exact Calls.regrown_of (check_any _ _ _ _ S _ hr hf (HS2.out.mono (below_regrown _ _ _)))) | (go_at_call 19; exact Calls.regrown_of (refCheck_any _ _ _ _ S _ hr hf (HO2.out.mono (below_regrown _ _ _))))))))
    refine wpQuiet_nil ?_
    intro w3 hw3
    have hb3 := below_of_regrown hw3
    clear hw3
    have HB3 := Lib.hid (bTrans HB2.out hb3)
    have HS3 := Lib.hid (HS2.out.mono hb3)
    have HO3 := Lib.hid (HO2.out.mono hb3)
    have HN3 := Lib.hid (HN2.out.mono hb3)
    obtain ⟨bc3, bf3⟩ := bcell HB3.out
    have hz3 := HB3.out.size
    simp only [World.size_alloc] at hz3
    have hy3 : w.heap.size < w3.heap.size := by omega
    have hx3 : w2.heap.size < w3.heap.size := by omega
    obtain ⟨p, q, r, hp⟩ : ∃ p q r, S.priceOut n = (p, q, r) := ⟨_, _, _, rfl⟩
    have HP := Lib.hid hp
    clear hb3 hp HS2 HO2 HN2
    go_wp2_with fail
    refine (Price_any _ _ _ _ S n _ hr hf HS3.out).mono ?_
    rintro e w4 ⟨he4, hb4⟩
    rw [HP.out] at he4; subst he4
    have HB4 := Lib.hid (bTrans HB3.out hb4)
    have HS4 := Lib.hid (HS3.out.mono hb4)
    have HO4 := Lib.hid (HO3.out.mono hb4)
    have HN4 := Lib.hid (HN3.out.mono hb4)
    obtain ⟨bc4, bf4⟩ := bcell HB4.out
    have hz4 := HB4.out.size
    simp only [World.size_alloc] at hz4
    have hy4 : w.heap.size < w4.heap.size := by omega
    have hx4 : w2.heap.size < w4.heap.size := by omega
    clear hb4 bc3 bf3 hz3 hy3 hx3 HB3 HS3 HO3 HN3
    go_wp2_with fail
    refine (refPrice_any _ _ _ _ S n _ hr hf HO4.out).mono ?_
    rintro e w5 ⟨he5, hb5⟩
    rw [HP.out] at he5; subst he5
    have HB5 := Lib.hid (bTrans HB4.out hb5)
    have HS5 := Lib.hid (HS4.out.mono hb5)
    have HO5 := Lib.hid (HO4.out.mono hb5)
    have HN5 := Lib.hid (HN4.out.mono hb5)
    obtain ⟨bc5, bf5⟩ := bcell HB5.out
    have hz5 := HB5.out.size
    simp only [World.size_alloc] at hz5
    have hy5 : w.heap.size < w5.heap.size := by omega
    have hx5 : w2.heap.size < w5.heap.size := by omega
    clear hb5 bc4 bf4 hz4 hy4 hx4 HB4 HS4 HO4 HN4
    go_wp2_with fail
    refine (Same_true _ _ _ _ _ _ _ _ S _ (by omega) (by omega) HS5.out HO5.out).mono ?_
    rintro e w6 ⟨he6, hb6⟩
    subst he6
    have HB6 := Lib.hid (bTrans HB5.out hb6)
    have HS6 := Lib.hid (HS5.out.mono hb6)
    have HO6 := Lib.hid (HO5.out.mono hb6)
    have HN6 := Lib.hid (HN5.out.mono hb6)
    obtain ⟨bc6, bf6⟩ := bcell HB6.out
    have hz6 := HB6.out.size
    simp only [World.size_alloc] at hz6
    have hy6 : w.heap.size < w6.heap.size := by omega
    have hx6 : w2.heap.size < w6.heap.size := by omega
    clear hb6 bc5 bf5 hz5 hy5 hx5 HB5 HS5 HO5 HN5
    go_wp2_with fail
    refine (works_any _ HN6.out).mono ?_
    rintro e w7 ⟨rfl, hb7⟩
    go_wp2_with fail
    go_ret
    exact ⟨rfl, bTrans (bTrans HB0.out HB6.out) hb7⟩
  · go_enter Tryd.func3, Tryd.ntmps3
    go_wp2_with (first | (go_at_call 15; refine (Huge_any _ _ _ _ S _ _ _ _ hr hf (by omega)).mono ?_; rintro e w1 ⟨rfl, hb1⟩) | (go_at_call 16; refine (works_any _ (HN.out.mono hb1)).mono ?_; rintro e w2 ⟨rfl, hb2⟩))
    go_ret
    exact ⟨rfl, by have := HB.out; (repeat (first | (with_reducible exact Below.refl _ _) | (with_reducible refine bAlloc ?_ _) | (with_reducible refine bDrew ?_) | (with_reducible refine bGrow ?_ _ _) | (with_reducible refine bSet ?_ ?_ _; (first | exact Nat.le_refl _ | exact Nat.le_add_right _ _ | (simp; omega))) | (with_reducible refine bTrans ?_ (by assumption))))⟩
end Go.Proofs.YtbbnpneabmldnaaDoor
