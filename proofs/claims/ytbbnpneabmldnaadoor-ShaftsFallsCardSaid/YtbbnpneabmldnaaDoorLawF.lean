/- Walk: ShaftsFalls returns true. Condition: the way that there is not lies in its variable. -/
import Derived.Test.YtbbnpneabmldnaaDoorLawE
namespace Go.Proofs.YtbbnpneabmldnaaDoor
open Go.RowKit Go.Sort
set_option maxHeartbeats 8000000 in
set_option maxRecDepth 100000 in
theorem ShaftsFalls_any (Ar Af : Option Addr) (cr cf : Nat) (S : Sh) (A : Option Addr) (m c : Nat) (g : Nat → Int) (w : World) (hr : S.nr ≤ 9223372036854775807) (hf : S.nf ≤ 9223372036854775807) (hS : ShAt w Ar Af S) (hN : NoneAt w) (hg : IntsAt w A m g) (hm : m ≤ 9223372036854775807) :
    Calls Tryd.prog 14 #[.agg #[.slice Ar S.nr cr, .slice Af S.nf cf, .int .i64 S.deep, .int .i64 S.haul, .int .i64 S.rest], .slice A m c] w fun e w' => e = .returned (.bool true) ∧ Below w.heap.size w w' := by
  have hb0 := bAlloc (Below.refl w.heap.size w) (.cells #[.slice Ar S.nr cr, .slice Af S.nf cf, .int .i64 S.deep, .int .i64 S.haul, .int .i64 S.rest] 25)
  have HS := Lib.hid (hS.mono hb0)
  have HN := Lib.hid (hN.mono hb0)
  have HG := Lib.hid (hg.mono hb0)
  have HB := Lib.hid hb0
  clear hS hN hg hb0
  cases hh : S.hugeB m
  · obtain ⟨h40, h41, h42⟩ := huge_no hh
    go_enter Tryd.func14, Tryd.ntmps14
    go_wp2_with (go_at_call 15; refine (Huge_any _ _ _ _ S _ _ _ _ hr hf hm).mono ?_; rintro e w1 ⟨rfl, hb1⟩; obtain ⟨bc1, bf1⟩ := bcell hb1; have hz1 := hb1.size; simp only [World.size_alloc] at hz1; have hy1 : w.heap.size < w1.heap.size := (by omega))
    refine (Copy_any _ _ _ _ S _ (by omega) (by omega) (HS.out.mono hb1)).mono ?_
    rintro e w2 ⟨⟨A2, F2, c2, d2, rfl, hS2, hFr, hFf⟩, hb2⟩
    have HC2 := Lib.hid hS2
    have HB2 := Lib.hid (bTrans hb1 hb2)
    obtain ⟨bc2, bf2⟩ := bcell HB2.out
    have hz2 := HB2.out.size
    simp only [World.size_alloc] at hz2
    have hy2 : w.heap.size < w2.heap.size := by omega
    clear hb1 hb2 bc1 bf1 hz1 hy1 hS2 hFr hFf
    go_wp2_with (at_builtin; refine wpList_copy_row _ rfl _ _ _ rfl 3 _ 1 8 infoInt Tryd.underlying23 rfl (by decide) ⟨w2.heap.size, 0, none⟩ A m c (intL g m) rfl rfl (by rw [intL_len]; omega) ((intsAt_row.1 (HG.out.mono HB2.out)).mono (bAlloc (Below.refl _ _) _)) (intL_one _ _) (by omega) (by decide) w2.heap.size (by simp) (Nat.le_refl _) ?_)
    intro A3 c3 w3 hrow hfr hnew
    have hb3 : Below w2.heap.size w2 w3 := bTrans (bAlloc (Below.refl _ _) _) hnew
    have hbz := bAlloc (Below.refl w3.heap.size w3) (.cells #[.slice A2 S.nr c2, .slice F2 S.nf d2, .int .i64 S.deep, .int .i64 S.haul, .int .i64 S.rest] 25)
    have HS3 := Lib.hid ((HC2.out.mono hb3).mono hbz)
    have HO3 := Lib.hid ((HS.out.mono (bTrans HB2.out hb3)).mono hbz)
    have HN3 := Lib.hid ((HN.out.mono (bTrans HB2.out hb3)).mono hbz)
    have HG3 := Lib.hid ((HG.out.mono (bTrans HB2.out hb3)).mono hbz)
    have HL3 := Lib.hid ((intsAt_row.2 hrow).mono hbz)
    have HB0 := Lib.hid (bTrans HB.out (bTrans (bTrans HB2.out hb3) hbz))
    have HB3 := Lib.hid (Below.refl (w3.alloc (.cells #[.slice A2 S.nr c2, .slice F2 S.nf d2, .int .i64 S.deep, .int .i64 S.haul, .int .i64 S.rest] 25)).heap.size (w3.alloc (.cells #[.slice A2 S.nr c2, .slice F2 S.nf d2, .int .i64 S.deep, .int .i64 S.haul, .int .i64 S.rest] 25)))
    obtain ⟨bcx, bfx⟩ := bcell (bTrans HB2.out hb3)
    have hzx := (bTrans HB2.out hb3).size
    simp only [World.size_alloc] at hzx
    have hyx : w.heap.size < w3.heap.size := by omega
    have bc3 : True := trivial
    have bf3 : True := trivial
    have hz3 : True := trivial
    have hy3 : True := trivial
    have hx3 : True := trivial
    obtain ⟨f1, f2, hfo⟩ : ∃ p q, S.fallsOut m g = (p, q) := ⟨_, _, rfl⟩
    obtain ⟨g1, g2, hgo⟩ : ∃ p q, S.goodOut m g = (p, q) := ⟨_, _, rfl⟩
    obtain ⟨k1, k2, k3, hko⟩ : ∃ p q r, S.costOut m g = (p, q, r) := ⟨_, _, _, rfl⟩
    have HFO := Lib.hid hfo
    have HGO := Lib.hid hgo
    have HKO := Lib.hid hko
    clear hfo hgo hko hrow hfr hnew hb3 hbz bc2 bf2 hz2 hy2 HB2 HC2 HS HN HG HB
    go_wp2_with fail
    refine (Falls_any _ _ _ _ S _ hr hf (HS3.out.mono HB3.out) _ _ _ g hm (HL3.out.mono HB3.out)).mono ?_
    rintro e w4 ⟨he4, hb4⟩
    rw [HFO.out] at he4; subst he4
    have HB4 := Lib.hid (bTrans HB3.out hb4)
    obtain ⟨bc4, bf4⟩ := bcell HB4.out
    have hz4 := HB4.out.size
    simp only [World.size_alloc] at hz4
    have hy4 : w.heap.size < w4.heap.size := by omega
    have hx4 : w3.heap.size < w4.heap.size := by omega
    clear hb4 bc3 bf3 hz3 hy3 hx3 HB3
    go_wp2_with fail
    refine (refFalls_any _ _ _ _ S _ hr hf (HO3.out.mono HB4.out) _ _ _ g hm (HG3.out.mono HB4.out)).mono ?_
    rintro e w5 ⟨he5, hb5⟩
    rw [HFO.out] at he5; subst he5
    have HB5 := Lib.hid (bTrans HB4.out hb5)
    obtain ⟨bc5, bf5⟩ := bcell HB5.out
    have hz5 := HB5.out.size
    simp only [World.size_alloc] at hz5
    have hy5 : w.heap.size < w5.heap.size := by omega
    have hx5 : w3.heap.size < w5.heap.size := by omega
    clear hb5 bc4 bf4 hz4 hy4 hx4 HB4
    go_wp2_with fail
    refine (Good_any _ _ _ _ S _ hr hf (HS3.out.mono HB5.out) _ _ _ g hm (HL3.out.mono HB5.out)).mono ?_
    rintro e w6 ⟨he6, hb6⟩
    rw [HGO.out] at he6; subst he6
    have HB6 := Lib.hid (bTrans HB5.out hb6)
    obtain ⟨bc6, bf6⟩ := bcell HB6.out
    have hz6 := HB6.out.size
    simp only [World.size_alloc] at hz6
    have hy6 : w.heap.size < w6.heap.size := by omega
    have hx6 : w3.heap.size < w6.heap.size := by omega
    clear hb6 bc5 bf5 hz5 hy5 hx5 HB5
    go_wp2_with fail
    refine (refGood_any _ _ _ _ S _ hr hf (HO3.out.mono HB6.out) _ _ _ g hm (HG3.out.mono HB6.out)).mono ?_
    rintro e w7 ⟨he7, hb7⟩
    rw [HGO.out] at he7; subst he7
    have HB7 := Lib.hid (bTrans HB6.out hb7)
    obtain ⟨bc7, bf7⟩ := bcell HB7.out
    have hz7 := HB7.out.size
    simp only [World.size_alloc] at hz7
    have hy7 : w.heap.size < w7.heap.size := by omega
    have hx7 : w3.heap.size < w7.heap.size := by omega
    clear hb7 bc6 bf6 hz6 hy6 hx6 HB6
    go_wp2_with fail
    refine (Cost_any _ _ _ _ S _ hr hf (HS3.out.mono HB7.out) _ _ _ g h42 (HL3.out.mono HB7.out)).mono ?_
    rintro e w8 ⟨he8, hb8⟩
    rw [HKO.out] at he8; subst he8
    have HB8 := Lib.hid (bTrans HB7.out hb8)
    obtain ⟨bc8, bf8⟩ := bcell HB8.out
    have hz8 := HB8.out.size
    simp only [World.size_alloc] at hz8
    have hy8 : w.heap.size < w8.heap.size := by omega
    have hx8 : w3.heap.size < w8.heap.size := by omega
    clear hb8 bc7 bf7 hz7 hy7 hx7 HB7
    go_wp2_with fail
    refine (refCost_any _ _ _ _ S _ hr hf (HO3.out.mono HB8.out) _ _ _ g h42 (HG3.out.mono HB8.out)).mono ?_
    rintro e w9 ⟨he9, hb9⟩
    rw [HKO.out] at he9; subst he9
    have HB9 := Lib.hid (bTrans HB8.out hb9)
    obtain ⟨bc9, bf9⟩ := bcell HB9.out
    have hz9 := HB9.out.size
    simp only [World.size_alloc] at hz9
    have hy9 : w.heap.size < w9.heap.size := by omega
    have hx9 : w3.heap.size < w9.heap.size := by omega
    clear hb9 bc8 bf8 hz8 hy8 hx8 HB8
    go_wp2_with fail
    refine (Same_true _ _ _ _ _ _ _ _ S _ (by omega) (by omega) (HS3.out.mono HB9.out) (HO3.out.mono HB9.out)).mono ?_
    rintro e w10 ⟨he10, hb10⟩
    subst he10
    have HB10 := Lib.hid (bTrans HB9.out hb10)
    obtain ⟨bc10, bf10⟩ := bcell HB10.out
    have hz10 := HB10.out.size
    simp only [World.size_alloc] at hz10
    have hy10 : w.heap.size < w10.heap.size := by omega
    have hx10 : w3.heap.size < w10.heap.size := by omega
    clear hb10 bc9 bf9 hz9 hy9 hx9 HB9
    go_wp2_with fail
    refine (sameInts_true _ _ _ _ _ g _ hm (HL3.out.mono HB10.out) (HG3.out.mono HB10.out)).mono ?_
    rintro e w11 ⟨he11, hb11⟩
    subst he11
    have HB11 := Lib.hid (bTrans HB10.out hb11)
    obtain ⟨bc11, bf11⟩ := bcell HB11.out
    have hz11 := HB11.out.size
    simp only [World.size_alloc] at hz11
    have hy11 : w.heap.size < w11.heap.size := by omega
    have hx11 : w3.heap.size < w11.heap.size := by omega
    clear hb11 bc10 bf10 hz10 hy10 hx10 HB10
    go_wp2_with fail
    refine (works_any _ (HN3.out.mono HB11.out)).mono ?_
    rintro e w12 ⟨rfl, hb12⟩
    go_wp2_with fail
    go_ret
    exact ⟨rfl, bTrans (bTrans HB0.out HB11.out) hb12⟩
  · go_enter Tryd.func14, Tryd.ntmps14
    go_wp2_with (first | (go_at_call 15; refine (Huge_any _ _ _ _ S _ _ _ _ hr hf hm).mono ?_; rintro e w1 ⟨rfl, hb1⟩) | (go_at_call 16; refine (works_any _ (HN.out.mono hb1)).mono ?_; rintro e w2 ⟨rfl, hb2⟩))
    go_ret
    exact ⟨rfl, by have := HB.out; (repeat (first | (with_reducible exact Below.refl _ _) | (with_reducible refine bAlloc ?_ _) | (with_reducible refine bDrew ?_) | (with_reducible refine bGrow ?_ _ _) | (with_reducible refine bSet ?_ ?_ _; (first | exact Nat.le_refl _ | exact Nat.le_add_right _ _ | (simp; omega))) | (with_reducible refine bTrans ?_ (by assumption))))⟩
end Go.Proofs.YtbbnpneabmldnaaDoor
