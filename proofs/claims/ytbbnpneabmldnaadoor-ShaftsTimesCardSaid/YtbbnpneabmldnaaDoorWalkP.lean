/- Walks: Price, Good, Cost of the program and of the reference: each pair hands back the same. -/
import Derived.Test.YtbbnpneabmldnaaDoorWalkO
namespace Go.Proofs.YtbbnpneabmldnaaDoor
open Go.RowKit Go.Sort
open Classical in
noncomputable def Sh.goodOut (S : Sh) (m : Nat) (g : Nat → Int) : Bool × Int := if S.Ok then (S.planB m g, 0) else (false, 20)
theorem goodOut_ok {S : Sh} {m : Nat} {g : Nat → Int} (h : S.Ok) : S.goodOut m g = (S.planB m g, 0) := if_pos h
theorem goodOut_bad {S : Sh} {m : Nat} {g : Nat → Int} (h : ¬ S.Ok) : S.goodOut m g = (false, 20) := if_neg h
open Classical in
noncomputable def Sh.costOut (S : Sh) (m : Nat) (g : Nat → Int) : Int × Int × Int := if S.Ok then (if S.planB m g then (S.costOf m g, S.hoursOf m, 0) else (0, 0, 1)) else (0, 0, 20)
theorem costOut_ok {S : Sh} {m : Nat} {g : Nat → Int} (h : S.Ok) (h2 : S.planB m g = true) : S.costOut m g = (S.costOf m g, S.hoursOf m, 0) := by unfold Sh.costOut; rw [if_pos h, if_pos h2]
theorem costOut_arg {S : Sh} {m : Nat} {g : Nat → Int} (h : S.Ok) (h2 : S.planB m g = false) : S.costOut m g = (0, 0, 1) := by unfold Sh.costOut; rw [if_pos h, if_neg (by rw [h2]; simp)]
theorem costOut_bad {S : Sh} {m : Nat} {g : Nat → Int} (h : ¬ S.Ok) : S.costOut m g = (0, 0, 20) := if_neg h
open Classical in
noncomputable def Sh.priceOut (S : Sh) (n : Int) : Int × Int × Int := if S.Ok then (if inR n 0 (S.nf - 1) then (S.price n.toNat, S.hour n.toNat, 0) else (0, 0, 1)) else (0, 0, 20)
theorem priceOut_ok {S : Sh} {n : Int} (h : S.Ok) (h2 : inR n 0 (S.nf - 1) = true) : S.priceOut n = (S.price n.toNat, S.hour n.toNat, 0) := by unfold Sh.priceOut; rw [if_pos h, if_pos h2]
theorem priceOut_arg {S : Sh} {n : Int} (h : S.Ok) (h2 : inR n 0 (S.nf - 1) = false) : S.priceOut n = (0, 0, 1) := by unfold Sh.priceOut; rw [if_pos h, if_neg (by rw [h2]; simp)]
theorem priceOut_bad {S : Sh} {n : Int} (h : ¬ S.Ok) : S.priceOut n = (0, 0, 20) := if_neg h
set_option maxHeartbeats 4000000 in
theorem Good_any (Ar Af : Option Addr) (cr cf : Nat) (S : Sh) (w : World) (hr : S.nr ≤ 9223372036854775807) (hf : S.nf ≤ 9223372036854775807) (hS : ShAt w Ar Af S) (A : Option Addr) (m c : Nat) (g : Nat → Int) (hm : m ≤ 9223372036854775807) (hg : IntsAt w A m g) :
    Calls Tryd.prog 50 #[.agg #[.slice Ar S.nr cr, .slice Af S.nf cf, .int .i64 S.deep, .int .i64 S.haul, .int .i64 S.rest], .slice A m c] w fun e w' => e = .returned (.tuple #[.bool (S.goodOut m g).1, .int .i64 (S.goodOut m g).2]) ∧ Below w.heap.size w w' := by
  have hb0 := bAlloc (Below.refl w.heap.size w) (.cells #[.slice Ar S.nr cr, .slice Af S.nf cf, .int .i64 S.deep, .int .i64 S.haul, .int .i64 S.rest] 25)
  have HS := Lib.hid (hS.mono hb0)
  have HG := Lib.hid (hg.mono hb0)
  have HB := Lib.hid hb0
  clear hS hg hb0
  by_cases hok : S.Ok
  · have HE := Lib.hid (goodOut_ok (m := m) (g := g) hok)
    go_enter Tryd.func50, Tryd.ntmps50
    go_wp2_with (first | (go_at_call 67; refine (open_yes _ _ _ _ S _ hok HS.out).mono ?_; rintro e w1 ⟨rfl, hb1⟩; obtain ⟨bc1, bf1⟩ := bcell hb1; have hz1 := hb1.size; simp only [World.size_alloc] at hz1; have hy1 : w.heap.size < w1.heap.size := hz1; have HS1 := Lib.hid ((HS.out.mono hb1).mono (bAlloc (Below.refl _ w1) (.cells #[.slice Ar S.nr cr, .slice Af S.nf cf, .int .i64 S.deep, .int .i64 S.haul, .int .i64 S.rest] 75))); have HG1 := Lib.hid ((HG.out.mono hb1).mono (bAlloc (Below.refl _ w1) (.cells #[.slice Ar S.nr cr, .slice Af S.nf cf, .int .i64 S.deep, .int .i64 S.haul, .int .i64 S.rest] 75)))) | (go_at_call 80; refine (good_any _ _ _ _ S _ hok HS1.out _ _ _ g hm HG1.out).mono ?_; rintro e w2 ⟨rfl, hb2⟩))
    go_ret2
    exact ⟨by rw [HE.out]; rfl, by (repeat (first | (with_reducible exact Below.refl _ _) | (with_reducible refine bAlloc ?_ _) | (with_reducible refine bDrew ?_) | (with_reducible refine bGrow ?_ _ _) | (with_reducible refine bSet ?_ ?_ _; (first | exact Nat.le_refl _ | exact Nat.le_add_right _ _ | (simp; omega))) | (with_reducible refine bTrans ?_ (by assumption))))⟩
  · have HE := Lib.hid (goodOut_bad (m := m) (g := g) hok)
    go_enter Tryd.func50, Tryd.ntmps50
    go_wp2_with (go_at_call 67; refine (open_no _ _ _ _ S _ _ hr hf HS.out 20 (.inl ⟨hok, rfl⟩)).mono ?_; rintro e w1 ⟨rfl, hb1⟩; obtain ⟨bc1, bf1⟩ := bcell hb1; have hz1 := hb1.size; simp only [World.size_alloc] at hz1; have hy1 : w.heap.size < w1.heap.size := hz1)
    go_ret2
    exact ⟨by rw [HE.out]; rfl, by (repeat (first | (with_reducible exact Below.refl _ _) | (with_reducible refine bAlloc ?_ _) | (with_reducible refine bDrew ?_) | (with_reducible refine bGrow ?_ _ _) | (with_reducible refine bSet ?_ ?_ _; (first | exact Nat.le_refl _ | exact Nat.le_add_right _ _ | (simp; omega))) | (with_reducible refine bTrans ?_ (by assumption))))⟩
set_option maxHeartbeats 4000000 in
theorem refGood_any (Ar Af : Option Addr) (cr cf : Nat) (S : Sh) (w : World) (hr : S.nr ≤ 9223372036854775807) (hf : S.nf ≤ 9223372036854775807) (hS : ShAt w Ar Af S) (A : Option Addr) (m c : Nat) (g : Nat → Int) (hm : m ≤ 9223372036854775807) (hg : IntsAt w A m g) :
    Calls Tryd.prog 58 #[.agg #[.slice Ar S.nr cr, .slice Af S.nf cf, .int .i64 S.deep, .int .i64 S.haul, .int .i64 S.rest], .slice A m c] w fun e w' => e = .returned (.tuple #[.bool (S.goodOut m g).1, .int .i64 (S.goodOut m g).2]) ∧ Below w.heap.size w w' := by
  have hb0 := bAlloc (Below.refl w.heap.size w) (.cells #[.slice Ar S.nr cr, .slice Af S.nf cf, .int .i64 S.deep, .int .i64 S.haul, .int .i64 S.rest] 25)
  have HS := Lib.hid (hS.mono hb0)
  have HG := Lib.hid (hg.mono hb0)
  have HB := Lib.hid hb0
  clear hS hg hb0
  by_cases hok : S.Ok
  · have HE := Lib.hid (goodOut_ok (m := m) (g := g) hok)
    have he := Sh.err_ok hok
    go_enter Tryd.func58, Tryd.ntmps58
    go_wp2_with (first | (go_at_call 19; refine (refCheck_any _ _ _ _ S _ hr hf HS.out).mono ?_; rintro e w1 ⟨rfl, hb1⟩; obtain ⟨bc1, bf1⟩ := bcell hb1; have hz1 := hb1.size; simp only [World.size_alloc] at hz1; have hy1 : w.heap.size < w1.heap.size := hz1) | (go_at_call 29; refine (isPlan_any _ _ _ _ S _ hok (HS.out.mono hb1) _ _ _ g hm (HG.out.mono hb1)).mono ?_; rintro e w2 ⟨rfl, hb2⟩))
    go_ret2
    exact ⟨by rw [HE.out]; rfl, by (repeat (first | (with_reducible exact Below.refl _ _) | (with_reducible refine bAlloc ?_ _) | (with_reducible refine bDrew ?_) | (with_reducible refine bGrow ?_ _ _) | (with_reducible refine bSet ?_ ?_ _; (first | exact Nat.le_refl _ | exact Nat.le_add_right _ _ | (simp; omega))) | (with_reducible refine bTrans ?_ (by assumption))))⟩
  · have HE := Lib.hid (goodOut_bad (m := m) (g := g) hok)
    have he := Sh.err_bad hok
    go_enter Tryd.func58, Tryd.ntmps58
    go_wp2_with (go_at_call 19; refine (refCheck_any _ _ _ _ S _ hr hf HS.out).mono ?_; rintro e w1 ⟨rfl, hb1⟩)
    go_ret2
    exact ⟨by rw [HE.out]; rfl, by (repeat (first | (with_reducible exact Below.refl _ _) | (with_reducible refine bAlloc ?_ _) | (with_reducible refine bDrew ?_) | (with_reducible refine bGrow ?_ _ _) | (with_reducible refine bSet ?_ ?_ _; (first | exact Nat.le_refl _ | exact Nat.le_add_right _ _ | (simp; omega))) | (with_reducible refine bTrans ?_ (by assumption))))⟩
set_option maxHeartbeats 4000000 in
theorem refCost_any (Ar Af : Option Addr) (cr cf : Nat) (S : Sh) (w : World) (hr : S.nr ≤ 9223372036854775807) (hf : S.nf ≤ 9223372036854775807) (hS : ShAt w Ar Af S) (A : Option Addr) (m c : Nat) (g : Nat → Int) (hm : m ≤ 40) (hg : IntsAt w A m g) :
    Calls Tryd.prog 59 #[.agg #[.slice Ar S.nr cr, .slice Af S.nf cf, .int .i64 S.deep, .int .i64 S.haul, .int .i64 S.rest], .slice A m c] w fun e w' => e = .returned (.tuple #[.int .i64 (S.costOut m g).1, .int .i64 (S.costOut m g).2.1, .int .i64 (S.costOut m g).2.2]) ∧ Below w.heap.size w w' := by
  have hb0 := bAlloc (Below.refl w.heap.size w) (.cells #[.slice Ar S.nr cr, .slice Af S.nf cf, .int .i64 S.deep, .int .i64 S.haul, .int .i64 S.rest] 25)
  have HS := Lib.hid (hS.mono hb0)
  have HG := Lib.hid (hg.mono hb0)
  have HB := Lib.hid hb0
  have hm' : m ≤ 9223372036854775807 := by omega
  clear hS hg hb0
  by_cases hok : S.Ok
  · have he := Sh.err_ok hok
    cases hp : S.planB m g
    · have HE := Lib.hid (costOut_arg hok hp)
      go_enter Tryd.func59, Tryd.ntmps59
      go_wp2_with (first | (go_at_call 19; refine (refCheck_any _ _ _ _ S _ hr hf HS.out).mono ?_; rintro e w1 ⟨rfl, hb1⟩; obtain ⟨bc1, bf1⟩ := bcell hb1; have hz1 := hb1.size; simp only [World.size_alloc] at hz1; have hy1 : w.heap.size < w1.heap.size := hz1) | (go_at_call 29; refine (isPlan_any _ _ _ _ S _ hok (HS.out.mono hb1) _ _ _ g hm' (HG.out.mono hb1)).mono ?_; rintro e w2 ⟨rfl, hb2⟩))
      go_ret3
      exact ⟨by rw [HE.out]; rfl, by (repeat (first | (with_reducible exact Below.refl _ _) | (with_reducible refine bAlloc ?_ _) | (with_reducible refine bDrew ?_) | (with_reducible refine bGrow ?_ _ _) | (with_reducible refine bSet ?_ ?_ _; (first | exact Nat.le_refl _ | exact Nat.le_add_right _ _ | (simp; omega))) | (with_reducible refine bTrans ?_ (by assumption))))⟩
    · have HE := Lib.hid (costOut_ok hok hp)
      have HP := Lib.hid (Sh.planB_iff.1 hp)
      go_enter Tryd.func59, Tryd.ntmps59
      go_wp2_with (first | (go_at_call 19; refine (refCheck_any _ _ _ _ S _ hr hf HS.out).mono ?_; rintro e w1 ⟨rfl, hb1⟩; obtain ⟨bc1, bf1⟩ := bcell hb1; have hz1 := hb1.size; simp only [World.size_alloc] at hz1; have hy1 : w.heap.size < w1.heap.size := hz1) | (go_at_call 29; refine (isPlan_any _ _ _ _ S _ hok (HS.out.mono hb1) _ _ _ g hm' (HG.out.mono hb1)).mono ?_; rintro e w2 ⟨rfl, hb2⟩; obtain ⟨bc2, bf2⟩ := bcell hb2; have hz2 := hb2.size; have hy2 : w.heap.size < w2.heap.size := (by omega); have HS2 := Lib.hid ((HS.out.mono hb1).mono hb2); have HG2 := Lib.hid ((HG.out.mono hb1).mono hb2)))
      refine wp_region_quiet_below (by kernel_rfl) (by kernel_rfl) ?_
      repeat (go_big_quiet_step (((first | (go_at_call 30; exact Calls.regrown_of (costOf_any _ _ _ _ S _ hok (HS2.out.mono (below_regrown _ _ _)) _ _ _ g (HG2.out.mono (below_regrown _ _ _)) HP.out.rising)) | (go_at_call 44; exact Calls.regrown_of (hoursOf_any _ _ _ _ S _ hok (HS2.out.mono (below_regrown _ _ _)) _ _ _ hm))))))
      refine wpQuiet_nil ?_
      intro w3 hw3
      have hb3 := below_of_regrown hw3
      clear hw3
      go_wp2_with fail
      go_ret3
      exact ⟨by rw [HE.out]; rfl, by (repeat (first | (with_reducible exact Below.refl _ _) | (with_reducible refine bAlloc ?_ _) | (with_reducible refine bDrew ?_) | (with_reducible refine bGrow ?_ _ _) | (with_reducible refine bSet ?_ ?_ _; (first | exact Nat.le_refl _ | exact Nat.le_add_right _ _ | (simp; omega))) | (with_reducible refine bTrans ?_ (by assumption))))⟩
  · have HE := Lib.hid (costOut_bad (m := m) (g := g) hok)
    have he := Sh.err_bad hok
    go_enter Tryd.func59, Tryd.ntmps59
    go_wp2_with (go_at_call 19; refine (refCheck_any _ _ _ _ S _ hr hf HS.out).mono ?_; rintro e w1 ⟨rfl, hb1⟩)
    go_ret3
    exact ⟨by rw [HE.out]; rfl, by (repeat (first | (with_reducible exact Below.refl _ _) | (with_reducible refine bAlloc ?_ _) | (with_reducible refine bDrew ?_) | (with_reducible refine bGrow ?_ _ _) | (with_reducible refine bSet ?_ ?_ _; (first | exact Nat.le_refl _ | exact Nat.le_add_right _ _ | (simp; omega))) | (with_reducible refine bTrans ?_ (by assumption))))⟩
end Go.Proofs.YtbbnpneabmldnaaDoor
