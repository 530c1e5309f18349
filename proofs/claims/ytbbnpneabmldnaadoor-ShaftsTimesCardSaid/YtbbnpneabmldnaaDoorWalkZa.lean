/- Walk: Within of the program. -/
import Derived.Test.YtbbnpneabmldnaaDoorWalkZ
namespace Go.Proofs.YtbbnpneabmldnaaDoor
open Go.RowKit Go.Sort
/-- how many rings can be laid in so many hours (12 at the most) -/
def Sh.ringsIn (S : Sh) (h : Int) : Nat := if 0 < S.rest then min 12 ((h - sumTo S.hour S.nf).toNat / S.rest.toNat) else 12
open Classical in
noncomputable def Sh.withinOut (S : Sh) (h : Int) : Int × Int := if ¬ S.Ok then (0, 20) else if h < sumTo S.hour S.nf then (0, 3) else if S.waysOf ltP (min (S.ringsIn h) S.nf) 0 = noWay then (0, 3) else (sumTo S.price S.nf + (S.waysOf ltP (min (S.ringsIn h) S.nf) 0).pence, 0)
theorem withinOut_bad {S : Sh} {h : Int} (h1 : ¬ S.Ok) : S.withinOut h = (0, 20) := if_pos h1
theorem withinOut_few {S : Sh} {h : Int} (h1 : S.Ok) (h2 : h < sumTo S.hour S.nf) : S.withinOut h = (0, 3) := by unfold Sh.withinOut; rw [if_neg (not_not_intro h1), if_pos h2]
theorem withinOut_none {S : Sh} {h : Int} (h1 : S.Ok) (h2 : ¬ h < sumTo S.hour S.nf) (h3 : S.waysOf ltP (min (S.ringsIn h) S.nf) 0 = noWay) : S.withinOut h = (0, 3) := by unfold Sh.withinOut; rw [if_neg (not_not_intro h1), if_neg h2, if_pos h3]
theorem withinOut_some {S : Sh} {h : Int} (h1 : S.Ok) (h2 : ¬ h < sumTo S.hour S.nf) (h3 : S.waysOf ltP (min (S.ringsIn h) S.nf) 0 ≠ noWay) : S.withinOut h = (sumTo S.price S.nf + (S.waysOf ltP (min (S.ringsIn h) S.nf) 0).pence, 0) := by unfold Sh.withinOut; rw [if_neg (not_not_intro h1), if_neg h2, if_neg h3]
theorem ringsIn_le (S : Sh) (h : Int) : S.ringsIn h ≤ 12 := by unfold Sh.ringsIn; split <;> omega
set_option maxHeartbeats 4000000 in
set_option maxRecDepth 100000 in
theorem Within_any (Ar Af : Option Addr) (cr cf : Nat) (S : Sh) (h : Int) (w : World) (hr : S.nr ≤ 9223372036854775807) (hf : S.nf ≤ 9223372036854775807) (hh : h ≤ 9223372036854775807) (hS : ShAt w Ar Af S) (hN : NoneAt w) :
    Calls Tryd.prog 26 #[.agg #[.slice Ar S.nr cr, .slice Af S.nf cf, .int .i64 S.deep, .int .i64 S.haul, .int .i64 S.rest], .int .i64 h] w fun e w' => e = .returned (.tuple #[.int .i64 (S.withinOut h).1, .int .i64 (S.withinOut h).2]) ∧ Below w.heap.size w w' := by
  have hb0 := bAlloc (Below.refl w.heap.size w) (.cells #[.slice Ar S.nr cr, .slice Af S.nf cf, .int .i64 S.deep, .int .i64 S.haul, .int .i64 S.rest] 25)
  have HS := Lib.hid (hS.mono hb0)
  have HN := Lib.hid (hN.mono hb0)
  have HB := Lib.hid hb0
  clear hS hb0 hN
  by_cases hok : S.Ok
  · have hnf := hok.nf
    obtain ⟨y0, y1, y2, y3⟩ := digs_bd hok (k := S.nf) (Nat.le_refl _)
    have hr0 := hok.r0
    have hr1 := hok.r1
    by_cases hfew : h < sumTo S.hour S.nf
    · have HE := Lib.hid (withinOut_few hok hfew)
      go_enter Tryd.func26, Tryd.ntmps26
      go_wp2_with (first | (go_at_call 67; refine (open_yes _ _ _ _ S _ hok HS.out).mono ?_; rintro e w1 ⟨rfl, hb1⟩; obtain ⟨bc1, bf1⟩ := bcell hb1; have hz1 := hb1.size; simp only [World.size_alloc] at hz1; have hy1 : w.heap.size < w1.heap.size := (by omega); have HS1 := Lib.hid ((HS.out.mono hb1).mono (bAlloc (Below.refl _ _) (.cells #[.slice Ar S.nr cr, .slice Af S.nf cf, .int .i64 S.deep, .int .i64 S.haul, .int .i64 S.rest] 75)))) | (go_at_call 75; refine (digging_any _ _ _ _ S _ hok HS1.out).mono ?_; rintro e w2 ⟨rfl, hb2⟩; obtain ⟨bc2, bf2⟩ := bcell hb2; have hz2 := hb2.size; simp only [World.size_alloc] at hz2; have hy2 : w.heap.size < w2.heap.size := (by omega); have hx2 : w1.heap.size < w2.heap.size := (by omega)))
      go_ret2
      exact ⟨by rw [HE.out]; rfl, by (repeat (first | (with_reducible exact Below.refl _ _) | (with_reducible refine bAlloc ?_ _) | (with_reducible refine bDrew ?_) | (with_reducible refine bGrow ?_ _ _) | (with_reducible refine bSet ?_ ?_ _; (first | exact Nat.le_refl _ | exact Nat.le_add_right _ _ | (simp; omega))) | (with_reducible refine bTrans ?_ (by assumption))))⟩
    · obtain ⟨K, hK⟩ : ∃ K, K = S.ringsIn h := ⟨_, rfl⟩
      have hK12 : K ≤ 12 := hK ▸ ringsIn_le S h
      obtain ⟨p0, p1⟩ := pence_bd hok ltP (min K S.nf) (by omega)
      obtain ⟨f, hff⟩ : ∃ f, S.waysOf ltP (min K S.nf) = f := ⟨_, rfl⟩
      rw [hff] at p0 p1
      have hEn : f 0 = noWay → S.withinOut h = (0, 3) := fun h3 => withinOut_none hok hfew (by rw [← hK, hff]; exact h3)
      have hEs : f 0 ≠ noWay → S.withinOut h = (sumTo S.price S.nf + (f 0).pence, 0) := fun h3 => by
        have := withinOut_some hok hfew (by rw [← hK, hff]; exact h3)
        rwa [← hK, hff] at this
      have HEN := Lib.hid hEn
      have HES := Lib.hid hEs
      have HF := Lib.hid hff
      clear hEn hEs hff
      by_cases hrest : 0 < S.rest
      · obtain ⟨q, hq⟩ : ∃ q, (h - sumTo S.hour S.nf) / S.rest = q := ⟨_, rfl⟩
        have hmin : (if q < 12 then q else 12) = (K : Int) := by
          have e1 : (((h - sumTo S.hour S.nf).toNat / S.rest.toNat : Nat) : Int) = q := by
            rw [Int.natCast_ediv, Int.toNat_of_nonneg (by omega), Int.toNat_of_nonneg (by omega)]; exact hq
          rw [hK]
          unfold Sh.ringsIn
          rw [if_pos hrest]
          split <;> omega
        clear hK
        go_enter Tryd.func26, Tryd.ntmps26
        go_wp2_with (first | (go_at_call 67; refine (open_yes _ _ _ _ S _ hok HS.out).mono ?_; rintro e w1 ⟨rfl, hb1⟩; obtain ⟨bc1, bf1⟩ := bcell hb1; have hz1 := hb1.size; simp only [World.size_alloc] at hz1; have hy1 : w.heap.size < w1.heap.size := (by omega); have HS1 := Lib.hid ((HS.out.mono hb1).mono (bAlloc (Below.refl _ _) (.cells #[.slice Ar S.nr cr, .slice Af S.nf cf, .int .i64 S.deep, .int .i64 S.haul, .int .i64 S.rest] 75))); have HN1 := Lib.hid ((HN.out.mono hb1).mono (bAlloc (Below.refl _ _) (.cells #[.slice Ar S.nr cr, .slice Af S.nf cf, .int .i64 S.deep, .int .i64 S.haul, .int .i64 S.rest] 75)))) | (go_at_call 75; refine (digging_any _ _ _ _ S _ hok HS1.out).mono ?_; rintro e w2 ⟨rfl, hb2⟩; obtain ⟨bc2, bf2⟩ := bcell hb2; have hz2 := hb2.size; simp only [World.size_alloc] at hz2; have hy2 : w.heap.size < w2.heap.size := (by omega); have hx2 : w1.heap.size < w2.heap.size := (by omega); have HS2 := Lib.hid ((HS1.out.mono hb2).mono (bAlloc (Below.refl _ _) (.cells #[.int .i64 (sumTo S.price S.nf), .int .i64 (sumTo S.hour S.nf)] 79))); have HN2 := Lib.hid ((HN1.out.mono hb2).mono (bAlloc (Below.refl _ _) (.cells #[.int .i64 (sumTo S.price S.nf), .int .i64 (sumTo S.hour S.nf)] 79)))) | (go_at_call 77; refine (best_cheaper _ _ _ _ S _ hok HS2.out HN2.out K hK12).mono ?_; rintro e w3 ⟨hb3, h3⟩; rw [HF.out] at h3; obtain ⟨bc3, bf3⟩ := bcell hb3; have hz3 := hb3.size; simp only [World.size_alloc] at hz3; have hy3 : w.heap.size < w3.heap.size := (by omega); have hx3 : w2.heap.size < w3.heap.size := (by omega); rcases h3 with ⟨h30, rfl⟩ | ⟨h30, A, m, c, g, rfl, hmn, hch, hend, hI, hblk⟩))
        · go_ret2
          exact ⟨by rw [HEN.out h30]; rfl, by (repeat (first | (with_reducible exact Below.refl _ _) | (with_reducible refine bAlloc ?_ _) | (with_reducible refine bDrew ?_) | (with_reducible refine bGrow ?_ _ _) | (with_reducible refine bSet ?_ ?_ _; (first | exact Nat.le_refl _ | exact Nat.le_add_right _ _ | (simp; omega))) | (with_reducible refine bTrans ?_ (by assumption))))⟩
        · go_ret2
          exact ⟨by rw [HES.out h30]; rfl, by (repeat (first | (with_reducible exact Below.refl _ _) | (with_reducible refine bAlloc ?_ _) | (with_reducible refine bDrew ?_) | (with_reducible refine bGrow ?_ _ _) | (with_reducible refine bSet ?_ ?_ _; (first | exact Nat.le_refl _ | exact Nat.le_add_right _ _ | (simp; omega))) | (with_reducible refine bTrans ?_ (by assumption))))⟩
      · have hKe : K = 12 := by rw [hK]; unfold Sh.ringsIn; rw [if_neg hrest]
        clear hK
        subst hKe
        go_enter Tryd.func26, Tryd.ntmps26
        go_wp2_with (first | (go_at_call 67; refine (open_yes _ _ _ _ S _ hok HS.out).mono ?_; rintro e w1 ⟨rfl, hb1⟩; obtain ⟨bc1, bf1⟩ := bcell hb1; have hz1 := hb1.size; simp only [World.size_alloc] at hz1; have hy1 : w.heap.size < w1.heap.size := (by omega); have HS1 := Lib.hid ((HS.out.mono hb1).mono (bAlloc (Below.refl _ _) (.cells #[.slice Ar S.nr cr, .slice Af S.nf cf, .int .i64 S.deep, .int .i64 S.haul, .int .i64 S.rest] 75))); have HN1 := Lib.hid ((HN.out.mono hb1).mono (bAlloc (Below.refl _ _) (.cells #[.slice Ar S.nr cr, .slice Af S.nf cf, .int .i64 S.deep, .int .i64 S.haul, .int .i64 S.rest] 75)))) | (go_at_call 75; refine (digging_any _ _ _ _ S _ hok HS1.out).mono ?_; rintro e w2 ⟨rfl, hb2⟩; obtain ⟨bc2, bf2⟩ := bcell hb2; have hz2 := hb2.size; simp only [World.size_alloc] at hz2; have hy2 : w.heap.size < w2.heap.size := (by omega); have hx2 : w1.heap.size < w2.heap.size := (by omega); have HS2 := Lib.hid ((HS1.out.mono hb2).mono (bAlloc (Below.refl _ _) (.cells #[.int .i64 (sumTo S.price S.nf), .int .i64 (sumTo S.hour S.nf)] 79))); have HN2 := Lib.hid ((HN1.out.mono hb2).mono (bAlloc (Below.refl _ _) (.cells #[.int .i64 (sumTo S.price S.nf), .int .i64 (sumTo S.hour S.nf)] 79)))) | (go_at_call 77; refine (best_cheaper _ _ _ _ S _ hok HS2.out HN2.out 12 (Nat.le_refl _)).mono ?_; rintro e w3 ⟨hb3, h3⟩; rw [HF.out] at h3; obtain ⟨bc3, bf3⟩ := bcell hb3; have hz3 := hb3.size; simp only [World.size_alloc] at hz3; have hy3 : w.heap.size < w3.heap.size := (by omega); have hx3 : w2.heap.size < w3.heap.size := (by omega); rcases h3 with ⟨h30, rfl⟩ | ⟨h30, A, m, c, g, rfl, hmn, hch, hend, hI, hblk⟩))
        · go_ret2
          exact ⟨by rw [HEN.out h30]; rfl, by (repeat (first | (with_reducible exact Below.refl _ _) | (with_reducible refine bAlloc ?_ _) | (with_reducible refine bDrew ?_) | (with_reducible refine bGrow ?_ _ _) | (with_reducible refine bSet ?_ ?_ _; (first | exact Nat.le_refl _ | exact Nat.le_add_right _ _ | (simp; omega))) | (with_reducible refine bTrans ?_ (by assumption))))⟩
        · go_ret2
          exact ⟨by rw [HES.out h30]; rfl, by (repeat (first | (with_reducible exact Below.refl _ _) | (with_reducible refine bAlloc ?_ _) | (with_reducible refine bDrew ?_) | (with_reducible refine bGrow ?_ _ _) | (with_reducible refine bSet ?_ ?_ _; (first | exact Nat.le_refl _ | exact Nat.le_add_right _ _ | (simp; omega))) | (with_reducible refine bTrans ?_ (by assumption))))⟩
  · have HE := Lib.hid (withinOut_bad (h := h) hok)
    go_enter Tryd.func26, Tryd.ntmps26
    go_wp2_with (go_at_call 67; refine (open_no _ _ _ _ S _ _ hr hf HS.out 20 (.inl ⟨hok, rfl⟩)).mono ?_; rintro e w1 ⟨rfl, hb1⟩; obtain ⟨bc1, bf1⟩ := bcell hb1; have hz1 := hb1.size; simp only [World.size_alloc] at hz1; have hy1 : w.heap.size < w1.heap.size := (by omega))
    go_ret2
    exact ⟨by rw [HE.out]; rfl, by (repeat (first | (with_reducible exact Below.refl _ _) | (with_reducible refine bAlloc ?_ _) | (with_reducible refine bDrew ?_) | (with_reducible refine bGrow ?_ _ _) | (with_reducible refine bSet ?_ ?_ _; (first | exact Nat.le_refl _ | exact Nat.le_add_right _ _ | (simp; omega))) | (with_reducible refine bTrans ?_ (by assumption))))⟩
end Go.Proofs.YtbbnpneabmldnaaDoor
