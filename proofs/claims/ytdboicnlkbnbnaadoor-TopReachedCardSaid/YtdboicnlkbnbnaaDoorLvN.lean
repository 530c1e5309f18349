/- The example of levels: its level, the walk of Example; the walk of reached. No condition but that the listed variable holds what it holds. -/
import Derived.Test.YtdboicnlkbnbnaaDoorLvM
namespace Go.Proofs.YtdboicnlkbnbnaaDoor
open Go.RowKit Go.Sort
theorem viaJ_anti (k i : Nat) (b : Bd) {m : Nat} : ∀ n, m ≤ n → LeB (viaJ k i n b) (viaJ k i m b)
  | 0, h => by obtain rfl : m = 0 := by omega
               exact LeB.refl _
  | n + 1, h => by
    rcases Nat.lt_or_ge n m with h1 | h1
    · obtain rfl : m = n + 1 := by omega
      exact LeB.refl _
    · exact (viaB_le _ _ _ _).trans (viaJ_anti k i b n h1)
theorem viaI_anti (k : Nat) (b : Bd) {m : Nat} : ∀ n, m ≤ n → LeB (viaI k n b) (viaI k m b)
  | 0, h => by obtain rfl : m = 0 := by omega
               exact LeB.refl _
  | n + 1, h => by
    rcases Nat.lt_or_ge n m with h1 | h1
    · obtain rfl : m = n + 1 := by omega
      exact LeB.refl _
    · exact (viaJ_le _ _ _ _).trans (viaI_anti k b n h1)
theorem viaK_anti (b : Bd) {m : Nat} : ∀ n, m ≤ n → LeB (viaK n b) (viaK m b)
  | 0, h => by obtain rfl : m = 0 := by omega
               exact LeB.refl _
  | n + 1, h => by
    rcases Nat.lt_or_ge n m with h1 | h1
    · obtain rfl : m = n + 1 := by omega
      exact LeB.refl _
    · exact (viaI_le _ _ _).trans (viaK_anti b n h1)
theorem via_path {k i j : Nat} {b : Bd} (hi : i < 7) (hj : j < 7) (h1 : b i k < free) (h2 : b k j < free) : viaI k 7 b i j ≤ b i k + b k j := by
  have e1 : LeB (viaI k i b) b := viaI_le k b i
  have e2 : LeB (viaJ k i j (viaI k i b)) b := (viaJ_le k i _ j).trans e1
  have e3 : LeB (viaI k 7 b) (viaJ k i 7 (viaI k i b)) := viaI_anti k b (m := i + 1) 7 (by omega)
  have e4 : LeB (viaJ k i 7 (viaI k i b)) (viaB k i j (viaJ k i j (viaI k i b))) := viaJ_anti k i (viaI k i b) (m := j + 1) 7 (by omega)
  have a1 := e2 i k
  have a2 := e2 k j
  have a3 := e3 i j
  have a4 := e4 i j
  have a5 : viaB k i j (viaJ k i j (viaI k i b)) i j ≤ viaJ k i j (viaI k i b) i k + viaJ k i j (viaI k i b) k j := by
    unfold viaB
    rw [if_pos ⟨by omega, by omega⟩]
    exact leave_at _ _ _ _
  omega
def exSnd : Nat → Snd
  | 0 => ⟨0, 10, 12⟩
  | _ => ⟨2, 20, 30⟩
def exSlp : Nat → Slp
  | 0 => ⟨0, 1, 3, 5⟩
  | _ => ⟨1, 2, 4, 8⟩
def exL : Lt := ⟨3, 2, exSnd, 2, exSlp⟩
theorem exL_ok : exL.Ok := by
  refine ⟨by decide, by decide, by decide, by decide, fun i hi => ?_, fun i hi => ?_⟩
  · have hi : i < 2 := hi
    rcases (by omega : i = 0 ∨ i = 1) with rfl | rfl <;> exact ⟨by decide, by decide, by decide, by decide, by decide⟩
  · have hi : i < 2 := hi
    rcases (by omega : i = 0 ∨ i = 1) with rfl | rfl <;> exact ⟨by decide, by decide, by decide, by decide, by decide, by decide, by decide, by decide⟩
def exLow : Nat → Int
  | 0 => 10
  | 1 => 13
  | _ => 20
def exHigh : Nat → Int
  | 0 => 12
  | 1 => 17
  | _ => 25
theorem exL_truth (g : Nat → Int) (h : g = exLow ∨ g = exHigh) : exL.Truth g := by
  rcases h with rfl | rfl
  all_goals
    refine ⟨fun i hi => ?_, fun i hi => ?_, fun i hi => ?_, fun i hi => ?_⟩
    · have hi : (i : Int) < 3 := hi
      rcases (by omega : i = 0 ∨ i = 1 ∨ i = 2) with rfl | rfl | rfl <;> decide
    · have hi : (i : Int) < 3 := hi
      rcases (by omega : i = 0 ∨ i = 1 ∨ i = 2) with rfl | rfl | rfl <;> decide
    · have hi : i < 2 := hi
      rcases (by omega : i = 0 ∨ i = 1) with rfl | rfl <;> exact ⟨by decide, by decide⟩
    · have hi : i < 2 := hi
      rcases (by omega : i = 0 ∨ i = 1) with rfl | rfl <;> exact ⟨by decide, by decide⟩
theorem exL_open : exL.open_ 6 0 = 12 ∧ exL.open_ 0 1 = 5 ∧ exL.open_ 1 2 = 8 ∧ exL.open_ 2 6 = -20 := by decide +kernel
theorem exL_level : exL.low 2 = 20 ∧ exL.high 2 = 25 := by
  have a1 := (level_truth exL_ok (exL_truth _ (.inl rfl)) (w := 2) (by decide)).1
  have a2 := (level_truth exL_ok (exL_truth _ (.inr rfl)) (w := 2) (by decide)).2
  obtain ⟨o1, o2, o3, o4⟩ := exL_open
  have b1 : exL.shut 2 6 ≤ -20 := o4 ▸ viaK_le exL.open_ 7 2 6
  have c1 : viaK 1 exL.open_ 6 1 ≤ 12 + 5 := by
    have := via_path (k := 0) (i := 6) (j := 1) (b := exL.open_) (by decide) (by decide) (by rw [o1]; decide) (by rw [o2]; decide)
    rw [o1, o2] at this
    exact this
  have c2 : viaK 1 exL.open_ 1 2 ≤ 8 := o3 ▸ viaK_le exL.open_ 1 1 2
  have c3 : viaK 2 exL.open_ 6 2 ≤ viaK 1 exL.open_ 6 1 + viaK 1 exL.open_ 1 2 := via_path (k := 1) (i := 6) (j := 2) (b := viaK 1 exL.open_) (by decide) (by decide) (by unfold free; omega) (by unfold free; omega)
  have c4 : exL.shut 6 2 ≤ viaK 2 exL.open_ 6 2 := viaK_anti exL.open_ (m := 2) 7 (by decide) 6 2
  have d1 : exLow 2 = 20 := rfl
  have d2 : exHigh 2 = 25 := rfl
  rw [d1] at a1
  rw [d2] at a2
  unfold Lt.low Lt.high at *
  omega
theorem LtAt.above {base : Nat} {w w' : World} {As Al : Option Addr} {t : Lt} (h : LtAt w As Al t) (ha : Above base w w') (h1 : ∀ p, As = some p → base ≤ p.block) (h2 : ∀ p, Al = some p → base ≤ p.block) : LtAt w' As Al t :=
  ⟨sndsAt_row.2 ((sndsAt_row.1 h.snd).above ha h1), slpsAt_row.2 ((slpsAt_row.1 h.slp).above ha h2)⟩
def exLW (w : World) : World := (((w.alloc (.cells #[.int .i64 3, .slice (some ⟨w.heap.size + 1 + 1, 0, none⟩) 2 2, .slice (some ⟨w.heap.size + 1 + 1 + 1, 0, none⟩) 2 2] 25)).alloc
  (.cells #[.int .i64 0, .slice none 0 0, .slice none 0 0] 25)).alloc
  (.cells #[.int .i64 0, .int .i64 10, .int .i64 12, .int .i64 2, .int .i64 20, .int .i64 30] 31)).alloc
  (.cells #[.int .i64 0, .int .i64 1, .int .i64 3, .int .i64 5, .int .i64 1, .int .i64 2, .int .i64 4, .int .i64 8] 56)
theorem exLW_at (w : World) : LtAt (exLW w) (some ⟨w.heap.size + 1 + 1, 0, none⟩) (some ⟨w.heap.size + 1 + 1 + 1, 0, none⟩) exL := by
  refine ⟨.inr ⟨_, _, rfl, by simp [exLW], fun i hi => ?_⟩, .inr ⟨_, _, rfl, by simp [exLW], fun i hi => ?_⟩⟩
  · have hi : i < 2 := hi
    rcases (by omega : i = 0 ∨ i = 1) with rfl | rfl <;> simp [exLW, exL, exSnd, go_sem]
  · have hi : i < 2 := hi
    rcases (by omega : i = 0 ∨ i = 1) with rfl | rfl <;> simp [exLW, exL, exSlp, go_sem]
/-- what Example hands back -/
def LvExampled (w' : World) (e : Ending) : Prop := ∃ As Al Bs cs Bl cl, e = .returned (.tuple #[.agg #[.int .i64 3, .slice (some As) 2 2, .slice (some Al) 2 2], .agg #[.int .i64 3, .slice Bs 3 cs, .slice Bl 2 cl]]) ∧ LtAt w' (some As) (some Al) exL
def exQS (v : Value) : Prop := ∃ Bs cs Bl cl, v = .agg #[.int .i64 3, .slice Bs 3 cs, .slice Bl 2 cl]
set_option maxHeartbeats 4000000 in
set_option maxRecDepth 100000 in
theorem lvExample_any (w : World) : Calls Tryd.prog 23 #[] w fun e w' => LvExampled w' e ∧ Below w.heap.size w w' := by
  have HE := Lib.hid (exLW_at w)
  go_enter Tryd.func23, Tryd.ntmps23
  go_wp2_with fail
  have hbW : Below w.heap.size w (exLW w) := by unfold exLW; (repeat (first | (with_reducible exact Below.refl _ _) | (with_reducible refine bAlloc ?_ _) | (with_reducible refine bDrew ?_) | (with_reducible refine bGrow ?_ _ _) | (with_reducible refine bSet ?_ ?_ _; (first | exact Nat.le_refl _ | exact Nat.le_add_right _ _ | (simp; omega))) | (with_reducible refine bTrans ?_ (by assumption))))
  have HBW := Lib.hid hbW
  clear hbW
  refine wp_region_stir 4 [.const (.agg #[.int .i64 3, .slice (some ⟨w.heap.size + 1 + 1, 0, none⟩) 2 2, .slice (some ⟨w.heap.size + 1 + 1 + 1, 0, none⟩) 2 2]), .const (.agg #[.int .i64 3, .slice (some ⟨w.heap.size + 1 + 1, 0, none⟩) 2 2, .slice (some ⟨w.heap.size + 1 + 1 + 1, 0, none⟩) 2 2]), .const (.agg #[.int .i64 1, .int .i64 18, .int .i64 19]), .held exQS (fun _ _ => True)] (by kernel_rfl) (by kernel_rfl) rfl
    ⟨trivial, trivial, trivial, ⟨⟨_, none, 0, none, 0, rfl⟩, fun _ _ _ _ _ => trivial⟩, trivial⟩ (crossAll_no _ _ _ _ trivial) ?_
  refine wpStir_const (by go_simp) ?_
  refine wpStir_const (by go_simp) ?_
  refine wpStir_const (by go_simp) ?_
  refine wpStir_held rfl (fun w' hb hd => ?_) (fun v hv => ?_)
  · clear hd
    go_simp
    refine (lvSounded_any _ _ 2 2 exL ⟨1, 18, 19⟩ _ (by decide) (by decide) (HE.out.mono hb)).mono ?_
    rintro e w'' ⟨⟨Bs, ks, Bl, kl, he, _⟩, hb'⟩
    exact ⟨_, he, hb', Bs, ks, Bl, kl, rfl⟩
  obtain ⟨Bs, cs, Bl, cl, rfl⟩ := hv
  refine wpStir_end (fun w5 hb5 hd => ?_)
  clear hd
  simp only [List.drop_succ_cons, List.drop_zero]
  simp only [Act.put, List.setIfInBounds_toArray, List.set_cons_succ, List.set_cons_zero]
  have HB5 := Lib.hid hb5
  have H5 := Lib.hid (HE.out.mono hb5)
  obtain ⟨bc5, bf5⟩ := bcell hb5
  have hz5 := hb5.size
  simp only [World.size_alloc] at hz5
  have hy5 : w.heap.size < w5.heap.size := by omega
  have hx5 : w.heap.size + 1 < w5.heap.size := by omega
  have m0 : w5.cell? ⟨w.heap.size, 0, none⟩ = some (.int .i64 3) := (bc5 _ _ (by simp <;> omega)).trans (by simp [go_sem])
  have m1 : w5.cell? ⟨w.heap.size, 1, none⟩ = some (.slice (some ⟨w.heap.size + 1 + 1, 0, none⟩) 2 2) := (bc5 _ _ (by simp <;> omega)).trans (by simp [go_sem])
  have m2 : w5.cell? ⟨w.heap.size, 2, none⟩ = some (.slice (some ⟨w.heap.size + 1 + 1 + 1, 0, none⟩) 2 2) := (bc5 _ _ (by simp <;> omega)).trans (by simp [go_sem])
  have m3 : w5.cell? ⟨w.heap.size + 1, 0, none⟩ = some (.int .i64 0) := (bc5 _ _ (by simp <;> omega)).trans (by simp [go_sem])
  have m4 : w5.cell? ⟨w.heap.size + 1, 1, none⟩ = some (.slice none 0 0) := (bc5 _ _ (by simp <;> omega)).trans (by simp [go_sem])
  have m5 : w5.cell? ⟨w.heap.size + 1, 2, none⟩ = some (.slice none 0 0) := (bc5 _ _ (by simp <;> omega)).trans (by simp [go_sem])
  clear hb5
  go_wp2_with fail
  refine bodyPost_ret (v := .tuple #[.agg #[.int .i64 3, .slice (some ⟨w.heap.size + 1 + 1, 0, none⟩) 2 2, .slice (some ⟨w.heap.size + 1 + 1 + 1, 0, none⟩) 2 2], .agg #[.int .i64 3, .slice Bs 3 cs, .slice Bl 2 cl]]) (by simp [results, Tryd.results23, go_sem, *]) rfl ?_
  have hbx := bTrans HBW.out HB5.out
  refine ⟨⟨_, _, _, _, _, _, rfl, LtAt.above (base := w.heap.size + 2) H5.out ?_ (fun p hp => ?_) (fun p hp => ?_)⟩, ?_⟩
  · (repeat (first | (with_reducible exact Above.refl _ _) | ((with_reducible refine Above.setCell ?_ ?_ _); (focus (simp; done))) | ((with_reducible refine Above.setCell ?_ ?_ _); (focus (simp; omega))) | ((with_reducible refine Above.setNew ?_ ?_ _); (focus (simp; done))) | ((with_reducible refine Above.setNew ?_ ?_ _); (focus (simp; omega))) | (with_reducible refine Above.alloc ?_ _) | (with_reducible refine Above.drew ?_)))
  · injection hp with hp; subst hp; show w.heap.size + 2 ≤ w.heap.size + 1 + 1; omega
  · injection hp with hp; subst hp; show w.heap.size + 2 ≤ w.heap.size + 1 + 1 + 1; omega
  · (repeat (first | (with_reducible exact Below.refl _ _) | (with_reducible refine bAlloc ?_ _) | (with_reducible refine bDrew ?_) | (with_reducible refine bGrow ?_ _ _) | (with_reducible refine bSet ?_ ?_ _; (first | exact Nat.le_refl _ | exact Nat.le_add_right _ _ | (simp; omega))) | (with_reducible refine bTrans ?_ (by assumption))))
end Go.Proofs.YtdboicnlkbnbnaaDoor
