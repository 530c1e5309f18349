/- Walks: Price, Falls, Good, Cost of the program and of the reference: each pair hands back the same. -/
import Derived.Test.YtbbnpneabmldnaaDoorWalkN
namespace Go.Proofs.YtbbnpneabmldnaaDoor
open Go.RowKit Go.Sort
open Classical in
noncomputable def Sh.fallsOut (S : Sh) (m : Nat) (g : Nat → Int) : Int × Int :=
  if ¬ S.Ok then (0, 20) else if risingB 1 S.nf m g = false then (0, 1) else if S.firstFall (memOf m g) = S.nf then (0, 3) else ((S.firstFall (memOf m g) : Int), 0)
theorem fallsOut_bad {S : Sh} {m : Nat} {g : Nat → Int} (h : ¬ S.Ok) : S.fallsOut m g = (0, 20) := if_pos h
theorem fallsOut_arg {S : Sh} {m : Nat} {g : Nat → Int} (h : S.Ok) (h2 : risingB 1 S.nf m g = false) : S.fallsOut m g = (0, 1) := by unfold Sh.fallsOut; rw [if_neg (not_not_intro h), if_pos h2]
theorem fallsOut_none {S : Sh} {m : Nat} {g : Nat → Int} (h : S.Ok) (h2 : risingB 1 S.nf m g = true) (h3 : S.firstFall (memOf m g) = S.nf) : S.fallsOut m g = (0, 3) := by unfold Sh.fallsOut; rw [if_neg (not_not_intro h), if_neg (by rw [h2]; simp), if_pos h3]
theorem fallsOut_some {S : Sh} {m : Nat} {g : Nat → Int} (h : S.Ok) (h2 : risingB 1 S.nf m g = true) (h3 : S.firstFall (memOf m g) ≠ S.nf) : S.fallsOut m g = ((S.firstFall (memOf m g) : Int), 0) := by unfold Sh.fallsOut; rw [if_neg (not_not_intro h), if_neg (by rw [h2]; simp), if_neg h3]
set_option maxHeartbeats 4000000 in
theorem Falls_any (Ar Af : Option Addr) (cr cf : Nat) (S : Sh) (w : World) (hr : S.nr ≤ 9223372036854775807) (hf : S.nf ≤ 9223372036854775807) (hS : ShAt w Ar Af S) (A : Option Addr) (m c : Nat) (g : Nat → Int) (hm : m ≤ 9223372036854775807) (hg : IntsAt w A m g) :
    Calls Tryd.prog 53 #[.agg #[.slice Ar S.nr cr, .slice Af S.nf cf, .int .i64 S.deep, .int .i64 S.haul, .int .i64 S.rest], .slice A m c] w fun e w' => e = .returned (.tuple #[.int .i64 (S.fallsOut m g).1, .int .i64 (S.fallsOut m g).2]) ∧ Below w.heap.size w w' := by
  have hb0 := bAlloc (Below.refl w.heap.size w) (.cells #[.slice Ar S.nr cr, .slice Af S.nf cf, .int .i64 S.deep, .int .i64 S.haul, .int .i64 S.rest] 25)
  have HS := Lib.hid (hS.mono hb0)
  have HG := Lib.hid (hg.mono hb0)
  have HB := Lib.hid hb0
  clear hS hg hb0
  by_cases hok : S.Ok
  · cases hrb : risingB 1 S.nf m g
    · have HE := Lib.hid (fallsOut_arg hok hrb)
      go_enter Tryd.func53, Tryd.ntmps53
      go_wp2_with fail
      refine wp_region_new 8 9 6 15 75 #[.slice none 0 0, .slice none 0 0, .int .i64 0, .int .i64 0, .int .i64 0] (by kernel_rfl) (by kernel_rfl) (by rfl) (by rfl) (by rfl) (by rfl) (by rfl) (by rfl) (fun _ => by kernel_rfl) (by kernel_rfl) (by simp) ?_
      repeat (first | (refine wpCalm_skip rfl ?_) | (refine wpCalm_step rfl (fun K hK => ?_); go_simp; (first | (refine hK _ ?_; clear hK K) | (apply Exists.intro; refine ⟨fun _ => ?_, hK _ ?_⟩; ((first | (go_at_call 82; exact areStops_any _ _ _ _ S _ _ _ g _ hm (HG.out.mono (below_regrown _ _ _))) | (go_at_call 67; exact open_no _ _ _ _ S _ _ hr hf (HS.out.mono (below_regrown _ _ _)) 1 (.inr ⟨hok, rfl, rfl⟩)))); clear hK K))))
      refine wpCalm_nil ?_
      refine ⟨#[.slice none 0 0, .slice none 0 0, .int .i64 0, .int .i64 0, .int .i64 0], rfl, rfl, by simp [Value.oneCell'], ?_⟩
      intro b w1 hb1 hbb hb2 hblk
      have hbc : ∀ i, World.cell? w1 ⟨b, i, none⟩ = (#[.slice none 0 0, .slice none 0 0, .int .i64 0, .int .i64 0, .int .i64 0] : Array Value)[i]? := fun i => cell_of_row w1 b i _ _ _ hblk
      simp only [Act.put, List.setIfInBounds_toArray, List.set_cons_succ, List.set_cons_zero]
      go_wp2_with fail
      go_ret2
      exact ⟨by rw [HE.out]; rfl, by (repeat (first | (with_reducible exact Below.refl _ _) | (with_reducible refine bAlloc ?_ _) | (with_reducible refine bDrew ?_) | (with_reducible refine bGrow ?_ _ _) | (with_reducible refine bSet ?_ ?_ _; (first | exact Nat.le_refl _ | exact Nat.le_add_right _ _ | (simp; omega))) | (with_reducible refine bTrans ?_ (by assumption))))⟩
    · have HR := Lib.hid (rising_iff.1 hrb)
      have hres : (((S.firstFall (memOf m g) : Int) == (S.nf : Int)) = true ∧ S.fallsOut m g = (0, 3)) ∨ (((S.firstFall (memOf m g) : Int) == (S.nf : Int)) = false ∧ S.fallsOut m g = ((S.firstFall (memOf m g) : Int), 0)) := by
        by_cases h : S.firstFall (memOf m g) = S.nf
        · exact .inl ⟨by simp [h], fallsOut_none hok hrb h⟩
        · exact .inr ⟨by simp; omega, fallsOut_some hok hrb h⟩
      rcases hres with ⟨he, hp⟩ | ⟨he, hp⟩
      all_goals
        have HE := Lib.hid hp
        clear hp
        go_enter Tryd.func53, Tryd.ntmps53
        go_wp2_with fail
        refine wp_region_new 8 9 6 15 75 #[.slice none 0 0, .slice none 0 0, .int .i64 0, .int .i64 0, .int .i64 0] (by kernel_rfl) (by kernel_rfl) (by rfl) (by rfl) (by rfl) (by rfl) (by rfl) (by rfl) (fun _ => by kernel_rfl) (by kernel_rfl) (by simp) ?_
        repeat (first | (refine wpCalm_skip rfl ?_) | (refine wpCalm_step rfl (fun K hK => ?_); go_simp; (first | (refine hK _ ?_; clear hK K) | (apply Exists.intro; refine ⟨fun _ => ?_, hK _ ?_⟩; ((first | (go_at_call 82; exact areStops_any _ _ _ _ S _ _ _ g _ hm (HG.out.mono (below_regrown _ _ _))) | (go_at_call 67; exact open_yes _ _ _ _ S _ hok (HS.out.mono (below_regrown _ _ _))))); clear hK K))))
        refine wpCalm_nil ?_
        refine ⟨#[.slice Ar S.nr cr, .slice Af S.nf cf, .int .i64 S.deep, .int .i64 S.haul, .int .i64 S.rest], rfl, rfl, by simp [Value.oneCell'], ?_⟩
        intro b w1 hb1 hbb hb2 hblk
        have hbc : ∀ i, World.cell? w1 ⟨b, i, none⟩ = (#[.slice Ar S.nr cr, .slice Af S.nf cf, .int .i64 S.deep, .int .i64 S.haul, .int .i64 S.rest] : Array Value)[i]? := fun i => cell_of_row w1 b i _ _ _ hblk
        simp only [Act.put, List.setIfInBounds_toArray, List.set_cons_succ, List.set_cons_zero]
        obtain ⟨bc1, bf1⟩ := bcell hb1
        have hz1 := hb1.size
        simp only [World.size_alloc] at hz1
        have hy1 : w.heap.size < w1.heap.size := hz1
        go_wp2_with (go_at_call 83; refine (firstFall_any _ _ _ _ S _ hok (HS.out.mono hb1) _ _ _ g hm (HG.out.mono hb1) HR.out).mono ?_; rintro e w2 ⟨rfl, hb2'⟩; obtain ⟨bc2, bf2⟩ := bcell hb2'; have hz2 := hb2'.size; have hy2 : w.heap.size < w2.heap.size := (by omega))
        go_ret2
        exact ⟨by rw [HE.out]; rfl, by (repeat (first | (with_reducible exact Below.refl _ _) | (with_reducible refine bAlloc ?_ _) | (with_reducible refine bDrew ?_) | (with_reducible refine bGrow ?_ _ _) | (with_reducible refine bSet ?_ ?_ _; (first | exact Nat.le_refl _ | exact Nat.le_add_right _ _ | (simp; omega))) | (with_reducible refine bTrans ?_ (by assumption))))⟩
  · have HE := Lib.hid (fallsOut_bad (m := m) (g := g) hok)
    cases hrb : risingB 1 S.nf m g
    all_goals
      go_enter Tryd.func53, Tryd.ntmps53
      go_wp2_with fail
      refine wp_region_new 8 9 6 15 75 #[.slice none 0 0, .slice none 0 0, .int .i64 0, .int .i64 0, .int .i64 0] (by kernel_rfl) (by kernel_rfl) (by rfl) (by rfl) (by rfl) (by rfl) (by rfl) (by rfl) (fun _ => by kernel_rfl) (by kernel_rfl) (by simp) ?_
      repeat (first | (refine wpCalm_skip rfl ?_) | (refine wpCalm_step rfl (fun K hK => ?_); go_simp; (first | (refine hK _ ?_; clear hK K) | (apply Exists.intro; refine ⟨fun _ => ?_, hK _ ?_⟩; ((first | (go_at_call 82; exact areStops_any _ _ _ _ S _ _ _ g _ hm (HG.out.mono (below_regrown _ _ _))) | (go_at_call 67; exact open_no _ _ _ _ S _ _ hr hf (HS.out.mono (below_regrown _ _ _)) 20 (.inl ⟨hok, rfl⟩)))); clear hK K))))
      refine wpCalm_nil ?_
      refine ⟨#[.slice none 0 0, .slice none 0 0, .int .i64 0, .int .i64 0, .int .i64 0], rfl, rfl, by simp [Value.oneCell'], ?_⟩
      intro b w1 hb1 hbb hb2 hblk
      have hbc : ∀ i, World.cell? w1 ⟨b, i, none⟩ = (#[.slice none 0 0, .slice none 0 0, .int .i64 0, .int .i64 0, .int .i64 0] : Array Value)[i]? := fun i => cell_of_row w1 b i _ _ _ hblk
      simp only [Act.put, List.setIfInBounds_toArray, List.set_cons_succ, List.set_cons_zero]
      go_wp2_with fail
      go_ret2
      exact ⟨by rw [HE.out]; rfl, by (repeat (first | (with_reducible exact Below.refl _ _) | (with_reducible refine bAlloc ?_ _) | (with_reducible refine bDrew ?_) | (with_reducible refine bGrow ?_ _ _) | (with_reducible refine bSet ?_ ?_ _; (first | exact Nat.le_refl _ | exact Nat.le_add_right _ _ | (simp; omega))) | (with_reducible refine bTrans ?_ (by assumption))))⟩
set_option maxHeartbeats 4000000 in
theorem refFalls_any (Ar Af : Option Addr) (cr cf : Nat) (S : Sh) (w : World) (hr : S.nr ≤ 9223372036854775807) (hf : S.nf ≤ 9223372036854775807) (hS : ShAt w Ar Af S) (A : Option Addr) (m c : Nat) (g : Nat → Int) (hm : m ≤ 9223372036854775807) (hg : IntsAt w A m g) :
    Calls Tryd.prog 57 #[.agg #[.slice Ar S.nr cr, .slice Af S.nf cf, .int .i64 S.deep, .int .i64 S.haul, .int .i64 S.rest], .slice A m c] w fun e w' => e = .returned (.tuple #[.int .i64 (S.fallsOut m g).1, .int .i64 (S.fallsOut m g).2]) ∧ Below w.heap.size w w' := by
  have hb0 := bAlloc (Below.refl w.heap.size w) (.cells #[.slice Ar S.nr cr, .slice Af S.nf cf, .int .i64 S.deep, .int .i64 S.haul, .int .i64 S.rest] 25)
  have HS := Lib.hid (hS.mono hb0)
  have HG := Lib.hid (hg.mono hb0)
  have HB := Lib.hid hb0
  clear hS hg hb0
  have hcase : (¬ S.Ok ∧ S.fallsOut m g = (0, 20)) ∨ (S.Ok ∧ risingB 1 S.nf m g = false ∧ S.fallsOut m g = (0, 1)) ∨ (S.Ok ∧ risingB 1 S.nf m g = true ∧ S.fallsOf (memOf m g) = -1 ∧ S.fallsOut m g = (0, 3)) ∨
      (S.Ok ∧ risingB 1 S.nf m g = true ∧ 0 ≤ S.fallsOf (memOf m g) ∧ S.fallsOut m g = (S.fallsOf (memOf m g), 0)) := by
    by_cases hok : S.Ok
    · cases hrb : risingB 1 S.nf m g
      · exact .inr (.inl ⟨hok, rfl, fallsOut_arg hok hrb⟩)
      · rcases fallsOf_cases S (memOf m g) with ⟨h1, h2⟩ | ⟨h1, h2, h3⟩
        · exact .inr (.inr (.inl ⟨hok, rfl, h2, fallsOut_none hok hrb h1⟩))
        · exact .inr (.inr (.inr ⟨hok, rfl, h3, by rw [fallsOut_some hok hrb (by omega), h2]⟩))
    · exact .inl ⟨hok, fallsOut_bad hok⟩
  rcases hcase with ⟨hok, hp⟩ | ⟨hok, hrb, hp⟩ | ⟨hok, hrb, h3, hp⟩ | ⟨hok, hrb, h3, hp⟩
  · have HE := Lib.hid hp
    have he := Sh.err_bad hok
    clear hp
    go_enter Tryd.func57, Tryd.ntmps57
    go_wp2_with fail
    refine wp_region_quiet_below (by kernel_rfl) (by kernel_rfl) ?_
    repeat (go_big_quiet_step (((first | (go_at_call 52; exact Calls.regrown_of (areStops_ref _ _ _ _ S _ _ _ g _ hm (HG.out.mono (below_regrown _ _ _)))) | (go_at_call 69; exact Calls.regrown_of (ask_any _ _ _ _ S _ _ hr hf (HS.out.mono (below_regrown _ _ _))))))))
    refine wpQuiet_nil ?_
    intro w1 hw1
    have hb1 := below_of_regrown hw1
    clear hw1
    go_wp2_with fail
    go_ret2
    exact ⟨by rw [HE.out]; rfl, by (repeat (first | (with_reducible exact Below.refl _ _) | (with_reducible refine bAlloc ?_ _) | (with_reducible refine bDrew ?_) | (with_reducible refine bGrow ?_ _ _) | (with_reducible refine bSet ?_ ?_ _; (first | exact Nat.le_refl _ | exact Nat.le_add_right _ _ | (simp; omega))) | (with_reducible refine bTrans ?_ (by assumption))))⟩
  all_goals
    have HE := Lib.hid hp
    have he := Sh.err_ok hok
    clear hp
    go_enter Tryd.func57, Tryd.ntmps57
    go_wp2_with fail
    refine wp_region_quiet_below (by kernel_rfl) (by kernel_rfl) ?_
    repeat (go_big_quiet_step (((first | (go_at_call 52; exact Calls.regrown_of (areStops_ref _ _ _ _ S _ _ _ g _ hm (HG.out.mono (below_regrown _ _ _)))) | (go_at_call 69; exact Calls.regrown_of (ask_any _ _ _ _ S _ _ hr hf (HS.out.mono (below_regrown _ _ _))))))))
    refine wpQuiet_nil ?_
    intro w1 hw1
    have hb1 := below_of_regrown hw1
    clear hw1
    obtain ⟨bc1, bf1⟩ := bcell hb1
    have hz1 := hb1.size
    simp only [World.size_alloc] at hz1
    have hy1 : w.heap.size < w1.heap.size := hz1
    go_wp2_with (go_at_call 78; refine (fallsOf_any _ _ _ _ S _ hok (HS.out.mono hb1) _ _ _ g hm (HG.out.mono hb1)).mono ?_; rintro e w2 ⟨rfl, hb2⟩)
    go_ret2
    exact ⟨by rw [HE.out]; rfl, by (repeat (first | (with_reducible exact Below.refl _ _) | (with_reducible refine bAlloc ?_ _) | (with_reducible refine bDrew ?_) | (with_reducible refine bGrow ?_ _ _) | (with_reducible refine bSet ?_ ?_ _; (first | exact Nat.le_refl _ | exact Nat.le_add_right _ _ | (simp; omega))) | (with_reducible refine bTrans ?_ (by assumption))))⟩
end Go.Proofs.YtbbnpneabmldnaaDoor
