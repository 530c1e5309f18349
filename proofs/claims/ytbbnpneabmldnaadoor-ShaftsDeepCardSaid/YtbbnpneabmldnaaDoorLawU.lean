/- Walks: Far; ShaftsFewest returns true. Condition: the way that there is not lies in its variable. -/
import Derived.Test.YtbbnpneabmldnaaDoorLawS
import Derived.Test.YtbbnpneabmldnaaDoorLawD
namespace Go.Proofs.YtbbnpneabmldnaaDoor
open Go.RowKit Go.Sort
theorem huge_few {S : Sh} {n : Nat} (h : S.hugeB n = false) : S.nr ≤ 40 ∧ S.nf ≤ 40 ∧ n ≤ 40 := by
  unfold Sh.hugeB at h; simp at h; omega
def FarOut (S : Sh) (e : Ending) : Prop := ∃ b, e = .returned (.bool b) ∧ (b = false → S.nr ≤ 40 ∧ S.nf ≤ 40)
set_option maxHeartbeats 2000000 in
theorem Far_any (Ar Af : Option Addr) (cr cf : Nat) (S : Sh) (w : World) (hr : S.nr ≤ 9223372036854775807) (hf : S.nf ≤ 9223372036854775807) (hS : ShAt w Ar Af S) :
    Calls Tryd.prog 23 #[.agg #[.slice Ar S.nr cr, .slice Af S.nf cf, .int .i64 S.deep, .int .i64 S.haul, .int .i64 S.rest]] w fun e w' => FarOut S e ∧ Below w.heap.size w w' := by
  have hb0 := bAlloc (Below.refl w.heap.size w) (.cells #[.slice Ar S.nr cr, .slice Af S.nf cf, .int .i64 S.deep, .int .i64 S.haul, .int .i64 S.rest] 25)
  have HS := Lib.hid (hS.mono hb0)
  have HB := Lib.hid hb0
  clear hS hb0
  cases hh : S.hugeB 0
  · obtain ⟨h40, h41, _⟩ := huge_few hh
    by_cases h8 : (8 : Int) < (S.nf : Int)
    · have hcase : (S.err = 0 ∧ ((S.err == 0) = true)) ∨ (S.err = 20 ∧ ((S.err == 0) = false)) := by
        by_cases ok : S.Ok
        · exact .inl ⟨if_pos ok, by rw [show S.err = 0 from if_pos ok]; rfl⟩
        · exact .inr ⟨if_neg ok, by rw [show S.err = 20 from if_neg ok]; rfl⟩
      rcases hcase with ⟨he, hq⟩ | ⟨he, hq⟩
      all_goals
        have HE := Lib.hid he
        clear he
        go_enter Tryd.func23, Tryd.ntmps23
        go_wp2_with (first | (go_at_call 15; refine (Huge_any _ _ _ _ S _ _ _ _ hr hf (by omega)).mono ?_; rintro e w1 ⟨rfl, hb1⟩; obtain ⟨bc1, bf1⟩ := bcell hb1; have hz1 := hb1.size; simp only [World.size_alloc] at hz1; have hy1 : w.heap.size < w1.heap.size := (by omega)) | (go_at_call 19; refine (refCheck_any _ _ _ _ S _ hr hf (HS.out.mono hb1)).mono ?_; rintro e w2 ⟨rfl, hb2⟩))
        go_ret
        exact ⟨⟨_, rfl, fun _ => ⟨h40, h41⟩⟩, by have := HB.out; (repeat (first | (with_reducible exact Below.refl _ _) | (with_reducible refine bAlloc ?_ _) | (with_reducible refine bDrew ?_) | (with_reducible refine bGrow ?_ _ _) | (with_reducible refine bSet ?_ ?_ _; (first | exact Nat.le_refl _ | exact Nat.le_add_right _ _ | (simp; omega))) | (with_reducible refine bTrans ?_ (by assumption))))⟩
    · go_enter Tryd.func23, Tryd.ntmps23
      go_wp2_with (go_at_call 15; refine (Huge_any _ _ _ _ S _ _ _ _ hr hf (by omega)).mono ?_; rintro e w1 ⟨rfl, hb1⟩; obtain ⟨bc1, bf1⟩ := bcell hb1; have hz1 := hb1.size; simp only [World.size_alloc] at hz1; have hy1 : w.heap.size < w1.heap.size := (by omega))
      go_ret
      exact ⟨⟨_, rfl, fun _ => ⟨h40, h41⟩⟩, by have := HB.out; (repeat (first | (with_reducible exact Below.refl _ _) | (with_reducible refine bAlloc ?_ _) | (with_reducible refine bDrew ?_) | (with_reducible refine bGrow ?_ _ _) | (with_reducible refine bSet ?_ ?_ _; (first | exact Nat.le_refl _ | exact Nat.le_add_right _ _ | (simp; omega))) | (with_reducible refine bTrans ?_ (by assumption))))⟩
  · go_enter Tryd.func23, Tryd.ntmps23
    go_wp2_with (go_at_call 15; refine (Huge_any _ _ _ _ S _ _ _ _ hr hf (by omega)).mono ?_; rintro e w1 ⟨rfl, hb1⟩)
    go_ret
    exact ⟨⟨true, rfl, fun h => by cases h⟩, by have := HB.out; (repeat (first | (with_reducible exact Below.refl _ _) | (with_reducible refine bAlloc ?_ _) | (with_reducible refine bDrew ?_) | (with_reducible refine bGrow ?_ _ _) | (with_reducible refine bSet ?_ ?_ _; (first | exact Nat.le_refl _ | exact Nat.le_add_right _ _ | (simp; omega))) | (with_reducible refine bTrans ?_ (by assumption))))⟩
theorem sameInts_eq (A B : Option Addr) (n m c c' : Nat) (f g : Nat → Int) (w : World) (hn : n ≤ 9223372036854775807) (hnm : n = m) (hfg : ∀ i, i < n → f i = g i) (hf : IntsAt w A n f) (hg : IntsAt w B m g) :
    Calls Tryd.prog 42 #[.slice A n c, .slice B m c'] w fun e w' => e = .returned (.bool true) ∧ Below w.heap.size w w' :=
  (sameInts_any A B n m c c' f g w hn (hnm ▸ hn) hf hg).mono fun e w' ⟨he, hb⟩ => by
    have h0 : anyB (fun i => f i != g i) n = false := anyB_false.2 fun i hi => by simp [hfg i hi]
    exact ⟨by rw [he, h0, decide_eq_true hnm]; rfl, hb⟩
/-- the plan of the program and that of the reference -/
theorem plans_same {S : Sh} {m : Nat} {g : Nat → Int} (h : ChainTo (S.waysOf ltR S.nf) m g) (hend : ¬ 0 < (S.waysOf ltR S.nf (stopAt g m)).next) (hn : S.waysOf ltR S.nf 0 ≠ noWay) {b : List Int} {xs : List (List Int)} (hL : S.plansL = b :: xs) :
    m = (bestFrom b xs).length ∧ ∀ i, i < m → g i = gOf (bestFrom b xs) i := by
  obtain ⟨h1, h2⟩ := plan_best h hend hn hL
  refine ⟨h2.symm, fun i hi => ?_⟩
  rw [h1]
  have h3 : (intsOf (stopsL g 0 m))[i]? = some (g i) := by
    unfold intsOf
    rw [List.getElem?_map, stopsL_get _ _ _ _ hi, Nat.zero_add]
    have := h.pos i hi
    show some (((g i).toNat : Nat) : Int) = some (g i)
    rw [Int.toNat_of_nonneg (by omega)]
  exact (gOf_get h3).symm
theorem Plan_step (Ar Af : Option Addr) (cr cf : Nat) (S : Sh) (w : World) (hr : S.nr ≤ 9223372036854775807) (hf : S.nf ≤ 9223372036854775807) (hS : ShAt w Ar Af S) (hN : NoneAt w) :
    Calls Tryd.prog 37 #[.agg #[.slice Ar S.nr cr, .slice Af S.nf cf, .int .i64 S.deep, .int .i64 S.haul, .int .i64 S.rest]] w fun e w' => Stopped w w' S (S.waysOf ltR S.nf) e ∧ Below w.heap.size w w' :=
  (Plan_any Ar Af cr cf S w hr hf hS hN).mono fun _ _ h => ⟨h, h.1⟩
theorem stopped_form {w w' : World} {S : Sh} {f : Nat → Way} {e : Ending} (h : Stopped w w' S f e) : ∃ A m c x, e = .returned (.tuple #[.slice A m c, .int .i64 x]) := by
  rcases h.2 with ⟨_, h⟩ | ⟨_, _, h⟩ | ⟨_, _, _, _, _, _, h, _⟩ <;> exact ⟨_, _, _, _, h⟩
theorem planOut_form {w' : World} {S : Sh} {e : Ending} (h : PlanOut w' S e) : ∃ A m c x, e = .returned (.tuple #[.slice A m c, .int .i64 x]) := by
  rcases h with ⟨_, h⟩ | ⟨_, _, h⟩ | ⟨_, _, _, _, _, _, _, h, _⟩ <;> exact ⟨_, _, _, _, h⟩
theorem ret_plan {A B : Option Addr} {m n c d : Nat} {x y : Int} (h : Ending.returned (.tuple #[.slice A m c, .int .i64 x]) = .returned (.tuple #[.slice B n d, .int .i64 y])) : A = B ∧ m = n ∧ x = y := by
  injection h with h
  injection h with h
  have h1 := congrArg (fun a : Array Value => a[0]?) h
  have h2 := congrArg (fun a : Array Value => a[1]?) h
  simp at h1 h2
  exact ⟨h1.1, h1.2.1, h2⟩
/-- both plans: their error, and lists that are the same -/
theorem both_plans {w1 w2 w3 w4 : World} {S : Sh} {A B : Option Addr} {m m' c c' : Nat} {x y : Int} (h1 : Stopped w1 w2 S (S.waysOf ltR S.nf) (.returned (.tuple #[.slice A m c, .int .i64 x]))) (h2 : PlanOut w4 S (.returned (.tuple #[.slice B m' c', .int .i64 y]))) (hb : Below w2.heap.size w2 w3) (hb' : Below w3.heap.size w3 w4) :
    x = y ∧ m ≤ 1000000 ∧ m = m' ∧ ∃ g g', (∀ i, i < m → g i = g' i) ∧ IntsAt w4 A m g ∧ IntsAt w4 B m' g' := by
  rcases h1.2 with ⟨ok, e1⟩ | ⟨ok, hn, e1⟩ | ⟨ok, hn, A1, m1, c1, g, e1, hm, hch, hend, hI, _⟩
  · obtain ⟨rfl, rfl, rfl⟩ := ret_plan e1
    rcases h2 with ⟨_, e2⟩ | ⟨ok', _⟩ | ⟨ok', _⟩
    · obtain ⟨rfl, rfl, rfl⟩ := ret_plan e2
      exact ⟨rfl, by omega, rfl, fun _ => 0, fun _ => 0, fun _ _ => rfl, .inl rfl, .inl rfl⟩
    · exact absurd ok' ok
    · exact absurd ok' ok
  · obtain ⟨rfl, rfl, rfl⟩ := ret_plan e1
    rcases h2 with ⟨ok', _⟩ | ⟨_, _, e2⟩ | ⟨_, b, xs, hL, _⟩
    · exact absurd ok ok'
    · obtain ⟨rfl, rfl, rfl⟩ := ret_plan e2
      exact ⟨rfl, by omega, rfl, fun _ => 0, fun _ => 0, fun _ _ => rfl, .inl rfl, .inl rfl⟩
    · exact absurd hn ((ways_has (measR S)).2 (plans_has.1 (by rw [hL]; simp)))
  · obtain ⟨rfl, rfl, rfl⟩ := ret_plan e1
    rcases h2 with ⟨ok', _⟩ | ⟨_, hno, _⟩ | ⟨_, b, xs, hL, B1, m1, c1, e2, hm', hI'⟩
    · exact absurd ok ok'
    · exact absurd hno (plans_has.2 ((ways_has (measR S)).1 hn))
    · obtain ⟨rfl, rfl, rfl⟩ := ret_plan e2
      obtain ⟨g1, g2⟩ := plans_same hch hend hn hL
      have := ok.nf
      exact ⟨rfl, by omega, by rw [hm', g1], g, _, g2, (hI.mono hb).mono hb', hI'⟩
set_option maxHeartbeats 8000000 in
set_option maxRecDepth 100000 in
theorem ShaftsFewest_any (Ar Af : Option Addr) (cr cf : Nat) (S : Sh) (w : World) (hr : S.nr ≤ 9223372036854775807) (hf : S.nf ≤ 9223372036854775807) (hS : ShAt w Ar Af S) (hN : NoneAt w) :
    Calls Tryd.prog 7 #[.agg #[.slice Ar S.nr cr, .slice Af S.nf cf, .int .i64 S.deep, .int .i64 S.haul, .int .i64 S.rest]] w fun e w' => e = .returned (.bool true) ∧ Below w.heap.size w w' := by
  have hb0 := bAlloc (Below.refl w.heap.size w) (.cells #[.slice Ar S.nr cr, .slice Af S.nf cf, .int .i64 S.deep, .int .i64 S.haul, .int .i64 S.rest] 25)
  have HS := Lib.hid (hS.mono hb0)
  have HN := Lib.hid (hN.mono hb0)
  have HB := Lib.hid hb0
  clear hS hN hb0
  go_enter Tryd.func7, Tryd.ntmps7
  go_wp2_with fail
  refine (Far_any _ _ _ _ S _ hr hf HS.out).mono ?_
  rintro e w1 ⟨⟨bt, rfl, hbb⟩, hb1⟩
  cases bt
  · obtain ⟨h40, h41⟩ := hbb rfl
    clear hbb
    obtain ⟨bc1, bf1⟩ := bcell hb1
    have hz1 := hb1.size
    simp only [World.size_alloc] at hz1
    have hy1 : w.heap.size < w1.heap.size := by omega
    go_wp2_with fail
    refine (Copy_any _ _ _ _ S _ (by omega) (by omega) (HS.out.mono hb1)).mono ?_
    rintro e w2 ⟨⟨A2, F2, c2, d2, rfl, hS2, hFr, hFf⟩, hb2⟩
    have HB2 := Lib.hid (Below.refl (w2.alloc (.cells #[.slice A2 S.nr c2, .slice F2 S.nf d2, .int .i64 S.deep, .int .i64 S.haul, .int .i64 S.rest] 25)).heap.size (w2.alloc (.cells #[.slice A2 S.nr c2, .slice F2 S.nf d2, .int .i64 S.deep, .int .i64 S.haul, .int .i64 S.rest] 25)))
    have HB0 := Lib.hid (bTrans HB.out (bTrans (bTrans hb1 hb2) (bAlloc (Below.refl _ _) (.cells #[.slice A2 S.nr c2, .slice F2 S.nf d2, .int .i64 S.deep, .int .i64 S.haul, .int .i64 S.rest] 25))))
    have HBx := Lib.hid (bTrans (bTrans hb1 hb2) (bAlloc (Below.refl _ _) (.cells #[.slice A2 S.nr c2, .slice F2 S.nf d2, .int .i64 S.deep, .int .i64 S.haul, .int .i64 S.rest] 25)))
    have HS2 := Lib.hid (hS2.mono (bAlloc (Below.refl _ _) (.cells #[.slice A2 S.nr c2, .slice F2 S.nf d2, .int .i64 S.deep, .int .i64 S.haul, .int .i64 S.rest] 25)))
    have HO2 := Lib.hid ((HS.out.mono (bTrans hb1 hb2)).mono (bAlloc (Below.refl _ _) (.cells #[.slice A2 S.nr c2, .slice F2 S.nf d2, .int .i64 S.deep, .int .i64 S.haul, .int .i64 S.rest] 25)))
    have HN2 := Lib.hid ((HN.out.mono (bTrans hb1 hb2)).mono (bAlloc (Below.refl _ _) (.cells #[.slice A2 S.nr c2, .slice F2 S.nf d2, .int .i64 S.deep, .int .i64 S.haul, .int .i64 S.rest] 25)))
    obtain ⟨bc2, bf2⟩ := bcell (bTrans hb1 hb2)
    have hz2 := (bTrans hb1 hb2).size
    simp only [World.size_alloc] at hz2
    have hy2 : w.heap.size < w2.heap.size := by omega
    have hx2 : True := trivial
    have HFR := Lib.hid hFr
    have HFF := Lib.hid hFf
    clear hb1 hb2 bc1 bf1 hz1 hy1 hS2 hFr hFf
    go_wp2_with fail
    have HB3 := Lib.hid HB2.out
    have HS3 := Lib.hid HS2.out
    have HO3 := Lib.hid HO2.out
    have HN3 := Lib.hid HN2.out
    have bc3 : True := trivial
    have bf3 : True := trivial
    have hz3 : True := trivial
    have hy3 : True := trivial
    have hx3 : True := trivial
    clear HS2 HO2 HN2
    obtain ⟨p, q, hp⟩ : ∃ p q, S.fewestOut = (p, q) := ⟨_, _, rfl⟩
    have HP := Lib.hid hp
    clear hp
    refine (Fewest_any _ _ _ _ S _ hr hf HS3.out HN3.out).mono ?_
    rintro e w4 ⟨he4, hb4⟩
    rw [HP.out] at he4; subst he4
    have HB4 := Lib.hid (bTrans HB3.out hb4)
    have HS4 := Lib.hid (HS3.out.mono hb4)
    have HO4 := Lib.hid (HO3.out.mono hb4)
    have HN4 := Lib.hid (HN3.out.mono hb4)
    obtain ⟨bc4, bf4⟩ := bcell HB4.out
    have hz4 := HB4.out.size
    simp only [World.size_alloc] at hz4
    have hy4 : w.heap.size < w4.heap.size := by omega
    have hx4 : w2.heap.size < w4.heap.size := by omega
    clear hb4 bc3 bf3 hz3 hy3 hx3 HB3 HS3 HO3 HN3
    go_wp2_with fail
    refine (refFewest_any _ _ _ _ S _ hr hf HO4.out).mono ?_
    rintro e w5 ⟨he5, hb5⟩
    rw [HP.out] at he5; subst he5
    have HB5 := Lib.hid (bTrans HB4.out hb5)
    have HS5 := Lib.hid (HS4.out.mono hb5)
    have HO5 := Lib.hid (HO4.out.mono hb5)
    have HN5 := Lib.hid (HN4.out.mono hb5)
    obtain ⟨bc5, bf5⟩ := bcell HB5.out
    have hz5 := HB5.out.size
    simp only [World.size_alloc] at hz5
    have hy5 : w.heap.size < w5.heap.size := by omega
    have hx5 : w2.heap.size < w5.heap.size := by omega
    clear hb5 bc4 bf4 hz4 hy4 hx4 HB4 HS4 HO4 HN4
    go_wp2_with fail
    refine (Plan_step _ _ _ _ S _ hr hf HS5.out HN5.out).mono ?_
    rintro e w6 ⟨he6, hb6⟩
    obtain ⟨A6, m6, c6, x6, rfl⟩ := stopped_form he6
    have HE6 := Lib.hid he6
    have HB6 := Lib.hid (bTrans HB5.out hb6)
    have HS6 := Lib.hid (HS5.out.mono hb6)
    have HO6 := Lib.hid (HO5.out.mono hb6)
    have HN6 := Lib.hid (HN5.out.mono hb6)
    obtain ⟨bc6, bf6⟩ := bcell HB6.out
    have hz6 := HB6.out.size
    simp only [World.size_alloc] at hz6
    have hy6 : w.heap.size < w6.heap.size := by omega
    have hx6 : w2.heap.size < w6.heap.size := by omega
    clear he6 hb6 bc5 bf5 hz5 hy5 hx5 HB5 HS5 HO5 HN5
    go_wp2_with fail
    refine (refPlan_any _ _ _ _ S _ hr hf HO6.out).mono ?_
    rintro e w7 ⟨he7, hb7⟩
    obtain ⟨A7, m7, c7, x7, rfl⟩ := planOut_form he7
    obtain ⟨rfl, hm6, hm67, g, g', hgg, hI6, hI7⟩ := both_plans HE6.out he7 (Below.refl _ _) hb7
    have HGG := Lib.hid hgg
    have HM67 := Lib.hid hm67
    have HI6 := Lib.hid hI6
    have HI7 := Lib.hid hI7
    have HB7 := Lib.hid (bTrans HB6.out hb7)
    have HS7 := Lib.hid (HS6.out.mono hb7)
    have HO7 := Lib.hid (HO6.out.mono hb7)
    have HN7 := Lib.hid (HN6.out.mono hb7)
    obtain ⟨bc7, bf7⟩ := bcell HB7.out
    have hz7 := HB7.out.size
    simp only [World.size_alloc] at hz7
    have hy7 : w.heap.size < w7.heap.size := by omega
    have hx7 : w2.heap.size < w7.heap.size := by omega
    clear he7 hb7 hgg hm67 hI6 hI7 HE6 bc6 bf6 hz6 hy6 hx6 HB6 HS6 HO6 HN6
    go_wp2_with fail
    refine (sameInts_eq _ _ _ _ _ _ g g' _ (by omega) HM67.out HGG.out HI6.out HI7.out).mono ?_
    rintro e w8 ⟨he8, hb8⟩
    subst he8
    have HB8 := Lib.hid (bTrans HB7.out hb8)
    have HS8 := Lib.hid (HS7.out.mono hb8)
    have HO8 := Lib.hid (HO7.out.mono hb8)
    have HN8 := Lib.hid (HN7.out.mono hb8)
    obtain ⟨bc8, bf8⟩ := bcell HB8.out
    have hz8 := HB8.out.size
    simp only [World.size_alloc] at hz8
    have hy8 : w.heap.size < w8.heap.size := by omega
    have hx8 : w2.heap.size < w8.heap.size := by omega
    clear hb8 bc7 bf7 hz7 hy7 hx7 HB7 HS7 HO7 HN7
    go_wp2_with fail
    refine (Same_true _ _ _ _ _ _ _ _ S _ (by omega) (by omega) HS8.out HO8.out).mono ?_
    rintro e w9 ⟨he9, hb9⟩
    subst he9
    have HB9 := Lib.hid (bTrans HB8.out hb9)
    have HS9 := Lib.hid (HS8.out.mono hb9)
    have HO9 := Lib.hid (HO8.out.mono hb9)
    have HN9 := Lib.hid (HN8.out.mono hb9)
    obtain ⟨bc9, bf9⟩ := bcell HB9.out
    have hz9 := HB9.out.size
    simp only [World.size_alloc] at hz9
    have hy9 : w.heap.size < w9.heap.size := by omega
    have hx9 : w2.heap.size < w9.heap.size := by omega
    clear hb9 bc8 bf8 hz8 hy8 hx8 HB8 HS8 HO8 HN8
    go_wp2_with fail
    refine (works_any _ HN9.out).mono ?_
    rintro e w10 ⟨rfl, hb10⟩
    go_wp2_with fail
    go_ret
    exact ⟨rfl, bTrans (bTrans HB0.out HB9.out) hb10⟩
  · clear hbb
    go_wp2_with fail
    refine (works_any _ (HN.out.mono hb1)).mono ?_
    rintro e w2 ⟨rfl, hb2⟩
    go_wp2_with fail
    go_ret
    exact ⟨rfl, bTrans HB.out (bTrans hb1 hb2)⟩
end Go.Proofs.YtbbnpneabmldnaaDoor
