/- Walk: ShaftsEach returns true. Condition: the way that there is not lies in its variable. -/
import Derived.Test.YtbbnpneabmldnaaDoorLawH
namespace Go.Proofs.YtbbnpneabmldnaaDoor
open Go.RowKit Go.Sort
theorem Falls_at {S : Sh} {m : Nat} {g : Nat → Int} {x y : Int} (h : S.fallsOut m g = (x, y)) (Ar Af : Option Addr) (cr cf : Nat) (w : World) (hr : S.nr ≤ 9223372036854775807) (hf : S.nf ≤ 9223372036854775807) (hS : ShAt w Ar Af S) (A : Option Addr) (c : Nat) (hm : m ≤ 9223372036854775807) (hg : IntsAt w A m g) :
    Calls Tryd.prog 53 #[.agg #[.slice Ar S.nr cr, .slice Af S.nf cf, .int .i64 S.deep, .int .i64 S.haul, .int .i64 S.rest], .slice A m c] w fun e w' => e = .returned (.tuple #[.int .i64 x, .int .i64 y]) ∧ Below w.heap.size w w' := by
  have := Falls_any Ar Af cr cf S w hr hf hS A m c g hm hg
  rw [h] at this
  exact this
theorem Good_at {S : Sh} {m : Nat} {g : Nat → Int} {x : Bool} {y : Int} (h : S.goodOut m g = (x, y)) (Ar Af : Option Addr) (cr cf : Nat) (w : World) (hr : S.nr ≤ 9223372036854775807) (hf : S.nf ≤ 9223372036854775807) (hS : ShAt w Ar Af S) (A : Option Addr) (c : Nat) (hm : m ≤ 9223372036854775807) (hg : IntsAt w A m g) :
    Calls Tryd.prog 50 #[.agg #[.slice Ar S.nr cr, .slice Af S.nf cf, .int .i64 S.deep, .int .i64 S.haul, .int .i64 S.rest], .slice A m c] w fun e w' => e = .returned (.tuple #[.bool x, .int .i64 y]) ∧ Below w.heap.size w w' := by
  have := Good_any Ar Af cr cf S w hr hf hS A m c g hm hg
  rw [h] at this
  exact this
def Sh.restAll (S : Sh) (m : Nat) (g : Nat → Int) : Bool := !anyB (fun i => !S.restsB (g i).toNat) m
theorem restAll_iff {S : Sh} {m : Nat} {g : Nat → Int} : S.restAll m g = true ↔ ∀ i, i < m → S.restsB (g i).toNat = true := by
  unfold Sh.restAll
  rw [Bool.not_eq_true', anyB_false]
  simp
theorem restAll_succ {S : Sh} {m : Nat} {g : Nat → Int} : S.restAll (m + 1) g = (S.restAll m g && S.restsB (g m).toNat) := by
  unfold Sh.restAll
  simp only [anyB]
  cases anyB (fun i => !S.restsB (g i).toNat) m <;> cases S.restsB (g m).toNat <;> rfl
/-- the answers of Good and of Falls, of stops -/
theorem each_cases {S : Sh} {m : Nat} {g : Nat → Int} (ok : S.Ok) (hR : Rising 1 S.nf m g) :
    (S.Plan m g ∧ S.restAll m g = true ∧ S.fallsOut m g = (0, 3) ∧ stopAt g m = S.nf ∧ S.goodOut m g = (true, 0)) ∨
    (S.goodOut m g = (false, 0) ∧ S.restAll m g = false ∧ ∃ f e, S.fallsOut m g = (f, e) ∧ (e = 0 ∨ e = 3)) ∨
    (S.goodOut m g = (false, 0) ∧ S.restAll m g = true ∧ ∃ f, S.fallsOut m g = (f, 0)) ∨
    (S.goodOut m g = (false, 0) ∧ S.restAll m g = true ∧ S.fallsOut m g = (0, 3) ∧ stopAt g m ≠ S.nf) := by
  have hrb := rising_iff.2 hR
  have hgo : S.goodOut m g = (S.planB m g, 0) := goodOut_ok ok
  rw [hgo]
  by_cases hf : S.firstFall (memOf m g) = S.nf
  · have h3 := fallsOut_none ok hrb hf
    cases hr : S.restAll m g
    · exact .inr (.inl ⟨by rw [Sh.planB_f (fun h => by rw [restAll_iff.2 h.rest] at hr; cases hr)], rfl, 0, 3, h3, .inr rfl⟩)
    · by_cases hl : stopAt g m = S.nf
      · have hP : S.Plan m g := ⟨hR, hf, restAll_iff.1 hr, hl⟩
        exact .inl ⟨hP, rfl, h3, hl, by rw [Sh.planB_t hP]⟩
      · exact .inr (.inr (.inr ⟨by rw [Sh.planB_f (fun h => hl h.last)], rfl, h3, hl⟩))
  · have h3 := fallsOut_some ok hrb hf
    have hP : S.planB m g = false := Sh.planB_f (fun h => hf h.fall)
    rw [hP]
    cases hr : S.restAll m g
    · exact .inr (.inl ⟨rfl, rfl, _, 0, h3, .inl rfl⟩)
    · exact .inr (.inr (.inl ⟨rfl, rfl, _, h3⟩))
set_option maxHeartbeats 8000000 in
set_option maxRecDepth 100000 in
theorem ShaftsEach_no (Ar Af : Option Addr) (cr cf : Nat) (S : Sh) (A : Option Addr) (m c : Nat) (g : Nat → Int) (w : World) (hr : S.nr ≤ 9223372036854775807) (hf : S.nf ≤ 9223372036854775807) (HS : Hid (ShAt (w.alloc (.cells #[.slice Ar S.nr cr, .slice Af S.nf cf, .int .i64 S.deep, .int .i64 S.haul, .int .i64 S.rest] 25)) Ar Af S)) (HN : Hid (NoneAt (w.alloc (.cells #[.slice Ar S.nr cr, .slice Af S.nf cf, .int .i64 S.deep, .int .i64 S.haul, .int .i64 S.rest] 25)))) (HG : Hid (IntsAt (w.alloc (.cells #[.slice Ar S.nr cr, .slice Af S.nf cf, .int .i64 S.deep, .int .i64 S.haul, .int .i64 S.rest] 25)) A m g)) (HB : Hid (Below w.heap.size w (w.alloc (.cells #[.slice Ar S.nr cr, .slice Af S.nf cf, .int .i64 S.deep, .int .i64 S.haul, .int .i64 S.rest] 25)))) (hm : m ≤ 9223372036854775807)
    (hgo : ¬ (S.Ok ∧ ¬ 40 < m ∧ risingB 1 S.nf m g = true)) :
    Calls Tryd.prog 12 #[.agg #[.slice Ar S.nr cr, .slice Af S.nf cf, .int .i64 S.deep, .int .i64 S.haul, .int .i64 S.rest], .slice A m c] w fun e w' => e = .returned (.bool true) ∧ Below w.heap.size w w' := by
  have hcase : ¬ S.Ok ∨ (S.Ok ∧ (40 : Int) < (m : Int)) ∨ (S.Ok ∧ ¬ (40 : Int) < (m : Int) ∧ risingB 1 S.nf m g = false) := by
    by_cases ok : S.Ok
    · by_cases h1 : 40 < m
      · exact .inr (.inl ⟨ok, by omega⟩)
      · refine .inr (.inr ⟨ok, by omega, ?_⟩)
        cases e : risingB 1 S.nf m g
        · rfl
        · exact absurd ⟨ok, h1, e⟩ hgo
    · exact .inl ok
  clear hgo
  rcases hcase with hno | ⟨ok, h40⟩ | ⟨ok, h40, hrb⟩
  · go_enter Tryd.func12, Tryd.ntmps12
    go_wp2_with fail
    refine (ready_any _ _ _ _ S _ hr hf HS.out).mono ?_
    rintro e w1 ⟨b, rfl, hbb, hb1⟩
    obtain rfl : b = false := by
      cases b
      · rfl
      · exact absurd (hbb.1 rfl) hno
    clear hbb
    go_wp2_with fail
    refine (works_any _ (HN.out.mono hb1)).mono ?_
    rintro e w2 ⟨rfl, hb2⟩
    go_wp2_with fail
    go_ret
    exact ⟨rfl, bTrans HB.out (bTrans hb1 hb2)⟩
  · go_enter Tryd.func12, Tryd.ntmps12
    go_wp2_with fail
    refine (ready_any _ _ _ _ S _ hr hf HS.out).mono ?_
    rintro e w1 ⟨b, rfl, hbb, hb1⟩
    obtain rfl : b = true := hbb.2 ok
    clear hbb
    go_wp2_with fail
    refine (works_any _ (HN.out.mono hb1)).mono ?_
    rintro e w2 ⟨rfl, hb2⟩
    go_wp2_with fail
    go_ret
    exact ⟨rfl, bTrans HB.out (bTrans hb1 hb2)⟩
  · go_enter Tryd.func12, Tryd.ntmps12
    go_wp2_with fail
    refine (ready_any _ _ _ _ S _ hr hf HS.out).mono ?_
    rintro e w1 ⟨b, rfl, hbb, hb1⟩
    obtain rfl : b = true := hbb.2 ok
    obtain ⟨bc1, bf1⟩ := bcell hb1
    have hz1 := hb1.size
    simp only [World.size_alloc] at hz1
    have hy1 : w.heap.size < w1.heap.size := by omega
    clear hbb
    go_wp2_with fail
    refine (areStops_ref _ _ _ _ S _ _ _ g _ hm (HG.out.mono hb1)).mono ?_
    rintro e w3 ⟨he3, hb3⟩
    rw [hrb] at he3
    subst he3
    go_wp2_with fail
    refine (works_any _ ((HN.out.mono hb1).mono hb3)).mono ?_
    rintro e w2 ⟨rfl, hb2⟩
    go_wp2_with fail
    go_ret
    exact ⟨rfl, bTrans HB.out (bTrans (bTrans hb1 hb3) hb2)⟩
set_option maxHeartbeats 8000000 in
set_option maxRecDepth 100000 in
theorem ShaftsEach_any (Ar Af : Option Addr) (cr cf : Nat) (S : Sh) (A : Option Addr) (m c : Nat) (g : Nat → Int) (w : World) (hr : S.nr ≤ 9223372036854775807) (hf : S.nf ≤ 9223372036854775807) (hS : ShAt w Ar Af S) (hN : NoneAt w) (hg : IntsAt w A m g) (hm : m ≤ 9223372036854775807) :
    Calls Tryd.prog 12 #[.agg #[.slice Ar S.nr cr, .slice Af S.nf cf, .int .i64 S.deep, .int .i64 S.haul, .int .i64 S.rest], .slice A m c] w fun e w' => e = .returned (.bool true) ∧ Below w.heap.size w w' := by
  have hb0 := bAlloc (Below.refl w.heap.size w) (.cells #[.slice Ar S.nr cr, .slice Af S.nf cf, .int .i64 S.deep, .int .i64 S.haul, .int .i64 S.rest] 25)
  have HS := Lib.hid (hS.mono hb0)
  have HN := Lib.hid (hN.mono hb0)
  have HG := Lib.hid (hg.mono hb0)
  have HB := Lib.hid hb0
  have HB0 := Lib.hid (Below.refl (w.alloc (.cells #[.slice Ar S.nr cr, .slice Af S.nf cf, .int .i64 S.deep, .int .i64 S.haul, .int .i64 S.rest] 25)).heap.size (w.alloc (.cells #[.slice Ar S.nr cr, .slice Af S.nf cf, .int .i64 S.deep, .int .i64 S.haul, .int .i64 S.rest] 25)))
  have bc0 : True := trivial
  have bf0 : True := trivial
  have hz0 : True := trivial
  have hy0 : True := trivial
  clear hS hN hg hb0
  by_cases hgo : S.Ok ∧ ¬ 40 < m ∧ risingB 1 S.nf m g = true
  · obtain ⟨ok, hm40, hrb⟩ := hgo
    have hnr := ok.nr
    have hnf := ok.nf
    have hR := rising_iff.1 hrb
    have HR := Lib.hid hR
    have hmn := hR.count
    have HE := Lib.hid (each_cases ok hR)
    have hi40 : ((40 : Int) < (m : Int)) = False := by simp; omega
    clear hR
    go_enter Tryd.func12, Tryd.ntmps12
    go_wp2_with fail
    refine (ready_any _ _ _ _ S _ hr hf HS.out).mono ?_
    rintro e w1 ⟨b, rfl, hbb, hb1⟩
    obtain rfl : b = true := hbb.2 ok
    have HB1 := Lib.hid hb1
    obtain ⟨bc1, bf1⟩ := bcell hb1
    have hz1 := hb1.size
    simp only [World.size_alloc] at hz1
    have hy1 : w.heap.size < w1.heap.size := by omega
    clear hb1 hbb
    go_wp2_with fail
    refine (areStops_ref _ _ _ _ S _ _ _ g _ hm (HG.out.mono HB1.out)).mono ?_
    rintro e w2 ⟨he2, hb2⟩
    rw [hrb] at he2; subst he2
    have HB2 := Lib.hid (bTrans HB1.out hb2)
    obtain ⟨bc2, bf2⟩ := bcell HB2.out
    have hz2 := HB2.out.size
    simp only [World.size_alloc] at hz2
    have hy2 : w.heap.size < w2.heap.size := by omega
    clear hb2 bc1 bf1 hz1 hy1 HB1
    go_wp2_with fail
    refine (lawBest_any _ _ _ _ S _ ok (HS.out.mono HB2.out) (HN.out.mono HB2.out)).mono ?_
    rintro e w3 ⟨⟨mm, nn, bb, rfl, hmm, hn0, hn1, hbest⟩, hb3⟩
    have HB3 := Lib.hid (bTrans HB2.out hb3)
    obtain ⟨bc3, bf3⟩ := bcell HB3.out
    have hz3 := HB3.out.size
    simp only [World.size_alloc] at hz3
    have hy3 : w.heap.size < w3.heap.size := by omega
    clear hb3 bc2 bf2 hz2 hy2 HB2
    rcases hbest with ⟨rfl, hhas, hfew, hcheap⟩ | ⟨rfl, hhas, rfl, rfl⟩
    case' inl =>
      have HF := Lib.hid (And.intro hhas (And.intro hfew hcheap))
      clear hhas hfew hcheap
      go_wp2_with fail
      refine (Plan_law _ _ _ _ S _ ok (HS.out.mono HB3.out) (HN.out.mono HB3.out)).mono ?_
      rintro e w4 ⟨hp, hb4⟩
      rcases hp with ⟨_, A1, m1, c1, g1, rfl, hm1, hP1, hX1, hI1⟩ | ⟨hno, _⟩
      case inr => exact absurd HF.out.1 hno
      obtain rfl : m1 = mm := hX1.uniq HF.out.2.1
      have HP1 := Lib.hid hP1
      have HB4 := Lib.hid (bTrans HB3.out hb4)
      have HI4 := Lib.hid hI1
      obtain ⟨bc4, bf4⟩ := bcell HB4.out
      have hz4 := HB4.out.size
      simp only [World.size_alloc] at hz4
      have hy4 : w.heap.size < w4.heap.size := by omega
      clear hb4 bc3 bf3 hz3 hy3 HB3 hX1 hP1 hI1
      go_wp2_with fail
      refine (Cheapest_law _ _ _ _ S _ ok (HS.out.mono HB4.out) (HN.out.mono HB4.out)).mono ?_
      rintro e w5 ⟨hp, hb5⟩
      rcases hp with ⟨_, A2, m2, c2, g2, rfl, hm2, hP2, hX2, hI2⟩ | ⟨hno, _⟩
      case inr => exact absurd HF.out.1 hno
      have hcost := hX2.uniq HF.out.2.2
      have HP2 := Lib.hid hP2
      have HC2 := Lib.hid hcost
      have HB5 := Lib.hid (bTrans HB4.out hb5)
      have HI5 := Lib.hid hI2
      have HJ5 := Lib.hid (HI4.out.mono hb5)
      have HBB := Lib.hid (Below.refl w5.heap.size w5)
      obtain ⟨bc5, bf5⟩ := bcell HB5.out
      have hz5 := HB5.out.size
      simp only [World.size_alloc] at hz5
      have hy5 : w.heap.size < w5.heap.size := by omega
      have hi2 : ((40 : Int) < (m2 : Int)) = False := by simp; omega
      clear hb5 bc4 bf4 hz4 hy4 HB4 hX2 hP2 hI2 hcost HI4
      go_wp2_with (go_at_call 43; refine (isKnown_any _ _).mono ?_; rintro e w6 ⟨rfl, rfl⟩)
      refine (isPlan_any _ _ _ _ S _ ok (HS.out.mono HB5.out) _ _ _ g1 (by omega) HJ5.out).mono ?_
      rintro e w6 ⟨he6, hb6⟩
      rw [Sh.planB_t HP1.out] at he6
      subst he6
      have HB6 := Lib.hid (bTrans HB5.out hb6)
      have HBB6 := Lib.hid hb6
      obtain ⟨bc6, bf6⟩ := bcell HB6.out
      have hz6 := HB6.out.size
      simp only [World.size_alloc] at hz6
      have hy6 : w.heap.size < w6.heap.size := by omega
      clear hb6 bc5 bf5 hz5 hy5 HB5
      go_wp2_with fail
      refine (isPlan_any _ _ _ _ S _ ok (HS.out.mono HB6.out) _ _ _ g2 (by omega) (HI5.out.mono HBB6.out)).mono ?_
      rintro e w7 ⟨he7, hb7⟩
      rw [Sh.planB_t HP2.out] at he7
      subst he7
      have HB7 := Lib.hid (bTrans HB6.out hb7)
      have HBB7 := Lib.hid (bTrans HBB6.out hb7)
      obtain ⟨bc7, bf7⟩ := bcell HB7.out
      have hz7 := HB7.out.size
      simp only [World.size_alloc] at hz7
      have hy7 : w.heap.size < w7.heap.size := by omega
      clear hb7 bc6 bf6 hz6 hy6 HB6
      go_wp2_with fail
      refine (costOf_any _ _ _ _ S _ ok (HS.out.mono HB7.out) _ _ _ g2 (HI5.out.mono HBB7.out) HP2.out.rising).mono ?_
      rintro e w8 ⟨he8, hb8⟩
      rw [HC2.out] at he8
      subst he8
      have HB8 := Lib.hid (bTrans HB7.out hb8)
      obtain ⟨bc8, bf8⟩ := bcell HB8.out
      have hz8 := HB8.out.size
      simp only [World.size_alloc] at hz8
      have hy8 : w.heap.size < w8.heap.size := by omega
      clear hb8 bc7 bf7 hz7 hy7 HB7 HBB6 HBB7 HI5 HJ5
      go_wp2_with fail
    case' inr =>
      have HF := Lib.hid hhas
      clear hhas
      go_wp2_with fail
      refine (Plan_law _ _ _ _ S _ ok (HS.out.mono HB3.out) (HN.out.mono HB3.out)).mono ?_
      rintro e w4 ⟨hp, hb4⟩
      rcases hp with ⟨hno, _⟩ | ⟨_, rfl⟩
      case inl => exact absurd hno HF.out
      have HB4 := Lib.hid (bTrans HB3.out hb4)
      obtain ⟨bc4, bf4⟩ := bcell HB4.out
      have hz4 := HB4.out.size
      simp only [World.size_alloc] at hz4
      have hy4 : w.heap.size < w4.heap.size := by omega
      clear hb4 bc3 bf3 hz3 hy3 HB3
      go_wp2_with fail
      refine (Cheapest_law _ _ _ _ S _ ok (HS.out.mono HB4.out) (HN.out.mono HB4.out)).mono ?_
      rintro e w8 ⟨hp, hb8⟩
      rcases hp with ⟨hno, _⟩ | ⟨_, rfl⟩
      case inl => exact absurd hno HF.out
      have HB8 := Lib.hid (bTrans HB4.out hb8)
      obtain ⟨bc8, bf8⟩ := bcell HB8.out
      have hz8 := HB8.out.size
      simp only [World.size_alloc] at hz8
      have hy8 : w.heap.size < w8.heap.size := by omega
      clear hb8 bc4 bf4 hz4 hy4 HB4
      go_wp2_with (go_at_call 43; refine (isKnown_any _ _).mono ?_; rintro e w6 ⟨rfl, rfl⟩)
    all_goals
      clear bc8 bf8 hz8 hy8
      go_loopw [13, 14] (fun rs i wr => ∃ k : Nat, k ≤ m ∧ i = .int .i64 k ∧ rs = .bool (S.restAll k g) ∧ Below (w.alloc (.cells #[.slice Ar S.nr cr, .slice Af S.nf cf, .int .i64 S.deep, .int .i64 S.haul, .int .i64 S.rest] 25)).heap.size (w.alloc (.cells #[.slice Ar S.nr cr, .slice Af S.nf cf, .int .i64 S.deep, .int .i64 S.haul, .int .i64 S.rest] 25)) wr) (fun _ i _ => m - (intOf i).toNat)
      case atStart => exact ⟨0, Nat.zero_le _, rfl, rfl, HB8.out⟩
      case round =>
        obtain ⟨k, hk, rfl, rfl, hbel⟩ := hrel
        have HB9 := Lib.hid hbel
        obtain ⟨bc9, bf9⟩ := bcell hbel
        have hz9 := hbel.size
        simp only [World.size_alloc] at hz9
        have hy9 : w.heap.size < wr.heap.size := hz9
        clear hbel HB8
        by_cases hlt : k < m
        · rcases HG.out.mono HB9.out with h0 | ⟨b, o, hA, hb, hcell⟩
          · omega
          have c0 := hcell k hlt
          clear hcell
          subst hA
          obtain ⟨hs0, hs1, hs2⟩ := stop_nat HR.out hlt
          have HS0 := Lib.hid hs0
          have HRA := Lib.hid (restAll_succ (S := S) (m := k) (g := g))
          clear hs0
          cases hra : S.restAll k g
          · have HRB := Lib.hid hra
            go_wp2_with fail
            refine wp_region_quiet_below (by kernel_rfl) (by kernel_rfl) ?_
            repeat (go_big_quiet_step ((fail)))
            refine wpQuiet_nil ?_
            intro w10 hw10
            have hb10 := below_of_regrown hw10
            clear hw10
            go_wp2_with fail
            go_roundw
            case rel => exact ⟨k + 1, by omega, by go_num, by rw [HRA.out, HRB.out]; rfl, bTrans HB9.out hb10⟩
            case measure => simp [intOf]; omega
          · have HRB := Lib.hid hra
            go_wp2_with fail
            refine wp_region_quiet_below (by kernel_rfl) (by kernel_rfl) ?_
            repeat (go_big_quiet_step ((go_at_call 54; exact Calls.regrown_of (canRest_any _ _ _ _ S _ ok ((HS.out.mono HB9.out).mono (below_regrown _ _ _)) _ _ HS0.out hs1 hs2))))
            refine wpQuiet_nil ?_
            intro w10 hw10
            have hb10 := below_of_regrown hw10
            clear hw10
            go_wp2_with fail
            go_roundw
            case rel => exact ⟨k + 1, by omega, by go_num, by rw [HRA.out, HRB.out]; rfl, bTrans HB9.out hb10⟩
            case measure => simp [intOf]; omega
        · obtain rfl : m = k := by omega
          have hst : ∀ L : Int, L = (stopAt g m : Nat) → (L == (S.nf : Int)) = decide (stopAt g m = S.nf) := fun L hL => by
            subst hL
            by_cases e : stopAt g m = S.nf
            · simp [e]
            · have : ¬ ((stopAt g m : Nat) : Int) = (S.nf : Int) := by omega
              simp [e, this]
          rcases Nat.eq_zero_or_pos m with hm0 | hm0
          case' inl =>
            have hm1 : ¬ (0 : Int) < (m : Int) := by omega
            have HQ := Lib.hid (hst 0 (by rw [hm0]; rfl))
            clear hst hm0
            go_wp2_with fail
          case' inr =>
            have hm1 : (0 : Int) < (m : Int) := by omega
            have HQ := Lib.hid (hst (g (m - 1)) (by
              obtain ⟨hs0, _, _⟩ := stop_nat HR.out (k := m - 1) (by omega)
              rw [hs0]
              obtain ⟨k, rfl⟩ : ∃ k, m = k + 1 := ⟨m - 1, by omega⟩
              rfl))
            clear hst
            rcases HG.out.mono HB9.out with h0 | ⟨b, o, hA, hb, hcell⟩
            · omega
            have c0 := hcell (m - 1) (by omega)
            clear hcell
            subst hA
            have j1 : (0 : Int) ≤ (m : Int) - 1 := by omega
            have j2 : (m : Int) - 1 < (m : Int) := by omega
            have j3 : ((m : Int) - 1).toNat = m - 1 := by omega
            go_wp2_with fail
            clear j1 j2 j3 c0 hb
            generalize (some (⟨b, o, none⟩ : Addr)) = A at *
          all_goals
            rcases HE.out with ⟨hP, hra, hfo, hla, hgo⟩ | ⟨hgo, hra, f, e0, hfo, rfl | rfl⟩ | ⟨hgo, hra, f, hfo⟩ | ⟨hgo, hra, hfo, hla⟩
            case inl =>
              first
              | exact absurd ⟨_, plan_chain hP⟩ HF.out
              | (skip
                 have hq := HQ.out
                 rw [show decide (stopAt g m = S.nf) = true from decide_eq_true hla] at hq
                 have HP := Lib.hid hP
                 obtain ⟨q1, q2, q3⟩ := HF.out
                 have hle := q2.least _ (plan_chain hP)
                 rw [stopsL_len] at hle
                 have hge := q3.least _ (plan_chain hP)
                 rw [← costOf_pay] at hge
                 clear hP hla q1 q2 q3
                 have HFO := Lib.hid hfo
                 have HGO := Lib.hid hgo
                 clear hfo hgo
                 rw [hra]
                 refine wp_region_held 9 [.const (.agg #[.slice Ar S.nr cr, .slice Af S.nf cf, .int .i64 S.deep, .int .i64 S.haul, .int .i64 S.rest]), .const (.slice A m c), .held (copyS m) (copyR 0 m (intL g m)), .const (.tuple #[.int .i64 0, .int .i64 3]), .const (.tuple #[.int .i64 0, .int .i64 3]), .const (.int .i64 0), .const (.int .i64 3), .const (.int .i64 0), .const (.int .i64 3)] (by kernel_rfl) (by kernel_rfl) rfl ⟨trivial, trivial, copyG _ _ _, trivial, trivial, trivial, trivial, trivial, trivial, trivial⟩ ?_
                 refine wpHeld_const (by go_simp) ?_
                 refine wpHeld_const (by go_simp) ?_
                 refine wpHeld_held rfl (fun w' hb hd => ?_) (fun v hv => ?_)
                 · go_simp
                   refine (copied_any _ _ _ g _ (by omega) ((HG.out.mono HB9.out).mono hb)).mono ?_
                   rintro e w'' ⟨⟨A', c', rfl, h1, h2⟩, hb'⟩
                   exact ⟨_, rfl, hb', ⟨_, _, rfl⟩, _, _, rfl, intsAt_row.1 h1, h2.base (Nat.zero_le _)⟩
                 obtain ⟨Ad, cd, rfl⟩ := hv
                 refine wpHeld_call rfl (fun w' hb hd => ?_) ?_
                 · have hrow := intsAt_row.2 (copyR_get (hd.1 (by kernel_rfl))).1
                   clear hd
                   go_simp
                   refine (Falls_at HFO.out _ _ _ _ _ hr hf ((HS.out.mono HB9.out).mono hb) _ _ hm hrow).mono ?_
                   rintro e w'' ⟨he, hb'⟩
                   exact ⟨he, hb'⟩
                 refine wpHeld_const (by go_simp) ?_
                 refine wpHeld_const (by go_simp) ?_
                 refine wpHeld_const (by go_simp) ?_
                 refine wpHeld_const (by go_simp) ?_
                 refine wpHeld_const (by go_simp) ?_
                 refine wpHeld_end (fun w10 hb10 hd => ?_)
                 clear hd
                 simp only [List.drop_succ_cons, List.drop_zero]
                 simp only [Act.put, List.setIfInBounds_toArray, List.set_cons_succ, List.set_cons_zero]
                 have HB10 := Lib.hid (bTrans HB9.out hb10)
                 obtain ⟨bc10, bf10⟩ := bcell HB10.out
                 have hz10 := HB10.out.size
                 simp only [World.size_alloc] at hz10
                 have hy10 : w.heap.size < w10.heap.size := hz10
                 clear hb10 bc9 bf9 hz9 hy9
                 go_wp2_with fail
                 refine wp_region_held 9 [.const (.agg #[.slice Ar S.nr cr, .slice Af S.nf cf, .int .i64 S.deep, .int .i64 S.haul, .int .i64 S.rest]), .const (.slice A m c), .held (copyS m) (copyR 0 m (intL g m)), .const (.tuple #[.bool true, .int .i64 0]), .const (.tuple #[.bool true, .int .i64 0]), .const (.bool true), .const (.int .i64 0), .const (.bool true), .const (.int .i64 0)] (by kernel_rfl) (by kernel_rfl) rfl ⟨trivial, trivial, copyG _ _ _, trivial, trivial, trivial, trivial, trivial, trivial, trivial⟩ ?_
                 refine wpHeld_const (by go_simp) ?_
                 refine wpHeld_const (by go_simp) ?_
                 refine wpHeld_held rfl (fun w' hb hd => ?_) (fun v hv => ?_)
                 · go_simp
                   refine (copied_any _ _ _ g _ (by omega) ((HG.out.mono HB10.out).mono hb)).mono ?_
                   rintro e w'' ⟨⟨A', c', rfl, h1, h2⟩, hb'⟩
                   exact ⟨_, rfl, hb', ⟨_, _, rfl⟩, _, _, rfl, intsAt_row.1 h1, h2.base (Nat.zero_le _)⟩
                 obtain ⟨Ad, cd, rfl⟩ := hv
                 refine wpHeld_call rfl (fun w' hb hd => ?_) ?_
                 · have hrow := intsAt_row.2 (copyR_get (hd.1 (by kernel_rfl))).1
                   clear hd
                   go_simp
                   refine (Good_at HGO.out _ _ _ _ _ hr hf ((HS.out.mono HB10.out).mono hb) _ _ hm hrow).mono ?_
                   rintro e w'' ⟨he, hb'⟩
                   exact ⟨he, hb'⟩
                 refine wpHeld_const (by go_simp) ?_
                 refine wpHeld_const (by go_simp) ?_
                 refine wpHeld_const (by go_simp) ?_
                 refine wpHeld_const (by go_simp) ?_
                 refine wpHeld_const (by go_simp) ?_
                 refine wpHeld_end (fun w11 hb11 hd => ?_)
                 clear hd
                 simp only [List.drop_succ_cons, List.drop_zero]
                 simp only [Act.put, List.setIfInBounds_toArray, List.set_cons_succ, List.set_cons_zero]
                 have HB11 := Lib.hid (bTrans HB10.out hb11)
                 obtain ⟨bc11, bf11⟩ := bcell HB11.out
                 have hz11 := HB11.out.size
                 simp only [World.size_alloc] at hz11
                 have hy11 : w.heap.size < w11.heap.size := hz11
                 clear hb11 bc10 bf10 hz10 hy10
                 go_wp2_with (go_at_call 43; refine (isKnown_any _ _).mono ?_; rintro e w12 ⟨rfl, rfl⟩)
                 refine (costOf_any _ _ _ _ S _ ok (HS.out.mono HB11.out) _ _ _ g (HG.out.mono HB11.out) HR.out).mono ?_
                 rintro e w12 ⟨rfl, hb12⟩
                 go_wp2_with fail
                 refine (works_any _ ((HN.out.mono HB11.out).mono hb12)).mono ?_
                 rintro e w13 ⟨rfl, hb13⟩
                 go_wp2_with fail
                 go_ret
                 exact ⟨rfl, bTrans (bTrans HB.out (bTrans HB11.out hb12)) hb13⟩)
            case inr.inl.inl =>
              have HFO := Lib.hid hfo
              have HGO := Lib.hid hgo
              clear hfo hgo
              rw [hra]
              refine wp_region_held 9 [.const (.agg #[.slice Ar S.nr cr, .slice Af S.nf cf, .int .i64 S.deep, .int .i64 S.haul, .int .i64 S.rest]), .const (.slice A m c), .held (copyS m) (copyR 0 m (intL g m)), .const (.tuple #[.int .i64 f, .int .i64 0]), .const (.tuple #[.int .i64 f, .int .i64 0]), .const (.int .i64 f), .const (.int .i64 0), .const (.int .i64 f), .const (.int .i64 0)] (by kernel_rfl) (by kernel_rfl) rfl ⟨trivial, trivial, copyG _ _ _, trivial, trivial, trivial, trivial, trivial, trivial, trivial⟩ ?_
              refine wpHeld_const (by go_simp) ?_
              refine wpHeld_const (by go_simp) ?_
              refine wpHeld_held rfl (fun w' hb hd => ?_) (fun v hv => ?_)
              · go_simp
                refine (copied_any _ _ _ g _ (by omega) ((HG.out.mono HB9.out).mono hb)).mono ?_
                rintro e w'' ⟨⟨A', c', rfl, h1, h2⟩, hb'⟩
                exact ⟨_, rfl, hb', ⟨_, _, rfl⟩, _, _, rfl, intsAt_row.1 h1, h2.base (Nat.zero_le _)⟩
              obtain ⟨Ad, cd, rfl⟩ := hv
              refine wpHeld_call rfl (fun w' hb hd => ?_) ?_
              · have hrow := intsAt_row.2 (copyR_get (hd.1 (by kernel_rfl))).1
                clear hd
                go_simp
                refine (Falls_at HFO.out _ _ _ _ _ hr hf ((HS.out.mono HB9.out).mono hb) _ _ hm hrow).mono ?_
                rintro e w'' ⟨he, hb'⟩
                exact ⟨he, hb'⟩
              refine wpHeld_const (by go_simp) ?_
              refine wpHeld_const (by go_simp) ?_
              refine wpHeld_const (by go_simp) ?_
              refine wpHeld_const (by go_simp) ?_
              refine wpHeld_const (by go_simp) ?_
              refine wpHeld_end (fun w10 hb10 hd => ?_)
              clear hd
              simp only [List.drop_succ_cons, List.drop_zero]
              simp only [Act.put, List.setIfInBounds_toArray, List.set_cons_succ, List.set_cons_zero]
              have HB10 := Lib.hid (bTrans HB9.out hb10)
              obtain ⟨bc10, bf10⟩ := bcell HB10.out
              have hz10 := HB10.out.size
              simp only [World.size_alloc] at hz10
              have hy10 : w.heap.size < w10.heap.size := hz10
              clear hb10 bc9 bf9 hz9 hy9
              go_wp2_with fail
              refine wp_region_held 9 [.const (.agg #[.slice Ar S.nr cr, .slice Af S.nf cf, .int .i64 S.deep, .int .i64 S.haul, .int .i64 S.rest]), .const (.slice A m c), .held (copyS m) (copyR 0 m (intL g m)), .const (.tuple #[.bool false, .int .i64 0]), .const (.tuple #[.bool false, .int .i64 0]), .const (.bool false), .const (.int .i64 0), .const (.bool false), .const (.int .i64 0)] (by kernel_rfl) (by kernel_rfl) rfl ⟨trivial, trivial, copyG _ _ _, trivial, trivial, trivial, trivial, trivial, trivial, trivial⟩ ?_
              refine wpHeld_const (by go_simp) ?_
              refine wpHeld_const (by go_simp) ?_
              refine wpHeld_held rfl (fun w' hb hd => ?_) (fun v hv => ?_)
              · go_simp
                refine (copied_any _ _ _ g _ (by omega) ((HG.out.mono HB10.out).mono hb)).mono ?_
                rintro e w'' ⟨⟨A', c', rfl, h1, h2⟩, hb'⟩
                exact ⟨_, rfl, hb', ⟨_, _, rfl⟩, _, _, rfl, intsAt_row.1 h1, h2.base (Nat.zero_le _)⟩
              obtain ⟨Ad, cd, rfl⟩ := hv
              refine wpHeld_call rfl (fun w' hb hd => ?_) ?_
              · have hrow := intsAt_row.2 (copyR_get (hd.1 (by kernel_rfl))).1
                clear hd
                go_simp
                refine (Good_at HGO.out _ _ _ _ _ hr hf ((HS.out.mono HB10.out).mono hb) _ _ hm hrow).mono ?_
                rintro e w'' ⟨he, hb'⟩
                exact ⟨he, hb'⟩
              refine wpHeld_const (by go_simp) ?_
              refine wpHeld_const (by go_simp) ?_
              refine wpHeld_const (by go_simp) ?_
              refine wpHeld_const (by go_simp) ?_
              refine wpHeld_const (by go_simp) ?_
              refine wpHeld_end (fun w11 hb11 hd => ?_)
              clear hd
              simp only [List.drop_succ_cons, List.drop_zero]
              simp only [Act.put, List.setIfInBounds_toArray, List.set_cons_succ, List.set_cons_zero]
              have HB11 := Lib.hid (bTrans HB10.out hb11)
              obtain ⟨bc11, bf11⟩ := bcell HB11.out
              have hz11 := HB11.out.size
              simp only [World.size_alloc] at hz11
              have hy11 : w.heap.size < w11.heap.size := hz11
              clear hb11 bc10 bf10 hz10 hy10
              go_wp2_with (go_at_call 43; refine (isKnown_any _ _).mono ?_; rintro e w12 ⟨rfl, rfl⟩)
              refine (works_any _ (HN.out.mono HB11.out)).mono ?_
              rintro e w13 ⟨rfl, hb13⟩
              go_wp2_with fail
              go_ret
              exact ⟨rfl, bTrans (bTrans HB.out HB11.out) hb13⟩
            case inr.inl.inr =>
              have HFO := Lib.hid hfo
              have HGO := Lib.hid hgo
              clear hfo hgo
              rw [hra]
              refine wp_region_held 9 [.const (.agg #[.slice Ar S.nr cr, .slice Af S.nf cf, .int .i64 S.deep, .int .i64 S.haul, .int .i64 S.rest]), .const (.slice A m c), .held (copyS m) (copyR 0 m (intL g m)), .const (.tuple #[.int .i64 f, .int .i64 3]), .const (.tuple #[.int .i64 f, .int .i64 3]), .const (.int .i64 f), .const (.int .i64 3), .const (.int .i64 f), .const (.int .i64 3)] (by kernel_rfl) (by kernel_rfl) rfl ⟨trivial, trivial, copyG _ _ _, trivial, trivial, trivial, trivial, trivial, trivial, trivial⟩ ?_
              refine wpHeld_const (by go_simp) ?_
              refine wpHeld_const (by go_simp) ?_
              refine wpHeld_held rfl (fun w' hb hd => ?_) (fun v hv => ?_)
              · go_simp
                refine (copied_any _ _ _ g _ (by omega) ((HG.out.mono HB9.out).mono hb)).mono ?_
                rintro e w'' ⟨⟨A', c', rfl, h1, h2⟩, hb'⟩
                exact ⟨_, rfl, hb', ⟨_, _, rfl⟩, _, _, rfl, intsAt_row.1 h1, h2.base (Nat.zero_le _)⟩
              obtain ⟨Ad, cd, rfl⟩ := hv
              refine wpHeld_call rfl (fun w' hb hd => ?_) ?_
              · have hrow := intsAt_row.2 (copyR_get (hd.1 (by kernel_rfl))).1
                clear hd
                go_simp
                refine (Falls_at HFO.out _ _ _ _ _ hr hf ((HS.out.mono HB9.out).mono hb) _ _ hm hrow).mono ?_
                rintro e w'' ⟨he, hb'⟩
                exact ⟨he, hb'⟩
              refine wpHeld_const (by go_simp) ?_
              refine wpHeld_const (by go_simp) ?_
              refine wpHeld_const (by go_simp) ?_
              refine wpHeld_const (by go_simp) ?_
              refine wpHeld_const (by go_simp) ?_
              refine wpHeld_end (fun w10 hb10 hd => ?_)
              clear hd
              simp only [List.drop_succ_cons, List.drop_zero]
              simp only [Act.put, List.setIfInBounds_toArray, List.set_cons_succ, List.set_cons_zero]
              have HB10 := Lib.hid (bTrans HB9.out hb10)
              obtain ⟨bc10, bf10⟩ := bcell HB10.out
              have hz10 := HB10.out.size
              simp only [World.size_alloc] at hz10
              have hy10 : w.heap.size < w10.heap.size := hz10
              clear hb10 bc9 bf9 hz9 hy9
              go_wp2_with fail
              refine wp_region_held 9 [.const (.agg #[.slice Ar S.nr cr, .slice Af S.nf cf, .int .i64 S.deep, .int .i64 S.haul, .int .i64 S.rest]), .const (.slice A m c), .held (copyS m) (copyR 0 m (intL g m)), .const (.tuple #[.bool false, .int .i64 0]), .const (.tuple #[.bool false, .int .i64 0]), .const (.bool false), .const (.int .i64 0), .const (.bool false), .const (.int .i64 0)] (by kernel_rfl) (by kernel_rfl) rfl ⟨trivial, trivial, copyG _ _ _, trivial, trivial, trivial, trivial, trivial, trivial, trivial⟩ ?_
              refine wpHeld_const (by go_simp) ?_
              refine wpHeld_const (by go_simp) ?_
              refine wpHeld_held rfl (fun w' hb hd => ?_) (fun v hv => ?_)
              · go_simp
                refine (copied_any _ _ _ g _ (by omega) ((HG.out.mono HB10.out).mono hb)).mono ?_
                rintro e w'' ⟨⟨A', c', rfl, h1, h2⟩, hb'⟩
                exact ⟨_, rfl, hb', ⟨_, _, rfl⟩, _, _, rfl, intsAt_row.1 h1, h2.base (Nat.zero_le _)⟩
              obtain ⟨Ad, cd, rfl⟩ := hv
              refine wpHeld_call rfl (fun w' hb hd => ?_) ?_
              · have hrow := intsAt_row.2 (copyR_get (hd.1 (by kernel_rfl))).1
                clear hd
                go_simp
                refine (Good_at HGO.out _ _ _ _ _ hr hf ((HS.out.mono HB10.out).mono hb) _ _ hm hrow).mono ?_
                rintro e w'' ⟨he, hb'⟩
                exact ⟨he, hb'⟩
              refine wpHeld_const (by go_simp) ?_
              refine wpHeld_const (by go_simp) ?_
              refine wpHeld_const (by go_simp) ?_
              refine wpHeld_const (by go_simp) ?_
              refine wpHeld_const (by go_simp) ?_
              refine wpHeld_end (fun w11 hb11 hd => ?_)
              clear hd
              simp only [List.drop_succ_cons, List.drop_zero]
              simp only [Act.put, List.setIfInBounds_toArray, List.set_cons_succ, List.set_cons_zero]
              have HB11 := Lib.hid (bTrans HB10.out hb11)
              obtain ⟨bc11, bf11⟩ := bcell HB11.out
              have hz11 := HB11.out.size
              simp only [World.size_alloc] at hz11
              have hy11 : w.heap.size < w11.heap.size := hz11
              clear hb11 bc10 bf10 hz10 hy10
              go_wp2_with (go_at_call 43; refine (isKnown_any _ _).mono ?_; rintro e w12 ⟨rfl, rfl⟩)
              refine (works_any _ (HN.out.mono HB11.out)).mono ?_
              rintro e w13 ⟨rfl, hb13⟩
              go_wp2_with fail
              go_ret
              exact ⟨rfl, bTrans (bTrans HB.out HB11.out) hb13⟩
            case inr.inr.inl =>
              have HFO := Lib.hid hfo
              have HGO := Lib.hid hgo
              clear hfo hgo
              rw [hra]
              refine wp_region_held 9 [.const (.agg #[.slice Ar S.nr cr, .slice Af S.nf cf, .int .i64 S.deep, .int .i64 S.haul, .int .i64 S.rest]), .const (.slice A m c), .held (copyS m) (copyR 0 m (intL g m)), .const (.tuple #[.int .i64 f, .int .i64 0]), .const (.tuple #[.int .i64 f, .int .i64 0]), .const (.int .i64 f), .const (.int .i64 0), .const (.int .i64 f), .const (.int .i64 0)] (by kernel_rfl) (by kernel_rfl) rfl ⟨trivial, trivial, copyG _ _ _, trivial, trivial, trivial, trivial, trivial, trivial, trivial⟩ ?_
              refine wpHeld_const (by go_simp) ?_
              refine wpHeld_const (by go_simp) ?_
              refine wpHeld_held rfl (fun w' hb hd => ?_) (fun v hv => ?_)
              · go_simp
                refine (copied_any _ _ _ g _ (by omega) ((HG.out.mono HB9.out).mono hb)).mono ?_
                rintro e w'' ⟨⟨A', c', rfl, h1, h2⟩, hb'⟩
                exact ⟨_, rfl, hb', ⟨_, _, rfl⟩, _, _, rfl, intsAt_row.1 h1, h2.base (Nat.zero_le _)⟩
              obtain ⟨Ad, cd, rfl⟩ := hv
              refine wpHeld_call rfl (fun w' hb hd => ?_) ?_
              · have hrow := intsAt_row.2 (copyR_get (hd.1 (by kernel_rfl))).1
                clear hd
                go_simp
                refine (Falls_at HFO.out _ _ _ _ _ hr hf ((HS.out.mono HB9.out).mono hb) _ _ hm hrow).mono ?_
                rintro e w'' ⟨he, hb'⟩
                exact ⟨he, hb'⟩
              refine wpHeld_const (by go_simp) ?_
              refine wpHeld_const (by go_simp) ?_
              refine wpHeld_const (by go_simp) ?_
              refine wpHeld_const (by go_simp) ?_
              refine wpHeld_const (by go_simp) ?_
              refine wpHeld_end (fun w10 hb10 hd => ?_)
              clear hd
              simp only [List.drop_succ_cons, List.drop_zero]
              simp only [Act.put, List.setIfInBounds_toArray, List.set_cons_succ, List.set_cons_zero]
              have HB10 := Lib.hid (bTrans HB9.out hb10)
              obtain ⟨bc10, bf10⟩ := bcell HB10.out
              have hz10 := HB10.out.size
              simp only [World.size_alloc] at hz10
              have hy10 : w.heap.size < w10.heap.size := hz10
              clear hb10 bc9 bf9 hz9 hy9
              go_wp2_with fail
              refine wp_region_held 9 [.const (.agg #[.slice Ar S.nr cr, .slice Af S.nf cf, .int .i64 S.deep, .int .i64 S.haul, .int .i64 S.rest]), .const (.slice A m c), .held (copyS m) (copyR 0 m (intL g m)), .const (.tuple #[.bool false, .int .i64 0]), .const (.tuple #[.bool false, .int .i64 0]), .const (.bool false), .const (.int .i64 0), .const (.bool false), .const (.int .i64 0)] (by kernel_rfl) (by kernel_rfl) rfl ⟨trivial, trivial, copyG _ _ _, trivial, trivial, trivial, trivial, trivial, trivial, trivial⟩ ?_
              refine wpHeld_const (by go_simp) ?_
              refine wpHeld_const (by go_simp) ?_
              refine wpHeld_held rfl (fun w' hb hd => ?_) (fun v hv => ?_)
              · go_simp
                refine (copied_any _ _ _ g _ (by omega) ((HG.out.mono HB10.out).mono hb)).mono ?_
                rintro e w'' ⟨⟨A', c', rfl, h1, h2⟩, hb'⟩
                exact ⟨_, rfl, hb', ⟨_, _, rfl⟩, _, _, rfl, intsAt_row.1 h1, h2.base (Nat.zero_le _)⟩
              obtain ⟨Ad, cd, rfl⟩ := hv
              refine wpHeld_call rfl (fun w' hb hd => ?_) ?_
              · have hrow := intsAt_row.2 (copyR_get (hd.1 (by kernel_rfl))).1
                clear hd
                go_simp
                refine (Good_at HGO.out _ _ _ _ _ hr hf ((HS.out.mono HB10.out).mono hb) _ _ hm hrow).mono ?_
                rintro e w'' ⟨he, hb'⟩
                exact ⟨he, hb'⟩
              refine wpHeld_const (by go_simp) ?_
              refine wpHeld_const (by go_simp) ?_
              refine wpHeld_const (by go_simp) ?_
              refine wpHeld_const (by go_simp) ?_
              refine wpHeld_const (by go_simp) ?_
              refine wpHeld_end (fun w11 hb11 hd => ?_)
              clear hd
              simp only [List.drop_succ_cons, List.drop_zero]
              simp only [Act.put, List.setIfInBounds_toArray, List.set_cons_succ, List.set_cons_zero]
              have HB11 := Lib.hid (bTrans HB10.out hb11)
              obtain ⟨bc11, bf11⟩ := bcell HB11.out
              have hz11 := HB11.out.size
              simp only [World.size_alloc] at hz11
              have hy11 : w.heap.size < w11.heap.size := hz11
              clear hb11 bc10 bf10 hz10 hy10
              go_wp2_with (go_at_call 43; refine (isKnown_any _ _).mono ?_; rintro e w12 ⟨rfl, rfl⟩)
              refine (works_any _ (HN.out.mono HB11.out)).mono ?_
              rintro e w13 ⟨rfl, hb13⟩
              go_wp2_with fail
              go_ret
              exact ⟨rfl, bTrans (bTrans HB.out HB11.out) hb13⟩
            case inr.inr.inr =>
              have hq := HQ.out
              rw [show decide (stopAt g m = S.nf) = false from decide_eq_false hla] at hq
              clear hla
              have HFO := Lib.hid hfo
              have HGO := Lib.hid hgo
              clear hfo hgo
              rw [hra]
              refine wp_region_held 9 [.const (.agg #[.slice Ar S.nr cr, .slice Af S.nf cf, .int .i64 S.deep, .int .i64 S.haul, .int .i64 S.rest]), .const (.slice A m c), .held (copyS m) (copyR 0 m (intL g m)), .const (.tuple #[.int .i64 0, .int .i64 3]), .const (.tuple #[.int .i64 0, .int .i64 3]), .const (.int .i64 0), .const (.int .i64 3), .const (.int .i64 0), .const (.int .i64 3)] (by kernel_rfl) (by kernel_rfl) rfl ⟨trivial, trivial, copyG _ _ _, trivial, trivial, trivial, trivial, trivial, trivial, trivial⟩ ?_
              refine wpHeld_const (by go_simp) ?_
              refine wpHeld_const (by go_simp) ?_
              refine wpHeld_held rfl (fun w' hb hd => ?_) (fun v hv => ?_)
              · go_simp
                refine (copied_any _ _ _ g _ (by omega) ((HG.out.mono HB9.out).mono hb)).mono ?_
                rintro e w'' ⟨⟨A', c', rfl, h1, h2⟩, hb'⟩
                exact ⟨_, rfl, hb', ⟨_, _, rfl⟩, _, _, rfl, intsAt_row.1 h1, h2.base (Nat.zero_le _)⟩
              obtain ⟨Ad, cd, rfl⟩ := hv
              refine wpHeld_call rfl (fun w' hb hd => ?_) ?_
              · have hrow := intsAt_row.2 (copyR_get (hd.1 (by kernel_rfl))).1
                clear hd
                go_simp
                refine (Falls_at HFO.out _ _ _ _ _ hr hf ((HS.out.mono HB9.out).mono hb) _ _ hm hrow).mono ?_
                rintro e w'' ⟨he, hb'⟩
                exact ⟨he, hb'⟩
              refine wpHeld_const (by go_simp) ?_
              refine wpHeld_const (by go_simp) ?_
              refine wpHeld_const (by go_simp) ?_
              refine wpHeld_const (by go_simp) ?_
              refine wpHeld_const (by go_simp) ?_
              refine wpHeld_end (fun w10 hb10 hd => ?_)
              clear hd
              simp only [List.drop_succ_cons, List.drop_zero]
              simp only [Act.put, List.setIfInBounds_toArray, List.set_cons_succ, List.set_cons_zero]
              have HB10 := Lib.hid (bTrans HB9.out hb10)
              obtain ⟨bc10, bf10⟩ := bcell HB10.out
              have hz10 := HB10.out.size
              simp only [World.size_alloc] at hz10
              have hy10 : w.heap.size < w10.heap.size := hz10
              clear hb10 bc9 bf9 hz9 hy9
              go_wp2_with fail
              refine wp_region_held 9 [.const (.agg #[.slice Ar S.nr cr, .slice Af S.nf cf, .int .i64 S.deep, .int .i64 S.haul, .int .i64 S.rest]), .const (.slice A m c), .held (copyS m) (copyR 0 m (intL g m)), .const (.tuple #[.bool false, .int .i64 0]), .const (.tuple #[.bool false, .int .i64 0]), .const (.bool false), .const (.int .i64 0), .const (.bool false), .const (.int .i64 0)] (by kernel_rfl) (by kernel_rfl) rfl ⟨trivial, trivial, copyG _ _ _, trivial, trivial, trivial, trivial, trivial, trivial, trivial⟩ ?_
              refine wpHeld_const (by go_simp) ?_
              refine wpHeld_const (by go_simp) ?_
              refine wpHeld_held rfl (fun w' hb hd => ?_) (fun v hv => ?_)
              · go_simp
                refine (copied_any _ _ _ g _ (by omega) ((HG.out.mono HB10.out).mono hb)).mono ?_
                rintro e w'' ⟨⟨A', c', rfl, h1, h2⟩, hb'⟩
                exact ⟨_, rfl, hb', ⟨_, _, rfl⟩, _, _, rfl, intsAt_row.1 h1, h2.base (Nat.zero_le _)⟩
              obtain ⟨Ad, cd, rfl⟩ := hv
              refine wpHeld_call rfl (fun w' hb hd => ?_) ?_
              · have hrow := intsAt_row.2 (copyR_get (hd.1 (by kernel_rfl))).1
                clear hd
                go_simp
                refine (Good_at HGO.out _ _ _ _ _ hr hf ((HS.out.mono HB10.out).mono hb) _ _ hm hrow).mono ?_
                rintro e w'' ⟨he, hb'⟩
                exact ⟨he, hb'⟩
              refine wpHeld_const (by go_simp) ?_
              refine wpHeld_const (by go_simp) ?_
              refine wpHeld_const (by go_simp) ?_
              refine wpHeld_const (by go_simp) ?_
              refine wpHeld_const (by go_simp) ?_
              refine wpHeld_end (fun w11 hb11 hd => ?_)
              clear hd
              simp only [List.drop_succ_cons, List.drop_zero]
              simp only [Act.put, List.setIfInBounds_toArray, List.set_cons_succ, List.set_cons_zero]
              have HB11 := Lib.hid (bTrans HB10.out hb11)
              obtain ⟨bc11, bf11⟩ := bcell HB11.out
              have hz11 := HB11.out.size
              simp only [World.size_alloc] at hz11
              have hy11 : w.heap.size < w11.heap.size := hz11
              clear hb11 bc10 bf10 hz10 hy10
              go_wp2_with (go_at_call 43; refine (isKnown_any _ _).mono ?_; rintro e w12 ⟨rfl, rfl⟩)
              refine (works_any _ (HN.out.mono HB11.out)).mono ?_
              rintro e w13 ⟨rfl, hb13⟩
              go_wp2_with fail
              go_ret
              exact ⟨rfl, bTrans (bTrans HB.out HB11.out) hb13⟩
  · exact ShaftsEach_no Ar Af cr cf S A m c g w hr hf HS HN HG HB hm hgo
end Go.Proofs.YtbbnpneabmldnaaDoor
