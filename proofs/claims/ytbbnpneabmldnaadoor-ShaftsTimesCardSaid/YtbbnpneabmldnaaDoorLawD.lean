/- Walk: works: the examples of the chapter hold. Condition: the way that there is not lies in its variable. -/
import Derived.Test.YtbbnpneabmldnaaDoorLawC
import Derived.Test.YtbbnpneabmldnaaDoorWayLaw
namespace Go.Proofs.YtbbnpneabmldnaaDoor
open Go.RowKit Go.Sort
theorem exS_ok : exS.Ok := by
  refine ⟨by decide, by decide, fun i hi => ?_, fun i hi => ?_, fun i hi => ?_, by decide, by decide, by decide, by decide, by decide, by decide⟩
  · have hi : i < 3 := hi
    rcases (by omega : i = 0 ∨ i = 1 ∨ i = 2) with rfl | rfl | rfl <;> exact ⟨by decide, by decide, by decide, by decide, by decide, by decide, by decide, by decide⟩
  · have hi : i < 5 := hi
    rcases (by omega : i = 0 ∨ i = 1 ∨ i = 2 ∨ i = 3 ∨ i = 4) with rfl | rfl | rfl | rfl | rfl <;> decide
  · have hi : i < 5 := hi
    rcases (by omega : i = 0 ∨ i = 1 ∨ i = 2 ∨ i = 3 ∨ i = 4) with rfl | rfl | rfl | rfl | rfl <;> decide
theorem exT_ok : exT.Ok := by
  refine ⟨by decide, by decide, fun i hi => ?_, fun i hi => ?_, fun i hi => ?_, by decide, by decide, by decide, by decide, by decide, by decide⟩
  · have hi : i < 2 := hi
    rcases (by omega : i = 0 ∨ i = 1) with rfl | rfl <;> exact ⟨by decide, by decide, by decide, by decide, by decide, by decide, by decide, by decide⟩
  · have hi : i < 4 := hi
    rcases (by omega : i = 0 ∨ i = 1 ∨ i = 2 ∨ i = 3) with rfl | rfl | rfl | rfl <;> decide
  · have hi : i < 4 := hi
    rcases (by omega : i = 0 ∨ i = 1 ∨ i = 2 ∨ i = 3) with rfl | rfl | rfl | rfl <;> decide
theorem ex_price : exS.priceOut 2 = (11, 4, 0) := by
  rw [priceOut_ok exS_ok (by decide)]; decide
def one3 (_ : Nat) : Int := 3
theorem ex_falls : exS.fallsOut 1 one3 = (2, 0) := by
  rw [fallsOut_some exS_ok (by decide) (by decide +kernel)]
  decide +kernel
theorem ex_cheap : exT.cheapOut = (17, 0) := by
  rw [cheapOut_some exT_ok (by decide +kernel)]
  decide +kernel
theorem ex_within : exT.withinOut 9 = (26, 0) := by
  rw [withinOut_some exT_ok (by decide +kernel) (by decide +kernel)]
  decide +kernel
theorem exT_more : (exT.more 1).Ok := exT_ok.more (by decide) (by decide) (by decide)
theorem ex_cheap2 : (exT.more 1).cheapOut = (10, 0) := by
  rw [cheapOut_some exT_more (by decide +kernel)]
  decide +kernel
theorem ex_next : exT.nextOut 1 = (-7, 0) := by
  rw [nextOut_rest exT_ok (by decide) (by decide), ex_cheap, ex_cheap2]
  decide
theorem ex_next0 : (exS.waysOf ltR 5 0).next = 2 := by decide +kernel
theorem ex_next2 : (exS.waysOf ltR 5 2).next = 3 := by decide +kernel
theorem ex_next3 : (exS.waysOf ltR 5 3).next = 5 := by decide +kernel
theorem ex_next5 : (exS.waysOf ltR 5 5).next = 0 := by decide +kernel
theorem ex_some : exS.waysOf ltR 5 0 ≠ noWay := by decide +kernel
theorem ex_chain {m : Nat} {g : Nat → Int} (h : ChainTo (exS.waysOf ltR 5) m g) (hend : ¬ 0 < (exS.waysOf ltR 5 (stopAt g m)).next) : m = 3 ∧ g 0 = 2 ∧ g 1 = 3 ∧ g 2 = 5 := by
  have h0 : 0 < m → g 0 = 2 := fun hm => by have := h.step 0 hm; simp only [stopAt] at this; rw [ex_next0] at this; exact this
  have h1 : 1 < m → g 1 = 3 := fun hm => by have := h.step 1 hm; simp only [stopAt] at this; rw [h0 (by omega)] at this; rw [show (2 : Int).toNat = 2 from rfl, ex_next2] at this; exact this
  have h2 : 2 < m → g 2 = 5 := fun hm => by have := h.step 2 hm; simp only [stopAt] at this; rw [h1 (by omega)] at this; rw [show (3 : Int).toNat = 3 from rfl, ex_next3] at this; exact this
  have h3 : ¬ 3 < m := fun hm => by have := h.step 3 hm; have hp := h.pos 3 hm; simp only [stopAt] at this; rw [h2 (by omega)] at this; rw [show (5 : Int).toNat = 5 from rfl, ex_next5] at this; omega
  rcases (by omega : m = 0 ∨ m = 1 ∨ m = 2 ∨ m = 3) with rfl | rfl | rfl | rfl
  · simp only [stopAt] at hend; rw [ex_next0] at hend; omega
  · simp only [stopAt] at hend; rw [h0 (by omega), show (2 : Int).toNat = 2 from rfl, ex_next2] at hend; omega
  · simp only [stopAt] at hend; rw [h1 (by omega), show (3 : Int).toNat = 3 from rfl, ex_next3] at hend; omega
  · exact ⟨rfl, h0 (by omega), h1 (by omega), h2 (by omega)⟩
set_option maxHeartbeats 8000000 in
set_option maxRecDepth 100000 in
theorem works_any (w : World) (hN : NoneAt w) : Calls Tryd.prog 16 #[] w fun e w' => e = .returned (.bool true) ∧ Below w.heap.size w w' := by
  have HN0 := Lib.hid hN
  clear hN
  go_enter Tryd.func16, Tryd.ntmps16
  go_wp2_with fail
  refine (Example_any _).mono ?_
  rintro e w1 ⟨⟨Ar, Af, Br, Bf, rfl, hS, hT⟩, hb1⟩
  have hbw := bAlloc (bAlloc (Below.refl w1.heap.size w1) (.cells #[.slice (some Ar) exS.nr 3, .slice (some Af) exS.nf 5, .int .i64 exS.deep, .int .i64 exS.haul, .int .i64 exS.rest] 25)) (.cells #[.slice (some Br) exT.nr 2, .slice (some Bf) exT.nf 4, .int .i64 exT.deep, .int .i64 exT.haul, .int .i64 exT.rest] 25)
  have HS1 := Lib.hid (hS.mono hbw)
  have HT1 := Lib.hid (hT.mono hbw)
  have HN1 := Lib.hid ((HN0.out.mono hb1).mono hbw)
  have HW := Lib.hid (bTrans hb1 hbw)
  have HB1 := Lib.hid (Below.refl ((w1.alloc (.cells #[.slice (some Ar) exS.nr 3, .slice (some Af) exS.nf 5, .int .i64 exS.deep, .int .i64 exS.haul, .int .i64 exS.rest] 25)).alloc (.cells #[.slice (some Br) exT.nr 2, .slice (some Bf) exT.nf 4, .int .i64 exT.deep, .int .i64 exT.haul, .int .i64 exT.rest] 25)).heap.size ((w1.alloc (.cells #[.slice (some Ar) exS.nr 3, .slice (some Af) exS.nf 5, .int .i64 exS.deep, .int .i64 exS.haul, .int .i64 exS.rest] 25)).alloc (.cells #[.slice (some Br) exT.nr 2, .slice (some Bf) exT.nf 4, .int .i64 exT.deep, .int .i64 exT.haul, .int .i64 exT.rest] 25)))
  have bc1 : True := trivial
  have bf1 : True := trivial
  have hz1 : True := trivial
  clear hS hT hb1 hbw
  go_wp2_with fail
  refine (Price_any _ _ _ _ exS 2 _ (by decide) (by decide) HS1.out).mono ?_
  rintro e w2 ⟨he2, hb2⟩
  rw [ex_price] at he2; subst he2
  have HB2 := Lib.hid (bTrans HB1.out hb2)
  have HS2 := Lib.hid (HS1.out.mono hb2)
  have HT2 := Lib.hid (HT1.out.mono hb2)
  have HN2 := Lib.hid (HN1.out.mono hb2)
  obtain ⟨bc2, bf2⟩ := bcell HB2.out
  have hz2 := HB2.out.size
  simp only [World.size_alloc] at hz2
  clear hb2 bc1 bf1 hz1 HB1 HS1 HT1 HN1
  go_wp2_with fail
  refine (Falls_any _ _ _ _ exS _ (by decide) (by decide) (HS2.out.mono (bAlloc (Below.refl _ _) _)) _ 1 _ one3 (by decide) (.inr ⟨_, _, rfl, by simp, fun i hi => (by obtain rfl : i = 0 := (by omega); simp [one3])⟩)).mono ?_
  rintro e w3 ⟨he3, hb3'⟩
  have hb3 := bTrans (bAlloc (Below.refl _ _) _) hb3'
  rw [ex_falls] at he3; subst he3
  have HB3 := Lib.hid (bTrans HB2.out hb3)
  have HS3 := Lib.hid (HS2.out.mono hb3)
  have HT3 := Lib.hid (HT2.out.mono hb3)
  have HN3 := Lib.hid (HN2.out.mono hb3)
  obtain ⟨bc3, bf3⟩ := bcell HB3.out
  have hz3 := HB3.out.size
  simp only [World.size_alloc] at hz3
  clear hb3 hb3' bc2 bf2 hz2 HB2 HS2 HT2 HN2
  go_wp2_with fail
  refine (Plan_any _ _ _ _ exS _ (by decide) (by decide) HS3.out HN3.out).mono ?_
  rintro e w4 ⟨hb4, h4⟩
  rcases h4 with ⟨hno, _⟩ | ⟨_, hno, _⟩ | ⟨_, _, A, m, c, g, rfl, _, hch, hend, hI, _⟩
  · exact absurd exS_ok hno
  · exact absurd hno ex_some
  obtain ⟨rfl, hg0, hg1, hg2⟩ := ex_chain hch hend
  have HI4 := Lib.hid hI
  have HG := Lib.hid (And.intro hg0 (And.intro hg1 hg2))
  have HB4 := Lib.hid (bTrans HB3.out hb4)
  have HT4 := Lib.hid (HT3.out.mono hb4)
  have HN4 := Lib.hid (HN3.out.mono hb4)
  have HS4 := Lib.hid (HS3.out.mono hb4)
  obtain ⟨bc4, bf4⟩ := bcell HB4.out
  have hz4 := HB4.out.size
  simp only [World.size_alloc] at hz4
  clear hb4 bc3 bf3 hz3 HB3 HT3 HN3 HS3 hI hg0 hg1 hg2 hch hend
  go_wp2_with fail
  refine (Cheap_any _ _ _ _ exT _ (by decide) (by decide) HT4.out HN4.out).mono ?_
  rintro e w5 ⟨he5, hb5'⟩
  have hb5 := hb5'
  have HX5 := Lib.hid hb5
  rw [ex_cheap] at he5; subst he5
  have HB5 := Lib.hid (bTrans HB4.out hb5)
  have HS5 := Lib.hid (HS4.out.mono hb5)
  have HT5 := Lib.hid (HT4.out.mono hb5)
  have HN5 := Lib.hid (HN4.out.mono hb5)
  obtain ⟨bc5, bf5⟩ := bcell HB5.out
  have hz5 := HB5.out.size
  simp only [World.size_alloc] at hz5
  clear hb5 hb5' bc4 bf4 hz4 HB4 HS4 HT4 HN4
  have HI5 := Lib.hid (HI4.out.mono HX5.out)
  clear HI4 HX5
  go_wp2_with fail
  refine (Within_any _ _ _ _ exT 9 _ (by decide) (by decide) (by decide) HT5.out HN5.out).mono ?_
  rintro e w6 ⟨he6, hb6'⟩
  have hb6 := hb6'
  have HX6 := Lib.hid hb6
  rw [ex_within] at he6; subst he6
  have HB6 := Lib.hid (bTrans HB5.out hb6)
  have HS6 := Lib.hid (HS5.out.mono hb6)
  have HT6 := Lib.hid (HT5.out.mono hb6)
  have HN6 := Lib.hid (HN5.out.mono hb6)
  obtain ⟨bc6, bf6⟩ := bcell HB6.out
  have hz6 := HB6.out.size
  simp only [World.size_alloc] at hz6
  clear hb6 hb6' bc5 bf5 hz5 HB5 HS5 HT5 HN5
  have HI6 := Lib.hid (HI5.out.mono HX6.out)
  clear HI5 HX6
  go_wp2_with fail
  refine (Next_any _ _ _ _ exT 1 _ (by decide) (by decide) (by decide) (by decide) (fun h => by cases h) HT6.out HN6.out).mono ?_
  rintro e w7 ⟨he7, hb7'⟩
  have hb7 := hb7'
  have HX7 := Lib.hid hb7
  rw [ex_next] at he7; subst he7
  have HB7 := Lib.hid (bTrans HB6.out hb7)
  have HS7 := Lib.hid (HS6.out.mono hb7)
  have HT7 := Lib.hid (HT6.out.mono hb7)
  have HN7 := Lib.hid (HN6.out.mono hb7)
  obtain ⟨bc7, bf7⟩ := bcell HB7.out
  have hz7 := HB7.out.size
  simp only [World.size_alloc] at hz7
  clear hb7 hb7' bc6 bf6 hz6 HB6 HS6 HT6 HN6
  have HI7 := Lib.hid (HI6.out.mono HX7.out)
  clear HI6 HX7
  go_wp2_with fail
  refine (sameInts_true _ _ 3 _ _ g _ (by decide) (HI7.out.alloc _) (.inr ⟨_, _, rfl, by simp, fun i hi => by
    obtain ⟨g0, g1, g2⟩ := HG.out
    rcases (by omega : i = 0 ∨ i = 1 ∨ i = 2) with rfl | rfl | rfl
    · simp [g0]
    · simp [g1]
    · simp [g2]⟩)).mono ?_
  rintro e w8 ⟨rfl, hb8⟩
  go_wp2_with fail
  go_ret
  exact ⟨rfl, bTrans (bTrans HW.out HB7.out) (bTrans (bAlloc (Below.refl _ _) _) hb8)⟩
end Go.Proofs.YtbbnpneabmldnaaDoor
