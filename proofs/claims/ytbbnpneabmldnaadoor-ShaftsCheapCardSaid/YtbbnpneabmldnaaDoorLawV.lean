/- Walk: ShaftsCheap returns true. Condition: the way that there is not lies in its variable. -/
import Derived.Test.YtbbnpneabmldnaaDoorLawU
namespace Go.Proofs.YtbbnpneabmldnaaDoor
open Go.RowKit Go.Sort
/-- what Cheapest hands back, of any shaft -/
def CheapestOut (S : Sh) (w' : World) (e : Ending) : Prop :=
  ∃ A m c x, e = .returned (.tuple #[.slice A m c, .int .i64 x]) ∧ S.cheapOut.2 = x ∧ m ≤ 12 ∧ ((((x : Int) == 0) = false ∧ ((x : Int) != 0) = true ∧ m = 0) ∨ (x = 0 ∧ ∃ g, S.Ok ∧ S.Plan m g ∧ S.costOf m g = S.cheapOut.1 ∧ IntsAt w' A m g))
theorem Cheapest_step (Ar Af : Option Addr) (cr cf : Nat) (S : Sh) (w : World) (hr : S.nr ≤ 9223372036854775807) (hf : S.nf ≤ 9223372036854775807) (hS : ShAt w Ar Af S) (hN : NoneAt w) :
    Calls Tryd.prog 28 #[.agg #[.slice Ar S.nr cr, .slice Af S.nf cf, .int .i64 S.deep, .int .i64 S.haul, .int .i64 S.rest]] w fun e w' => CheapestOut S w' e ∧ Below w.heap.size w w' := by
  refine (Cheapest_any Ar Af cr cf S w hr hf hS hN).mono ?_
  rintro e w' ⟨hb, h⟩
  refine ⟨?_, hb⟩
  rcases h with ⟨ok, he⟩ | ⟨ok, hn, he⟩ | ⟨ok, hn, A, m, c, g, he, hm, hch, hend, hI, _⟩
  · exact ⟨_, _, _, _, he, by rw [cheapOut_bad ok], by omega, .inl ⟨rfl, rfl, rfl⟩⟩
  · exact ⟨_, _, _, _, he, by rw [cheapOut_none ok hn], by omega, .inl ⟨rfl, rfl, rfl⟩⟩
  · obtain ⟨hR, hc, hP, hcost⟩ := stops_plan (measP S) hch hend hn
    have hnf := ok.nf
    refine ⟨A, m, c, 0, he, by rw [cheapOut_some ok hn], by omega, .inr ⟨rfl, g, ok, hP, ?_, hI⟩⟩
    rw [cheapOut_some ok hn, costOf_pay]
    unfold Sh.pay
    rw [hcost]
set_option maxHeartbeats 8000000 in
set_option maxRecDepth 100000 in
theorem ShaftsCheap_any (Ar Af : Option Addr) (cr cf : Nat) (S : Sh) (h : Int) (w : World) (hr : S.nr ≤ 9223372036854775807) (hf : S.nf ≤ 9223372036854775807) (hS : ShAt w Ar Af S) (hN : NoneAt w) (hh : -9223372036854775808 ≤ h ∧ h ≤ 9223372036854775807) :
    Calls Tryd.prog 4 #[.agg #[.slice Ar S.nr cr, .slice Af S.nf cf, .int .i64 S.deep, .int .i64 S.haul, .int .i64 S.rest], .int .i64 h] w fun e w' => e = .returned (.bool true) ∧ Below w.heap.size w w' := by
  have hb0 := bAlloc (Below.refl w.heap.size w) (.cells #[.slice Ar S.nr cr, .slice Af S.nf cf, .int .i64 S.deep, .int .i64 S.haul, .int .i64 S.rest] 25)
  have HS := Lib.hid (hS.mono hb0)
  have HN := Lib.hid (hN.mono hb0)
  have HB := Lib.hid hb0
  have HH := Lib.hid hh.2
  clear hS hN hb0 hh
  go_enter Tryd.func4, Tryd.ntmps4
  go_wp2_with fail
  refine (Far_any _ _ _ _ S _ hr hf HS.out).mono ?_
  rintro e w1 ⟨⟨bt, rfl, hbb⟩, hb1⟩
  cases bt
  · obtain ⟨h40, h41⟩ := hbb rfl
    clear hbb
    obtain ⟨bc1, bf1⟩ := bcell hb1
    have hz1 := hb1.size
    simp only [World.size_alloc] at hz1
    have hy1 : w.heap.size < w1.heap.size := by omega
    go_wp2_with fail
    refine (Copy_any _ _ _ _ S _ (by omega) (by omega) (HS.out.mono hb1)).mono ?_
    rintro e w2 ⟨⟨A2, F2, c2, d2, rfl, hS2, hFr, hFf⟩, hb2⟩
    have HB2 := Lib.hid (Below.refl (w2.alloc (.cells #[.slice A2 S.nr c2, .slice F2 S.nf d2, .int .i64 S.deep, .int .i64 S.haul, .int .i64 S.rest] 25)).heap.size (w2.alloc (.cells #[.slice A2 S.nr c2, .slice F2 S.nf d2, .int .i64 S.deep, .int .i64 S.haul, .int .i64 S.rest] 25)))
    have HB0 := Lib.hid (bTrans HB.out (bTrans (bTrans hb1 hb2) (bAlloc (Below.refl _ _) (.cells #[.slice A2 S.nr c2, .slice F2 S.nf d2, .int .i64 S.deep, .int .i64 S.haul, .int .i64 S.rest] 25))))
    have HBx := Lib.hid (bTrans (bTrans hb1 hb2) (bAlloc (Below.refl _ _) (.cells #[.slice A2 S.nr c2, .slice F2 S.nf d2, .int .i64 S.deep, .int .i64 S.haul, .int .i64 S.rest] 25)))
    have HS2 := Lib.hid (hS2.mono (bAlloc (Below.refl _ _) (.cells #[.slice A2 S.nr c2, .slice F2 S.nf d2, .int .i64 S.deep, .int .i64 S.haul, .int .i64 S.rest] 25)))
    have HO2 := Lib.hid ((HS.out.mono (bTrans hb1 hb2)).mono (bAlloc (Below.refl _ _) (.cells #[.slice A2 S.nr c2, .slice F2 S.nf d2, .int .i64 S.deep, .int .i64 S.haul, .int .i64 S.rest] 25)))
    have HN2 := Lib.hid ((HN.out.mono (bTrans hb1 hb2)).mono (bAlloc (Below.refl _ _) (.cells #[.slice A2 S.nr c2, .slice F2 S.nf d2, .int .i64 S.deep, .int .i64 S.haul, .int .i64 S.rest] 25)))
    obtain ⟨bc2, bf2⟩ := bcell (bTrans hb1 hb2)
    have hz2 := (bTrans hb1 hb2).size
    simp only [World.size_alloc] at hz2
    have hy2 : w.heap.size < w2.heap.size := by omega
    have hx2 : True := trivial
    have HFR := Lib.hid hFr
    have HFF := Lib.hid hFf
    clear hb1 hb2 bc1 bf1 hz1 hy1 hS2 hFr hFf
    go_wp2_with fail
    have HB3 := Lib.hid HB2.out
    have HS3 := Lib.hid HS2.out
    have HO3 := Lib.hid HO2.out
    have HN3 := Lib.hid HN2.out
    have bc3 : True := trivial
    have bf3 : True := trivial
    have hz3 : True := trivial
    have hy3 : True := trivial
    have hx3 : True := trivial
    clear HS2 HO2 HN2
    obtain ⟨p, q, hp⟩ : ∃ p q, S.cheapOut = (p, q) := ⟨_, _, rfl⟩
    obtain ⟨u, v, hu⟩ : ∃ u v, S.withinOut h = (u, v) := ⟨_, _, rfl⟩
    have HP := Lib.hid hp
    have HU := Lib.hid hu
    clear hp hu
    refine (Cheap_any _ _ _ _ S _ hr hf HS3.out HN3.out).mono ?_
    rintro e w4 ⟨he4, hb4⟩
    rw [HP.out] at he4; subst he4
    have HB4 := Lib.hid (bTrans HB3.out hb4)
    have HS4 := Lib.hid (HS3.out.mono hb4)
    have HO4 := Lib.hid (HO3.out.mono hb4)
    have HN4 := Lib.hid (HN3.out.mono hb4)
    obtain ⟨bc4, bf4⟩ := bcell HB4.out
    have hz4 := HB4.out.size
    simp only [World.size_alloc] at hz4
    have hy4 : w.heap.size < w4.heap.size := by omega
    have hx4 : w2.heap.size < w4.heap.size := by omega
    clear hb4 bc3 bf3 hz3 hy3 hx3 HB3 HS3 HO3 HN3
    go_wp2_with fail
    refine (refCheap_any _ _ _ _ S _ hr hf HO4.out).mono ?_
    rintro e w5 ⟨he5, hb5⟩
    rw [HP.out] at he5; subst he5
    have HB5 := Lib.hid (bTrans HB4.out hb5)
    have HS5 := Lib.hid (HS4.out.mono hb5)
    have HO5 := Lib.hid (HO4.out.mono hb5)
    have HN5 := Lib.hid (HN4.out.mono hb5)
    obtain ⟨bc5, bf5⟩ := bcell HB5.out
    have hz5 := HB5.out.size
    simp only [World.size_alloc] at hz5
    have hy5 : w.heap.size < w5.heap.size := by omega
    have hx5 : w2.heap.size < w5.heap.size := by omega
    clear hb5 bc4 bf4 hz4 hy4 hx4 HB4 HS4 HO4 HN4
    go_wp2_with fail
    refine (Within_any _ _ _ _ S h _ hr hf HH.out HS5.out HN5.out).mono ?_
    rintro e w6 ⟨he6, hb6⟩
    rw [HU.out] at he6; subst he6
    have HB6 := Lib.hid (bTrans HB5.out hb6)
    have HS6 := Lib.hid (HS5.out.mono hb6)
    have HO6 := Lib.hid (HO5.out.mono hb6)
    have HN6 := Lib.hid (HN5.out.mono hb6)
    obtain ⟨bc6, bf6⟩ := bcell HB6.out
    have hz6 := HB6.out.size
    simp only [World.size_alloc] at hz6
    have hy6 : w.heap.size < w6.heap.size := by omega
    have hx6 : w2.heap.size < w6.heap.size := by omega
    clear hb6 bc5 bf5 hz5 hy5 hx5 HB5 HS5 HO5 HN5
    go_wp2_with fail
    refine (refWithin_any _ _ _ _ S h _ hr hf HO6.out).mono ?_
    rintro e w7 ⟨he7, hb7⟩
    rw [HU.out] at he7; subst he7
    have HB7 := Lib.hid (bTrans HB6.out hb7)
    have HS7 := Lib.hid (HS6.out.mono hb7)
    have HO7 := Lib.hid (HO6.out.mono hb7)
    have HN7 := Lib.hid (HN6.out.mono hb7)
    obtain ⟨bc7, bf7⟩ := bcell HB7.out
    have hz7 := HB7.out.size
    simp only [World.size_alloc] at hz7
    have hy7 : w.heap.size < w7.heap.size := by omega
    have hx7 : w2.heap.size < w7.heap.size := by omega
    clear hb7 bc6 bf6 hz6 hy6 hx6 HB6 HS6 HO6 HN6
    go_wp2_with fail
    refine (Cheapest_step _ _ _ _ S _ hr hf HS7.out HN7.out).mono ?_
    rintro e w8 ⟨⟨A, m, c, x, rfl, hx, hm, hcase⟩, hb8⟩
    rw [HP.out] at hx
    obtain rfl : q = x := hx
    have HB8 := Lib.hid (bTrans HB7.out hb8)
    have HS8 := Lib.hid (HS7.out.mono hb8)
    have HO8 := Lib.hid (HO7.out.mono hb8)
    have HN8 := Lib.hid (HN7.out.mono hb8)
    obtain ⟨bc8, bf8⟩ := bcell HB8.out
    have hz8 := HB8.out.size
    simp only [World.size_alloc] at hz8
    have hy8 : w.heap.size < w8.heap.size := by omega
    have hx8 : w2.heap.size < w8.heap.size := by omega
    have hi40 : ((40 : Int) < (m : Int)) = False := by simp; omega
    have HD8 := Lib.hid (Below.refl w8.heap.size w8)
    clear hb8 bc7 bf7 hz7 hy7 hx7 HB7 HS7 HO7 HN7
    rcases hcase with ⟨q1, q2, rfl⟩ | ⟨rfl, g, ok, hP, hC, hI⟩
    · go_wp2_with fail
      refine (Same_true _ _ _ _ _ _ _ _ S _ (by omega) (by omega) HS8.out HO8.out).mono ?_
      rintro e w9 ⟨he9, hb9⟩
      subst he9
      have HB9 := Lib.hid (bTrans HB8.out hb9)
      have HS9 := Lib.hid (HS8.out.mono hb9)
      have HO9 := Lib.hid (HO8.out.mono hb9)
      have HN9 := Lib.hid (HN8.out.mono hb9)
      obtain ⟨bc9, bf9⟩ := bcell HB9.out
      have hz9 := HB9.out.size
      simp only [World.size_alloc] at hz9
      have hy9 : w.heap.size < w9.heap.size := by omega
      have hx9 : w2.heap.size < w9.heap.size := by omega
      clear hb9 bc8 bf8 hz8 hy8 hx8 HB8 HS8 HO8 HN8
      go_wp2_with fail
      refine (works_any _ HN9.out).mono ?_
      rintro e w10 ⟨rfl, hb10⟩
      go_wp2_with fail
      go_ret
      exact ⟨rfl, bTrans (bTrans HB0.out HB9.out) hb10⟩
    · rw [HP.out] at hC
      have HC := Lib.hid hC
      have HPL := Lib.hid hP
      have HI := Lib.hid hI
      clear hC hP hI
      go_wp2_with fail
      refine (Same_true _ _ _ _ _ _ _ _ S _ (by omega) (by omega) HS8.out HO8.out).mono ?_
      rintro e w9 ⟨rfl, hb9⟩
      have HI9 := Lib.hid (HI.out.mono hb9)
      have HB9 := Lib.hid (bTrans HB8.out hb9)
      have HO9 := Lib.hid (HO8.out.mono hb9)
      have HN9 := Lib.hid (HN8.out.mono hb9)
      obtain ⟨bc9, bf9⟩ := bcell HB9.out
      have hz9 := HB9.out.size
      simp only [World.size_alloc] at hz9
      have hy9 : w.heap.size < w9.heap.size := by omega
      have hx9 : w2.heap.size < w9.heap.size := by omega
      clear hb9 bc8 bf8 hz8 hy8 hx8 HB8 HS8 HO8 HN8
      go_wp2_with fail
      refine (isPlan_at _ _ _ _ S _ ok HO9.out (Sh.planB_t HPL.out) _ _ (by omega) HI9.out).mono ?_
      rintro e w10 ⟨rfl, hb10⟩
      have HI10 := Lib.hid (HI9.out.mono hb10)
      have HB10 := Lib.hid (bTrans HB9.out hb10)
      have HO10 := Lib.hid (HO9.out.mono hb10)
      have HN10 := Lib.hid (HN9.out.mono hb10)
      obtain ⟨bc10, bf10⟩ := bcell HB10.out
      have hz10 := HB10.out.size
      simp only [World.size_alloc] at hz10
      have hy10 : w.heap.size < w10.heap.size := by omega
      have hx10 : w2.heap.size < w10.heap.size := by omega
      clear hb10 bc9 bf9 hz9 hy9 hx9 HB9 HO9 HN9 HI9
      go_wp2_with fail
      refine (costOf_at _ _ _ _ S _ ok HO10.out HC.out _ _ HI10.out HPL.out.rising).mono ?_
      rintro e w11 ⟨rfl, hb11⟩
      go_wp2_with fail
      refine (works_any _ (HN10.out.mono hb11)).mono ?_
      rintro e w12 ⟨rfl, hb12⟩
      go_wp2_with fail
      go_ret
      exact ⟨rfl, bTrans (bTrans HB0.out HB10.out) (bTrans hb11 hb12)⟩
  · clear hbb
    go_wp2_with fail
    refine (works_any _ (HN.out.mono hb1)).mono ?_
    rintro e w2 ⟨rfl, hb2⟩
    go_wp2_with fail
    go_ret
    exact ⟨rfl, bTrans HB.out (bTrans hb1 hb2)⟩
end Go.Proofs.YtbbnpneabmldnaaDoor
