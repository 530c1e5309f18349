/- Walk: ShaftsParts returns true. Condition: the way that there is not lies in its variable. -/
import Derived.Test.YtbbnpneabmldnaaDoorLawH
import Derived.Test.YtbbnpneabmldnaaDoorLawK
import Derived.Test.YtbbnpneabmldnaaDoorPartsLaw
namespace Go.Proofs.YtbbnpneabmldnaaDoor
open Go.RowKit Go.Sort
theorem ints_low {w : World} {p : Addr} {n d : Nat} {g : Nat → Int} (h : IntsAt w (some p) n g) (hd : d ≤ n) : IntsAt w (some (p.add d)) (n - d) (fun i => g (d + i)) := by
  rcases h with h | ⟨b, o, e, hlt, hc⟩
  · exact .inl (by omega)
  · injection e with e
    subst e
    rcases Nat.eq_zero_or_pos (n - d) with h0 | h0
    · exact .inl h0
    · refine .inr ⟨b, o + d, by unfold Addr.add; split <;> simp_all, hlt, fun i hi => ?_⟩
      rw [Nat.add_assoc]
      exact hc (d + i) (by omega)
set_option maxHeartbeats 8000000 in
set_option maxRecDepth 100000 in
theorem ShaftsParts_any (Ar Af : Option Addr) (cr cf : Nat) (S : Sh) (x : Int) (w : World) (hr : S.nr ≤ 9223372036854775807) (hf : S.nf ≤ 9223372036854775807) (hS : ShAt w Ar Af S) (hN : NoneAt w) (_ : -9223372036854775808 ≤ x ∧ x ≤ 9223372036854775807) :
    Calls Tryd.prog 6 #[.agg #[.slice Ar S.nr cr, .slice Af S.nf cf, .int .i64 S.deep, .int .i64 S.haul, .int .i64 S.rest], .int .i64 x] w fun e w' => e = .returned (.bool true) ∧ Below w.heap.size w w' := by
  have hb0 := bAlloc (Below.refl w.heap.size w) (.cells #[.slice Ar S.nr cr, .slice Af S.nf cf, .int .i64 S.deep, .int .i64 S.haul, .int .i64 S.rest] 25)
  have HS := Lib.hid (hS.mono hb0)
  have HN := Lib.hid (hN.mono hb0)
  have HB := Lib.hid hb0
  clear hS hN hb0
  by_cases hgo : S.Ok ∧ inR x 0 (S.nf : Int) = true
  · obtain ⟨ok, hin⟩ := hgo
    have hnr := ok.nr
    have hnf := ok.nf
    obtain ⟨d, rfl⟩ : ∃ d : Nat, x = d := ⟨x.toNat, by have := inR_iff.1 hin; omega⟩
    have hd : d ≤ S.nf := by have := inR_iff.1 hin; omega
    go_enter Tryd.func6, Tryd.ntmps6
    go_wp2_with fail
    refine (ready_any _ _ _ _ S _ hr hf HS.out).mono ?_
    rintro e w1 ⟨b, rfl, hbb, hb1⟩
    obtain rfl : b = true := hbb.2 ok
    have HB1 := Lib.hid hb1
    obtain ⟨bc1, bf1⟩ := bcell hb1
    have hz1 := hb1.size
    simp only [World.size_alloc] at hz1
    have hy1 : w.heap.size < w1.heap.size := by omega
    clear hbb
    go_wp2_with (go_at_call 32; refine (Within01_any _ _ _ _).mono ?_; rintro e w1' ⟨rfl, rfl⟩)
    refine (Copy_any _ _ _ _ S _ (by omega) (by omega) (HS.out.mono hb1)).mono ?_
    rintro e w2 ⟨⟨A2, F2, c2, d2, rfl, hS2, hFr, hFf⟩, hb2⟩
    obtain ⟨u1, u2, ⟨p, rfl, hp⟩, u4⟩ := id hFf
    have HS2 := Lib.hid hS2
    have HB2 := Lib.hid (bTrans hb1 hb2)
    have HFF := Lib.hid hFf
    have HFR := Lib.hid hFr
    obtain ⟨bc2, bf2⟩ := bcell HB2.out
    have hz2 := HB2.out.size
    simp only [World.size_alloc] at hz2
    have hy2 : w.heap.size < w2.heap.size := by omega
    clear hb1 hb2 hS2 hFr hFf u4 bc1 bf1 hz1 hy1 HB1
    go_wp2_with fail
    case' inl => have HL := Lib.hid (show IntsAt w2 (some p) (S.nf - d) (fun i => S.foot (d + i)) from .inl (by omega))
    case' inr => have HL := Lib.hid (ints_low HS2.out.feet hd)
    all_goals
      refine (lawBest_any _ _ _ _ S _ ok ((HS.out.mono HB2.out).mono (bAlloc (Below.refl _ _) _)) ((HN.out.mono HB2.out).mono (bAlloc (Below.refl _ _) _))).mono ?_
      rintro e w3 ⟨⟨m1, n1, i1, rfl, hm1, hn1, hn1', hbest1⟩, hb3⟩
      have HX3 := Lib.hid (bTrans (bAlloc (Below.refl w2.heap.size w2) _) hb3)
      have HB3 := Lib.hid hb3
      obtain ⟨bc3, bf3⟩ := bcell hb3
      have hz3 := hb3.size
      simp only [World.size_alloc] at hz3
      have hy3 : w.heap.size < w3.heap.size := by omega
      have hx3 : w2.heap.size < w3.heap.size := by omega
      clear hb3
      go_wp2_with fail
      refine (First_any _ _ _ _ S d _ (by omega) (by omega) hd (HS.out.mono (bTrans HB2.out HX3.out))).mono ?_
      rintro e w4 ⟨⟨A4, p4, c4, d4, rfl, hS4, v1, v2⟩, hb4⟩
      have HB4 := Lib.hid (bTrans HB3.out hb4)
      have HX4 := Lib.hid (bTrans HX3.out hb4)
      obtain ⟨bc4, bf4⟩ := bcell HB4.out
      have hz4 := HB4.out.size
      simp only [World.size_alloc] at hz4
      have hy4 : w.heap.size < w4.heap.size := by omega
      have hx4 : w2.heap.size < w4.heap.size := by omega
      have HS4 := Lib.hid hS4
      clear hb4 bc3 bf3 hz3 hy3 hx3 HB3 hS4
      go_wp2_with fail
      refine (lawBest_any _ _ _ _ (S.first d) _ (ok.first hd) HS4.out (HN.out.mono (bTrans HB2.out HX4.out))).mono ?_
      rintro e w5 ⟨⟨m2, n2, i2, rfl, hm2, hn2, hn2', hbest2⟩, hb5⟩
      have HB5 := Lib.hid (bTrans HB4.out hb5)
      have HX5 := Lib.hid (bTrans HX4.out hb5)
      obtain ⟨bc5, bf5⟩ := bcell HB5.out
      have hz5 := HB5.out.size
      simp only [World.size_alloc] at hz5
      have hy5 : w.heap.size < w5.heap.size := by omega
      have hx5 : w2.heap.size < w5.heap.size := by omega
      clear hb5 bc4 bf4 hz4 hy4 hx4 HB4
      go_wp2_with fail
      refine (lawBest_any _ _ _ _ (S.low d) _ (ok.low hd) ⟨HS2.out.rocks.mono HX5.out, HL.out.mono HX5.out⟩ (HN.out.mono (bTrans HB2.out HX5.out))).mono ?_
      rintro e w6 ⟨⟨m3, n3, i3, rfl, hm3, hn3, hn3', hbest3⟩, hb6⟩
      have HX6 := Lib.hid (bTrans HX5.out hb6)
      have HB6 := Lib.hid (bTrans HB5.out hb6)
      obtain ⟨bc6, bf6⟩ := bcell HB6.out
      have hz6 := HB6.out.size
      simp only [World.size_alloc] at hz6
      have hy6 : w.heap.size < w6.heap.size := by omega
      clear hb6 bc5 bf5 hz5 hy5 hx5 HB5 HL HS4
      rcases hbest1 with ⟨rfl, q1, q2, _⟩ | ⟨rfl, q1, rfl, rfl⟩ <;> rcases hbest2 with ⟨rfl, q3, q4, _⟩ | ⟨rfl, q3, rfl, rfl⟩ <;> rcases hbest3 with ⟨rfl, q5, q6, _⟩ | ⟨rfl, q5, rfl, rfl⟩
      all_goals try (exact absurd (parts_has hd q4 q6).1 q1)
      all_goals try have hab := (parts_has hd q4 q6).2 _ q2
      all_goals
        have HQ1 := Lib.hid q1
        have HQ3 := Lib.hid q3
        clear q1 q3 q5
        try clear q2
        try clear q4
        try clear q6
        go_wp2_with fail
        refine (Plan_law _ _ _ _ S _ ok (HS.out.mono (bTrans HB2.out HX6.out)) (HN.out.mono (bTrans HB2.out HX6.out))).mono ?_
        rintro e w7 ⟨hp, hb7⟩
        have HB7 := Lib.hid (bTrans HB6.out hb7)
        have HX7 := Lib.hid (bTrans HX6.out hb7)
        obtain ⟨bc7, bf7⟩ := bcell HB7.out
        have hz7 := HB7.out.size
        simp only [World.size_alloc] at hz7
        have hy7 : w.heap.size < w7.heap.size := by omega
        clear hb7 bc6 bf6 hz6 hy6 HB6 HX6
        rcases hp with ⟨hh, A7, m7, c7, g7, rfl, hm7, hP7, _, hI7⟩ | ⟨hh, rfl⟩
        case' inl =>
          first
          | exact absurd hh HQ1.out
          | (have HP := Lib.hid hP7
             have HI := Lib.hid hI7
             have hi7 : ((40 : Int) < (m7 : Int)) = False := by simp; omega
             clear hP7 hI7 hh
             go_wp2_with fail
             refine (isPlan_any _ _ _ _ S _ ok (HS.out.mono (bTrans HB2.out HX7.out)) _ _ _ g7 (by omega) HI.out).mono ?_
             rintro e w8 ⟨he8, hb8⟩
             rw [Sh.planB_t HP.out] at he8
             subst he8
             have HB8 := Lib.hid (bTrans HB7.out hb8)
             have HX8 := Lib.hid (bTrans HX7.out hb8)
             have HI8 := Lib.hid (HI.out.mono hb8)
             obtain ⟨bc8, bf8⟩ := bcell HB8.out
             have hz8 := HB8.out.size
             simp only [World.size_alloc] at hz8
             have hy8 : w.heap.size < w8.heap.size := by omega
             clear hb8 bc7 bf7 hz7 hy7 HI
             go_wp2_with fail
             refine (in_any _ _ _ g7 _ _ (by omega) HI8.out).mono ?_
             rintro e w9 ⟨rfl, hb9⟩
             have HX9 := Lib.hid (bTrans HX8.out hb9)
             clear hb9
             cases hmem : anyB (fun i => g7 i == (d : Int)) m7
             case' true =>
               obtain ⟨i, hi, hgi⟩ := anyB_true.1 hmem
               have hup := parts_upto hd HP.out ⟨i, hi, by simpa using hgi⟩
               first
               | exact absurd hup HQ3.out
               | clear hmem hup hi hgi
             case' false => clear hmem
             all_goals
               go_wp2_with fail
               refine (works_any _ (HN.out.mono (bTrans HB2.out HX9.out))).mono ?_
               rintro e w10 ⟨rfl, hb10⟩
               go_wp2_with fail
               go_ret
               exact ⟨rfl, bTrans HB.out (bTrans (bTrans HB2.out HX9.out) hb10)⟩)
        case' inr =>
          first
          | exact absurd HQ1.out hh
          | (clear hh
             go_wp2_with fail
             refine (works_any _ (HN.out.mono (bTrans HB2.out HX7.out))).mono ?_
             rintro e w10 ⟨rfl, hb10⟩
             go_wp2_with fail
             go_ret
             exact ⟨rfl, bTrans HB.out (bTrans (bTrans HB2.out HX7.out) hb10)⟩)
  · have hcase : ¬ S.Ok ∨ (S.Ok ∧ inR x 0 (S.nf : Int) = false) := by
      by_cases ok : S.Ok
      · cases e : inR x 0 (S.nf : Int)
        · exact .inr ⟨ok, rfl⟩
        · exact absurd ⟨ok, e⟩ hgo
      · exact .inl ok
    clear hgo
    rcases hcase with hno | ⟨ok, hin⟩
    · go_enter Tryd.func6, Tryd.ntmps6
      go_wp2_with fail
      refine (ready_any _ _ _ _ S _ hr hf HS.out).mono ?_
      rintro e w1 ⟨b, rfl, hbb, hb1⟩
      obtain rfl : b = false := by
        cases b
        · rfl
        · exact absurd (hbb.1 rfl) hno
      clear hbb
      go_wp2_with fail
      refine (works_any _ (HN.out.mono hb1)).mono ?_
      rintro e w2 ⟨rfl, hb2⟩
      go_wp2_with fail
      go_ret
      exact ⟨rfl, bTrans HB.out (bTrans hb1 hb2)⟩
    · go_enter Tryd.func6, Tryd.ntmps6
      go_wp2_with fail
      refine (ready_any _ _ _ _ S _ hr hf HS.out).mono ?_
      rintro e w1 ⟨b, rfl, hbb, hb1⟩
      obtain rfl : b = true := hbb.2 ok
      have HB1 := Lib.hid hb1
      obtain ⟨bc1, bf1⟩ := bcell hb1
      have hz1 := hb1.size
      simp only [World.size_alloc] at hz1
      have hy1 : w.heap.size < w1.heap.size := by omega
      clear hbb hb1
      go_wp2_with (go_at_call 32; refine (Within01_any _ _ _ _).mono ?_; rintro e w1' ⟨rfl, rfl⟩)
      refine (works_any _ (HN.out.mono HB1.out)).mono ?_
      rintro e w2 ⟨rfl, hb2⟩
      go_wp2_with fail
      go_ret
      exact ⟨rfl, bTrans HB.out (bTrans HB1.out hb2)⟩
end Go.Proofs.YtbbnpneabmldnaaDoor
