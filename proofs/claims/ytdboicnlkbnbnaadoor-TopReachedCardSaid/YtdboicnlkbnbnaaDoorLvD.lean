/- Walks of the reference of levels: IsWell, Check. No condition but that lengths are Go's. -/
import Derived.Test.YtdboicnlkbnbnaaDoorLvC
namespace Go.Proofs.YtdboicnlkbnbnaaDoor
open Go.RowKit Go.Sort
theorem isWell_ref (As Al : Option Addr) (cs cl : Nat) (t : Lt) (n : Int) (w : World) (h0 : 0 ≤ t.wells) (h1 : t.wells ≤ 6) :
    Calls Tryd.prog 8 #[.agg #[.int .i64 t.wells, .slice As t.ns cs, .slice Al t.nl cl], .int .i64 n] w fun e w' => e = .returned (.bool (inR n 0 (t.wells - 1))) ∧ Below w.heap.size w w' := by
  go_enter Tryd.func8, Tryd.ntmps8
  go_wp2_with (go_at_call 19; refine (Within01_any _ _ _ _).mono ?_; rintro e w' ⟨rfl, rfl⟩)
  go_ret
  exact ⟨rfl, bAlloc (Below.refl _ _) _⟩
theorem isWell_rb (As Al : Option Addr) (cs cl : Nat) (t : Lt) (n : Int) (b : Bool) (w : World) (h0 : 0 ≤ t.wells) (h1 : t.wells ≤ 6) (h : inR n 0 (t.wells - 1) = b) :
    Calls Tryd.prog 8 #[.agg #[.int .i64 t.wells, .slice As t.ns cs, .slice Al t.nl cl], .int .i64 n] w fun e w' => e = .returned (.bool b) ∧ Below w.heap.size w w' := by
  have := isWell_ref As Al cs cl t n w h0 h1
  rw [h] at this
  exact this
theorem within_b (n lo hi : Int) (b : Bool) (w : World) (h : inR n lo hi = b) : Calls Tryd.prog 19 #[.int .i64 n, .int .i64 lo, .int .i64 hi] w fun e w' => e = .returned (.bool b) ∧ w = w' :=
  (Within01_any n lo hi w).mono fun e w' ⟨he, hw⟩ => ⟨by rw [he, h], hw⟩
theorem snd_cases (n : Int) (s : Snd) : (s.Ok n ∧ inR s.well 0 (n - 1) = true ∧ inR s.high 0 99 = true ∧ inR s.low 0 s.high = true) ∨ (¬ s.Ok n ∧ ((inR s.well 0 (n - 1) = false) ∨ (inR s.well 0 (n - 1) = true ∧ inR s.high 0 99 = false) ∨ (inR s.well 0 (n - 1) = true ∧ inR s.high 0 99 = true ∧ inR s.low 0 s.high = false))) := by
  cases h1 : inR s.well 0 (n - 1)
  · exact .inr ⟨(fun h => by rw [inR_t ⟨h.w0, by have := h.w1; omega⟩] at h1; cases h1), .inl rfl⟩
  · cases h2 : inR s.high 0 99
    · exact .inr ⟨(fun h => by rw [inR_t ⟨by have := h.l0; have := h.l1; omega, h.h1⟩] at h2; cases h2), .inr (.inl ⟨rfl, rfl⟩)⟩
    · cases h3 : inR s.low 0 s.high
      · exact .inr ⟨(fun h => by rw [inR_t ⟨h.l0, h.l1⟩] at h3; cases h3), .inr (.inr ⟨rfl, rfl, rfl⟩)⟩
      · have a := inR_iff.1 h1
        have b := inR_iff.1 h2
        have c := inR_iff.1 h3
        exact .inl ⟨⟨a.1, by omega, c.1, c.2, b.2⟩, rfl, rfl, rfl⟩
theorem slp_cases (n : Int) (s : Slp) : (s.Ok n ∧ inR s.a 0 (n - 1) = true ∧ inR s.b 0 (n - 1) = true ∧ (s.a == s.b) = false ∧ inR s.high (-99) 99 = true ∧ inR s.low (-99) s.high = true) ∨ (¬ s.Ok n ∧ ((inR s.a 0 (n - 1) = false) ∨ (inR s.a 0 (n - 1) = true ∧ inR s.b 0 (n - 1) = false) ∨ (inR s.a 0 (n - 1) = true ∧ inR s.b 0 (n - 1) = true ∧ (s.a == s.b) = true) ∨ (inR s.a 0 (n - 1) = true ∧ inR s.b 0 (n - 1) = true ∧ (s.a == s.b) = false ∧ inR s.high (-99) 99 = false) ∨ (inR s.a 0 (n - 1) = true ∧ inR s.b 0 (n - 1) = true ∧ (s.a == s.b) = false ∧ inR s.high (-99) 99 = true ∧ inR s.low (-99) s.high = false))) := by
  cases h1 : inR s.a 0 (n - 1)
  · exact .inr ⟨(fun h => by rw [inR_t ⟨h.a0, by have := h.a1; omega⟩] at h1; cases h1), .inl rfl⟩
  · cases h2 : inR s.b 0 (n - 1)
    · exact .inr ⟨(fun h => by rw [inR_t ⟨h.b0, by have := h.b1; omega⟩] at h2; cases h2), .inr (.inl ⟨rfl, rfl⟩)⟩
    · cases h3 : (s.a == s.b)
      · cases h4 : inR s.high (-99) 99
        · exact .inr ⟨(fun h => by rw [inR_t ⟨by have := h.l0; have := h.l1; omega, h.h1⟩] at h4; cases h4), .inr (.inr (.inr (.inl ⟨rfl, rfl, rfl, rfl⟩)))⟩
        · cases h5 : inR s.low (-99) s.high
          · exact .inr ⟨(fun h => by rw [inR_t ⟨h.l0, h.l1⟩] at h5; cases h5), .inr (.inr (.inr (.inr ⟨rfl, rfl, rfl, rfl, rfl⟩)))⟩
          · have a := inR_iff.1 h1
            have b := inR_iff.1 h2
            have c := beq_eq_false_iff_ne.1 h3
            have d := inR_iff.1 h4
            have e := inR_iff.1 h5
            exact .inl ⟨⟨a.1, by omega, b.1, by omega, c, e.1, e.2, d.2⟩, rfl, rfl, rfl, rfl, rfl⟩
      · exact .inr ⟨fun h => h.ne (eq_of_beq h3), .inr (.inr (.inl ⟨rfl, rfl, rfl⟩))⟩
open Classical in
noncomputable def Lt.err (t : Lt) : Int := if t.Ok then 0 else 10
theorem Lt.err_ok {t : Lt} (h : t.Ok) : t.err = 0 := if_pos h
theorem Lt.err_bad {t : Lt} (h : ¬ t.Ok) : t.err = 10 := if_neg h
set_option maxHeartbeats 8000000 in
set_option maxRecDepth 100000 in
theorem refLvCheck (As Al : Option Addr) (cs cl : Nat) (t : Lt) (w : World) (hs : t.ns ≤ 9223372036854775807) (hl : t.nl ≤ 9223372036854775807) (hT : LtAt w As Al t) :
    Calls Tryd.prog 5 #[.agg #[.int .i64 t.wells, .slice As t.ns cs, .slice Al t.nl cl]] w fun e w' => e = .returned (.int .i64 t.err) ∧ Below w.heap.size w w' := by
  have hb0 := bAlloc (Below.refl w.heap.size w) (.cells #[.int .i64 t.wells, .slice As t.ns cs, .slice Al t.nl cl] 25)
  have HT := Lib.hid (hT.mono hb0)
  have HB := Lib.hid hb0
  clear hT hb0
  by_cases hgo : inR t.wells 0 6 = true ∧ t.ns ≤ 8 ∧ t.nl ≤ 8
  · obtain ⟨hw, ns8, nl8⟩ := hgo
    obtain ⟨w0, w1⟩ := inR_iff.1 hw
    have HW := Lib.hid hw
    have m1 : ¬ (8 : Int) < (t.ns : Int) := by omega
    have m2 : ¬ (8 : Int) < (t.nl : Int) := by omega
    clear hw
    go_enter Tryd.func5, Tryd.ntmps5
    go_wp2_with (go_at_call 19; refine (within_b _ _ _ _ _ HW.out).mono ?_; rintro e w' ⟨rfl, rfl⟩)
    go_loopw [3] (fun i wr => ∃ k : Nat, i = .int .i64 k ∧ k ≤ t.ns ∧ (∀ j, j < k → (t.snd j).Ok t.wells) ∧ Below (w.alloc (.cells #[.int .i64 t.wells, .slice As t.ns cs, .slice Al t.nl cl] 25)).heap.size (w.alloc (.cells #[.int .i64 t.wells, .slice As t.ns cs, .slice Al t.nl cl] 25)) wr) (fun i _ => t.ns - (intOf i).toNat)
    case atStart => exact ⟨0, rfl, Nat.zero_le _, fun j hj => absurd hj (Nat.not_lt_zero _), Below.refl _ _⟩
    case round =>
      obtain ⟨k, rfl, hk, hall, hbel⟩ := hrel
      have HALL := Lib.hid hall
      have HL3 := Lib.hid hbel
      obtain ⟨bc3, bf3⟩ := bcell hbel
      have hz3 := hbel.size
      simp only [World.size_alloc] at hz3
      have hy3 : w.heap.size < wr.heap.size := hz3
      clear hbel hall
      by_cases hlt : k < t.ns
      · rcases (HT.out.mono HL3.out).snd with h0 | ⟨b, o, hA, hb, hcell⟩
        · omega
        obtain ⟨c0, c1, c2⟩ := hcell k hlt
        clear hcell
        have k1 : (k : Int) < (t.ns : Int) := by omega
        have HK := Lib.hid hlt
        subst hA
        rcases snd_cases t.wells (t.snd k) with ⟨hok, g1, g2, g3⟩ | ⟨hno, hcase⟩
        · have HOKK := Lib.hid (show ∀ j, j < k + 1 → (t.snd j).Ok t.wells from fun j hj => by
            rcases Nat.lt_or_ge j k with h1 | h1
            · exact HALL.out j h1
            · obtain rfl : j = k := by omega
              exact hok)
          have G1 := Lib.hid g1
          have G2 := Lib.hid g2
          have G3 := Lib.hid g3
          clear hok g1 g2 g3
          go_wp2_with fail
          refine (isWell_rb _ _ _ _ t _ _ _ w0 w1 G1.out).mono ?_
          rintro e w4 ⟨rfl, hb4⟩
          have HL4 := Lib.hid (bTrans (bAlloc HL3.out _) hb4)
          obtain ⟨bc4, bf4⟩ := bcell hb4
          have hz4 := hb4.size
          simp only [World.size_alloc] at hz4
          have hy4 : wr.heap.size < w4.heap.size := hz4
          clear hb4
          go_wp2_with fail
          refine (within_b _ _ _ _ _ G2.out).mono ?_
          rintro e w' ⟨rfl, rfl⟩
          go_wp2_with fail
          refine (within_b _ _ _ _ _ G3.out).mono ?_
          rintro e w' ⟨rfl, rfl⟩
          go_wp2_with fail
          go_roundw
          case rel =>
            first
            | exact ⟨k + 1, by go_num, by omega, HOKK.out, HL4.out⟩
            | ((repeat apply Exists.intro)
               refine ⟨⟨k + 1, ?_, by omega, HOKK.out, HL4.out⟩, rfl⟩
               go_num)
          case measure => simp [intOf]; omega
        · have HNO := Lib.hid (Lt.err_bad (t := t) fun h => hno (h.snd k HK.out))
          clear hno
          rcases hcase with g1 | ⟨g1, g2⟩ | ⟨g1, g2, g3⟩
          · have G1 := Lib.hid g1
            clear g1
            go_wp2_with fail
            refine (isWell_rb _ _ _ _ t _ _ _ w0 w1 G1.out).mono ?_
            rintro e w4 ⟨rfl, hb4⟩
            have HL4 := Lib.hid (bTrans (bAlloc HL3.out _) hb4)
            obtain ⟨bc4, bf4⟩ := bcell hb4
            have hz4 := hb4.size
            simp only [World.size_alloc] at hz4
            have hy4 : wr.heap.size < w4.heap.size := hz4
            clear hb4
            go_wp2_with fail
            go_ret
            exact ⟨by rw [HNO.out]; rfl, bTrans HB.out HL4.out⟩
          · have G1 := Lib.hid g1
            have G2 := Lib.hid g2
            clear g1 g2
            go_wp2_with fail
            refine (isWell_rb _ _ _ _ t _ _ _ w0 w1 G1.out).mono ?_
            rintro e w4 ⟨rfl, hb4⟩
            have HL4 := Lib.hid (bTrans (bAlloc HL3.out _) hb4)
            obtain ⟨bc4, bf4⟩ := bcell hb4
            have hz4 := hb4.size
            simp only [World.size_alloc] at hz4
            have hy4 : wr.heap.size < w4.heap.size := hz4
            clear hb4
            go_wp2_with fail
            refine (within_b _ _ _ _ _ G2.out).mono ?_
            rintro e w' ⟨rfl, rfl⟩
            go_wp2_with fail
            go_ret
            exact ⟨by rw [HNO.out]; rfl, bTrans HB.out HL4.out⟩
          · have G1 := Lib.hid g1
            have G2 := Lib.hid g2
            have G3 := Lib.hid g3
            clear g1 g2 g3
            go_wp2_with fail
            refine (isWell_rb _ _ _ _ t _ _ _ w0 w1 G1.out).mono ?_
            rintro e w4 ⟨rfl, hb4⟩
            have HL4 := Lib.hid (bTrans (bAlloc HL3.out _) hb4)
            obtain ⟨bc4, bf4⟩ := bcell hb4
            have hz4 := hb4.size
            simp only [World.size_alloc] at hz4
            have hy4 : wr.heap.size < w4.heap.size := hz4
            clear hb4
            go_wp2_with fail
            refine (within_b _ _ _ _ _ G2.out).mono ?_
            rintro e w' ⟨rfl, rfl⟩
            go_wp2_with fail
            refine (within_b _ _ _ _ _ G3.out).mono ?_
            rintro e w' ⟨rfl, rfl⟩
            go_wp2_with fail
            go_ret
            exact ⟨by rw [HNO.out]; rfl, bTrans HB.out HL4.out⟩
      · obtain rfl : k = t.ns := by omega
        have HSN := Lib.hid (show ∀ j, j < t.ns → (t.snd j).Ok t.wells from HALL.out)
        go_wp2_with fail
        clear bc3 bf3
        go_loopw [5] (fun i wr => ∃ k : Nat, i = .int .i64 k ∧ k ≤ t.nl ∧ (∀ j, j < k → (t.slp j).Ok t.wells) ∧ Below (w.alloc (.cells #[.int .i64 t.wells, .slice As t.ns cs, .slice Al t.nl cl] 25)).heap.size (w.alloc (.cells #[.int .i64 t.wells, .slice As t.ns cs, .slice Al t.nl cl] 25)) wr) (fun i _ => t.nl - (intOf i).toNat)
        case atStart => exact ⟨0, rfl, Nat.zero_le _, fun j hj => absurd hj (Nat.not_lt_zero _), HL3.out⟩
        case round =>
          obtain ⟨k, rfl, hk, hall, hbel⟩ := hrel
          have HALL2 := Lib.hid hall
          have HL5 := Lib.hid hbel
          obtain ⟨bc5, bf5⟩ := bcell hbel
          have hz5 := hbel.size
          simp only [World.size_alloc] at hz5
          have hy5 : w.heap.size < wr.heap.size := hz5
          clear hbel hall
          by_cases hlt : k < t.nl
          · rcases (HT.out.mono HL5.out).slp with h0 | ⟨b, o, hA, hb, hcell⟩
            · omega
            obtain ⟨c0, c1, c2, c3⟩ := hcell k hlt
            clear hcell
            have k1 : (k : Int) < (t.nl : Int) := by omega
            have HK := Lib.hid hlt
            subst hA
            rcases slp_cases t.wells (t.slp k) with ⟨hok, g1, g2, g3, g4, g5⟩ | ⟨hno, hcase⟩
            · have HOKK := Lib.hid (show ∀ j, j < k + 1 → (t.slp j).Ok t.wells from fun j hj => by
                rcases Nat.lt_or_ge j k with h1 | h1
                · exact HALL2.out j h1
                · obtain rfl : j = k := by omega
                  exact hok)
              clear hok
              have G1 := Lib.hid g1
              have G2 := Lib.hid g2
              have G4 := Lib.hid g4
              have G5 := Lib.hid g5
              clear g1 g2 g4 g5
              go_wp2_with fail
              refine (isWell_rb _ _ _ _ t _ _ _ w0 w1 G1.out).mono ?_
              rintro e w6 ⟨rfl, hb6⟩
              have HL6 := Lib.hid (bTrans (bAlloc HL5.out _) hb6)
              obtain ⟨bc6, bf6⟩ := bcell hb6
              have hz6 := hb6.size
              simp only [World.size_alloc] at hz6
              have hy6 : wr.heap.size < w6.heap.size := by omega
              clear hb6
              go_wp2_with fail
              refine (isWell_rb _ _ _ _ t _ _ _ w0 w1 G2.out).mono ?_
              rintro e w7 ⟨rfl, hb7⟩
              have HL7 := Lib.hid (bTrans HL6.out hb7)
              obtain ⟨bc7, bf7⟩ := bcell hb7
              have hz7 := hb7.size
              have hy7 : wr.heap.size < w7.heap.size := by omega
              clear hb7
              go_wp2_with fail
              refine (within_b _ _ _ _ _ G4.out).mono ?_
              rintro e w' ⟨rfl, rfl⟩
              go_wp2_with fail
              refine (within_b _ _ _ _ _ G5.out).mono ?_
              rintro e w' ⟨rfl, rfl⟩
              go_wp2_with fail
              go_roundw
              case rel =>
                first
                | exact ⟨k + 1, by go_num, by omega, HOKK.out, HL7.out⟩
                | ((repeat apply Exists.intro)
                   refine ⟨⟨k + 1, ?_, by omega, HOKK.out, HL7.out⟩, rfl⟩
                   go_num)
              case measure => simp [intOf]; omega
            · have HNO := Lib.hid (Lt.err_bad (t := t) fun h => hno (h.slp k HK.out))
              clear hno
              rcases hcase with g1 | ⟨g1, g2⟩ | ⟨g1, g2, g3⟩ | ⟨g1, g2, g3, g4⟩ | ⟨g1, g2, g3, g4, g5⟩
              · have G1 := Lib.hid g1
                clear g1
                go_wp2_with fail
                refine (isWell_rb _ _ _ _ t _ _ _ w0 w1 G1.out).mono ?_
                rintro e w6 ⟨rfl, hb6⟩
                have HL6 := Lib.hid (bTrans (bAlloc HL5.out _) hb6)
                obtain ⟨bc6, bf6⟩ := bcell hb6
                have hz6 := hb6.size
                simp only [World.size_alloc] at hz6
                have hy6 : wr.heap.size < w6.heap.size := by omega
                clear hb6
                go_wp2_with fail
                go_ret
                exact ⟨by rw [HNO.out]; rfl, bTrans HB.out HL6.out⟩
              · have G1 := Lib.hid g1
                have G2 := Lib.hid g2
                clear g1 g2
                go_wp2_with fail
                refine (isWell_rb _ _ _ _ t _ _ _ w0 w1 G1.out).mono ?_
                rintro e w6 ⟨rfl, hb6⟩
                have HL6 := Lib.hid (bTrans (bAlloc HL5.out _) hb6)
                obtain ⟨bc6, bf6⟩ := bcell hb6
                have hz6 := hb6.size
                simp only [World.size_alloc] at hz6
                have hy6 : wr.heap.size < w6.heap.size := by omega
                clear hb6
                go_wp2_with fail
                refine (isWell_rb _ _ _ _ t _ _ _ w0 w1 G2.out).mono ?_
                rintro e w7 ⟨rfl, hb7⟩
                have HL7 := Lib.hid (bTrans HL6.out hb7)
                obtain ⟨bc7, bf7⟩ := bcell hb7
                have hz7 := hb7.size
                have hy7 : wr.heap.size < w7.heap.size := by omega
                clear hb7
                go_wp2_with fail
                go_ret
                exact ⟨by rw [HNO.out]; rfl, bTrans HB.out HL7.out⟩
              · have G1 := Lib.hid g1
                have G2 := Lib.hid g2
                clear g1 g2
                go_wp2_with fail
                refine (isWell_rb _ _ _ _ t _ _ _ w0 w1 G1.out).mono ?_
                rintro e w6 ⟨rfl, hb6⟩
                have HL6 := Lib.hid (bTrans (bAlloc HL5.out _) hb6)
                obtain ⟨bc6, bf6⟩ := bcell hb6
                have hz6 := hb6.size
                simp only [World.size_alloc] at hz6
                have hy6 : wr.heap.size < w6.heap.size := by omega
                clear hb6
                go_wp2_with fail
                refine (isWell_rb _ _ _ _ t _ _ _ w0 w1 G2.out).mono ?_
                rintro e w7 ⟨rfl, hb7⟩
                have HL7 := Lib.hid (bTrans HL6.out hb7)
                obtain ⟨bc7, bf7⟩ := bcell hb7
                have hz7 := hb7.size
                have hy7 : wr.heap.size < w7.heap.size := by omega
                clear hb7
                go_wp2_with fail
                go_ret
                exact ⟨by rw [HNO.out]; rfl, bTrans HB.out HL7.out⟩
              · have G1 := Lib.hid g1
                have G2 := Lib.hid g2
                have G4 := Lib.hid g4
                clear g1 g2 g4
                go_wp2_with fail
                refine (isWell_rb _ _ _ _ t _ _ _ w0 w1 G1.out).mono ?_
                rintro e w6 ⟨rfl, hb6⟩
                have HL6 := Lib.hid (bTrans (bAlloc HL5.out _) hb6)
                obtain ⟨bc6, bf6⟩ := bcell hb6
                have hz6 := hb6.size
                simp only [World.size_alloc] at hz6
                have hy6 : wr.heap.size < w6.heap.size := by omega
                clear hb6
                go_wp2_with fail
                refine (isWell_rb _ _ _ _ t _ _ _ w0 w1 G2.out).mono ?_
                rintro e w7 ⟨rfl, hb7⟩
                have HL7 := Lib.hid (bTrans HL6.out hb7)
                obtain ⟨bc7, bf7⟩ := bcell hb7
                have hz7 := hb7.size
                have hy7 : wr.heap.size < w7.heap.size := by omega
                clear hb7
                go_wp2_with fail
                refine (within_b _ _ _ _ _ G4.out).mono ?_
                rintro e w' ⟨rfl, rfl⟩
                go_wp2_with fail
                go_ret
                exact ⟨by rw [HNO.out]; rfl, bTrans HB.out HL7.out⟩
              · have G1 := Lib.hid g1
                have G2 := Lib.hid g2
                have G4 := Lib.hid g4
                have G5 := Lib.hid g5
                clear g1 g2 g4 g5
                go_wp2_with fail
                refine (isWell_rb _ _ _ _ t _ _ _ w0 w1 G1.out).mono ?_
                rintro e w6 ⟨rfl, hb6⟩
                have HL6 := Lib.hid (bTrans (bAlloc HL5.out _) hb6)
                obtain ⟨bc6, bf6⟩ := bcell hb6
                have hz6 := hb6.size
                simp only [World.size_alloc] at hz6
                have hy6 : wr.heap.size < w6.heap.size := by omega
                clear hb6
                go_wp2_with fail
                refine (isWell_rb _ _ _ _ t _ _ _ w0 w1 G2.out).mono ?_
                rintro e w7 ⟨rfl, hb7⟩
                have HL7 := Lib.hid (bTrans HL6.out hb7)
                obtain ⟨bc7, bf7⟩ := bcell hb7
                have hz7 := hb7.size
                have hy7 : wr.heap.size < w7.heap.size := by omega
                clear hb7
                go_wp2_with fail
                refine (within_b _ _ _ _ _ G4.out).mono ?_
                rintro e w' ⟨rfl, rfl⟩
                go_wp2_with fail
                refine (within_b _ _ _ _ _ G5.out).mono ?_
                rintro e w' ⟨rfl, rfl⟩
                go_wp2_with fail
                go_ret
                exact ⟨by rw [HNO.out]; rfl, bTrans HB.out HL7.out⟩
          · obtain rfl : k = t.nl := by omega
            have HE := Lib.hid (Lt.err_ok (t := t) ⟨w0, w1, ns8, nl8, HSN.out, HALL2.out⟩)
            go_wp2_with fail
            go_ret
            exact ⟨by rw [HE.out]; rfl, bTrans HB.out HL5.out⟩
  · have HNO := Lib.hid (Lt.err_bad (t := t) fun h => hgo ⟨inR_t ⟨h.w0, h.w1⟩, h.ns, h.nl⟩)
    have hcase : (inR t.wells 0 6 = false) ∨ (inR t.wells 0 6 = true ∧ (8 : Int) < (t.ns : Int)) ∨ (inR t.wells 0 6 = true ∧ ¬ (8 : Int) < (t.ns : Int) ∧ (8 : Int) < (t.nl : Int)) := by
      cases e : inR t.wells 0 6
      · exact .inl rfl
      · by_cases h1 : t.ns ≤ 8
        · by_cases h2 : t.nl ≤ 8
          · exact absurd ⟨e, h1, h2⟩ hgo
          · exact .inr (.inr ⟨rfl, by omega, by omega⟩)
        · exact .inr (.inl ⟨rfl, by omega⟩)
    clear hgo
    rcases hcase with g1 | ⟨g1, m1⟩ | ⟨g1, m1, m2⟩
    all_goals
      have G1 := Lib.hid g1
      clear g1
      go_enter Tryd.func5, Tryd.ntmps5
      go_wp2_with fail
      refine (within_b _ _ _ _ _ G1.out).mono ?_
      rintro e w' ⟨rfl, rfl⟩
      go_wp2_with fail
      go_ret
      exact ⟨by rw [HNO.out]; rfl, HB.out⟩
end Go.Proofs.YtdboicnlkbnbnaaDoor
