/- Parts joined: what all claims of this seat need. -/
import Derived.Test.YtifkjnmnflhnoaaGreatDoorNBB
set_option linter.unusedSimpArgs false
set_option linter.unusedVariables false
namespace Go.Proofs.YtifkjnmnflhnoaaGreatDoor
open Go.RowKit Go.Sort
theorem fact_cases (n : Int) (s : Fact) : (s.Ok n ∧ inR s.from_ 0 (n - 1) = true ∧ inR s.to_ 0 (n - 1) = true ∧ inR s.many 1 9 = true ∧ inR s.high 0 99 = true ∧ inR s.low 0 s.high = true) ∨
    (¬ s.Ok n ∧ ((inR s.from_ 0 (n - 1) = false) ∨ (inR s.from_ 0 (n - 1) = true ∧ inR s.to_ 0 (n - 1) = false) ∨ (inR s.from_ 0 (n - 1) = true ∧ inR s.to_ 0 (n - 1) = true ∧ inR s.many 1 9 = false) ∨
      (inR s.from_ 0 (n - 1) = true ∧ inR s.to_ 0 (n - 1) = true ∧ inR s.many 1 9 = true ∧ inR s.high 0 99 = false) ∨ (inR s.from_ 0 (n - 1) = true ∧ inR s.to_ 0 (n - 1) = true ∧ inR s.many 1 9 = true ∧ inR s.high 0 99 = true ∧ inR s.low 0 s.high = false))) := by
  cases h1 : inR s.from_ 0 (n - 1)
  · exact .inr ⟨(fun h => by rw [inR_t ⟨h.f0, by have := h.f1; omega⟩] at h1; cases h1), .inl rfl⟩
  · cases h2 : inR s.to_ 0 (n - 1)
    · exact .inr ⟨(fun h => by rw [inR_t ⟨h.t0, by have := h.t1; omega⟩] at h2; cases h2), .inr (.inl ⟨rfl, rfl⟩)⟩
    · cases h3 : inR s.many 1 9
      · exact .inr ⟨(fun h => by rw [inR_t ⟨h.m0, h.m1⟩] at h3; cases h3), .inr (.inr (.inl ⟨rfl, rfl, rfl⟩))⟩
      · cases h4 : inR s.high 0 99
        · exact .inr ⟨(fun h => by rw [inR_t ⟨by have := h.l0; have := h.l1; omega, h.h1⟩] at h4; cases h4), .inr (.inr (.inr (.inl ⟨rfl, rfl, rfl, rfl⟩)))⟩
        · cases h5 : inR s.low 0 s.high
          · exact .inr ⟨(fun h => by rw [inR_t ⟨h.l0, h.l1⟩] at h5; cases h5), .inr (.inr (.inr (.inr ⟨rfl, rfl, rfl, rfl, rfl⟩)))⟩
          · have a := inR_iff.1 h1
            have b := inR_iff.1 h2
            have c := inR_iff.1 h3
            have d := inR_iff.1 h4
            have e := inR_iff.1 h5
            exact .inl ⟨⟨a.1, by omega, b.1, by omega, c.1, c.2, e.1, e.2, d.2⟩, rfl, rfl, rfl, rfl, rfl⟩
set_option maxHeartbeats 8000000 in
set_option maxRecDepth 100000 in
theorem refCheck5 (Aw Af : Option Addr) (cw cf : Nat) (t : Qt) (w : World) (hs : t.nw ≤ 9223372036854775807) (hl : t.nf ≤ 9223372036854775807) (hT : QAt w Aw Af t) :
    Calls Tryz.prog 6 #[.agg #[.int .i64 t.wells, .slice Aw t.nw cw, .slice Af t.nf cf]] w fun e w' => e = .returned (.int .i64 t.err) ∧ Below w.heap.size w w' := by
  have hb0 := bAlloc (Below.refl w.heap.size w) (.cells #[.int .i64 t.wells, .slice Aw t.nw cw, .slice Af t.nf cf] 25)
  have HT := Lib.hid (hT.mono hb0)
  have HB := Lib.hid hb0
  clear hT hb0
  by_cases hgo : inR t.wells 0 4 = true ∧ t.nw ≤ 6 ∧ t.nf ≤ 6
  · obtain ⟨hw, nw6, nf6⟩ := hgo
    obtain ⟨w0, w1⟩ := inR_iff.1 hw
    have HW := Lib.hid hw
    have m1 : ¬ (6 : Int) < (t.nw : Int) := by omega
    have m2 : ¬ (6 : Int) < (t.nf : Int) := by omega
    clear hw
    go_enter Tryz.func6, Tryz.ntmps6
    go_wp2_with fail
    refine (within5_b _ _ _ _ _ HW.out).mono ?_
    rintro e w' ⟨rfl, rfl⟩
    go_wp2_with fail
    go_loopw [3] (fun i wr => ∃ k : Nat, i = .int .i64 k ∧ k ≤ t.nw ∧ (∀ j, j < k → (t.world j).Ok t.wells) ∧ Below (w.alloc (.cells #[.int .i64 t.wells, .slice Aw t.nw cw, .slice Af t.nf cf] 25)).heap.size (w.alloc (.cells #[.int .i64 t.wells, .slice Aw t.nw cw, .slice Af t.nf cf] 25)) wr) (fun i _ => t.nw - (intOf i).toNat)
    case atStart => exact ⟨0, rfl, Nat.zero_le _, fun j hj => absurd hj (Nat.not_lt_zero _), Below.refl _ _⟩
    case round =>
      obtain ⟨k, rfl, hk, hall, hbel⟩ := hrel
      have HALL := Lib.hid hall
      have HL3 := Lib.hid hbel
      obtain ⟨bc3, bf3⟩ := bcell hbel
      have hz3 := hbel.size
      simp only [World.size_alloc] at hz3
      have hy3 : w.heap.size < wr.heap.size := hz3
      clear hbel hall
      by_cases hlt : k < t.nw
      · rcases (HT.out.mono HL3.out).worlds with h0 | ⟨b, o, hA, hb, hcell⟩
        · omega
        obtain ⟨A', c', c0, hrow, hlen⟩ := hcell k hlt
        have HR := Lib.hid hrow
        have HLEN := Lib.hid hlen
        have k1 : (k : Int) < (t.nw : Int) := by omega
        have HK := Lib.hid hlt
        clear hcell hrow hlen
        subst hA
        obtain ⟨bk, hbk⟩ : ∃ bk, (t.world k).okB t.wells = bk := ⟨_, rfl⟩
        have HBK := Lib.hid hbk
        have HCW := Lib.hid (fun (w' : World) (hb : Below wr.heap.size wr w') => (by
          have := isWorld_any (some ⟨b, o, none⟩) Af A' cw cf c' t (t.world k) w' HLEN.out (HR.out.mono hb)
          rw [hbk] at this
          exact this : Calls Tryz.prog 21 #[.agg #[.int .i64 t.wells, .slice (some ⟨b, o, none⟩) t.nw cw, .slice Af t.nf cf], .agg #[.slice A' (t.world k).n c']] w' fun e w'' => e = .returned (.bool bk) ∧ Below w'.heap.size w' w''))
        clear hbk
        go_wp2_with fail
        refine wp_region_quiet_below (by kernel_rfl) (by kernel_rfl) ?_
        repeat (go_big_quiet_step ((go_at_call 21; exact Calls.regrown_of (HCW.out _ (below_regrown _ _ _)))))
        refine wpQuiet_nil ?_
        intro w9 hw9
        have HL9 := Lib.hid (bTrans HL3.out (below_of_regrown hw9))
        clear hw9 c0 hb bc3 bf3
        cases bk
        · have HNO := Lib.hid (Qt.err_bad (t := t) fun h => by have := Wd.okB_t (h.world k HK.out); rw [HBK.out] at this; cases this)
          go_wp2_with fail
          go_ret
          exact ⟨by rw [HNO.out]; rfl, bTrans HB.out HL9.out⟩
        · have HA2 := Lib.hid (show ∀ j, j < k + 1 → (t.world j).Ok t.wells from fun j hj => by
            rcases Nat.lt_or_ge j k with h1 | h1
            · exact HALL.out j h1
            · obtain rfl : j = k := by omega
              exact Wd.okB_iff.1 HBK.out)
          go_wp2_with fail
          go_roundw
          case rel =>
            first
            | exact ⟨k + 1, by go_num, by omega, HA2.out, HL9.out⟩
            | ((repeat apply Exists.intro)
               refine ⟨⟨k + 1, ?_, by omega, HA2.out, HL9.out⟩, rfl⟩
               go_num)
          case measure => simp [intOf]; omega
      · skip
        obtain rfl : k = t.nw := by omega
        have HSN := Lib.hid (show ∀ j, j < t.nw → (t.world j).Ok t.wells from HALL.out)
        go_wp2_with fail
        clear bc3 bf3
        go_loopw [4] (fun i wr => ∃ k : Nat, i = .int .i64 k ∧ k ≤ t.nf ∧ (∀ j, j < k → (t.fact j).Ok t.wells) ∧ Below (w.alloc (.cells #[.int .i64 t.wells, .slice Aw t.nw cw, .slice Af t.nf cf] 25)).heap.size (w.alloc (.cells #[.int .i64 t.wells, .slice Aw t.nw cw, .slice Af t.nf cf] 25)) wr) (fun i _ => t.nf - (intOf i).toNat)
        case atStart => exact ⟨0, rfl, Nat.zero_le _, fun j hj => absurd hj (Nat.not_lt_zero _), HL3.out⟩
        case round =>
          obtain ⟨k, rfl, hk, hall, hbel⟩ := hrel
          have HALL2 := Lib.hid hall
          have HL5 := Lib.hid hbel
          obtain ⟨bc5, bf5⟩ := bcell hbel
          have hz5 := hbel.size
          simp only [World.size_alloc] at hz5
          have hy5 : w.heap.size < wr.heap.size := hz5
          clear hbel hall
          by_cases hlt : k < t.nf
          · rcases (HT.out.mono HL5.out).facts with h0 | ⟨b, o, hA, hb, hcell⟩
            · omega
            obtain ⟨c0, c1, c2, c3, c4⟩ := hcell k hlt
            clear hcell
            have k1 : (k : Int) < (t.nf : Int) := by omega
            have HK := Lib.hid hlt
            subst hA
            rcases fact_cases t.wells (t.fact k) with ⟨hok, g1, g2, g3, g4, g5⟩ | ⟨hno, hcase⟩
            · have HOKK := Lib.hid (show ∀ j, j < k + 1 → (t.fact j).Ok t.wells from fun j hj => by
                rcases Nat.lt_or_ge j k with h1 | h1
                · exact HALL2.out j h1
                · obtain rfl : j = k := by omega
                  exact hok)
              clear hok
              have G1 := Lib.hid g1
              have G2 := Lib.hid g2
              have G3 := Lib.hid g3
              have G4 := Lib.hid g4
              have G5 := Lib.hid g5
              clear g1 g2 g3 g4 g5
              go_wp2_with fail
              refine (isWell5_b _ _ _ _ t _ _ _ w0 w1 G1.out).mono ?_
              rintro e w6 ⟨rfl, hb6⟩
              have HL6 := Lib.hid (bTrans (bAlloc HL5.out _) hb6)
              obtain ⟨bc6, bf6⟩ := bcell hb6
              have hz6 := hb6.size
              simp only [World.size_alloc] at hz6
              have hy6 : wr.heap.size < w6.heap.size := by omega
              clear hb6
              go_wp2_with fail
              refine (isWell5_b _ _ _ _ t _ _ _ w0 w1 G2.out).mono ?_
              rintro e w7 ⟨rfl, hb7⟩
              have HL7 := Lib.hid (bTrans HL6.out hb7)
              obtain ⟨bc7, bf7⟩ := bcell hb7
              have hz7 := hb7.size
              have hy7 : wr.heap.size < w7.heap.size := by omega
              clear hb7
              go_wp2_with fail
              refine (within5_b _ _ _ _ _ G3.out).mono ?_
              rintro e w' ⟨rfl, rfl⟩
              go_wp2_with fail
              refine (within5_b _ _ _ _ _ G4.out).mono ?_
              rintro e w' ⟨rfl, rfl⟩
              go_wp2_with fail
              refine (within5_b _ _ _ _ _ G5.out).mono ?_
              rintro e w' ⟨rfl, rfl⟩
              go_wp2_with fail
              go_roundw
              case rel =>
                first
                | exact ⟨k + 1, by go_num, by omega, HOKK.out, HL7.out⟩
                | ((repeat apply Exists.intro)
                   refine ⟨⟨k + 1, ?_, by omega, HOKK.out, HL7.out⟩, rfl⟩
                   go_num)
              case measure => simp [intOf]; omega
            · have HNO := Lib.hid (Qt.err_bad (t := t) fun h => hno (h.fact k HK.out))
              clear hno
              rcases hcase with g1 | ⟨g1, g2⟩ | ⟨g1, g2, g3⟩ | ⟨g1, g2, g3, g4⟩ | ⟨g1, g2, g3, g4, g5⟩
              · have G1 := Lib.hid g1
                clear g1
                go_wp2_with fail
                refine (isWell5_b _ _ _ _ t _ _ _ w0 w1 G1.out).mono ?_
                rintro e w6 ⟨rfl, hb6⟩
                have HL6 := Lib.hid (bTrans (bAlloc HL5.out _) hb6)
                obtain ⟨bc6, bf6⟩ := bcell hb6
                have hz6 := hb6.size
                simp only [World.size_alloc] at hz6
                have hy6 : wr.heap.size < w6.heap.size := by omega
                clear hb6
                go_wp2_with fail
                go_ret
                exact ⟨by rw [HNO.out]; rfl, bTrans HB.out HL6.out⟩
              · have G1 := Lib.hid g1
                have G2 := Lib.hid g2
                clear g1 g2
                go_wp2_with fail
                refine (isWell5_b _ _ _ _ t _ _ _ w0 w1 G1.out).mono ?_
                rintro e w6 ⟨rfl, hb6⟩
                have HL6 := Lib.hid (bTrans (bAlloc HL5.out _) hb6)
                obtain ⟨bc6, bf6⟩ := bcell hb6
                have hz6 := hb6.size
                simp only [World.size_alloc] at hz6
                have hy6 : wr.heap.size < w6.heap.size := by omega
                clear hb6
                go_wp2_with fail
                refine (isWell5_b _ _ _ _ t _ _ _ w0 w1 G2.out).mono ?_
                rintro e w7 ⟨rfl, hb7⟩
                have HL7 := Lib.hid (bTrans HL6.out hb7)
                obtain ⟨bc7, bf7⟩ := bcell hb7
                have hz7 := hb7.size
                have hy7 : wr.heap.size < w7.heap.size := by omega
                clear hb7
                go_wp2_with fail
                go_ret
                exact ⟨by rw [HNO.out]; rfl, bTrans HB.out HL7.out⟩
              · have G1 := Lib.hid g1
                have G2 := Lib.hid g2
                have G3 := Lib.hid g3
                clear g1 g2 g3
                go_wp2_with fail
                refine (isWell5_b _ _ _ _ t _ _ _ w0 w1 G1.out).mono ?_
                rintro e w6 ⟨rfl, hb6⟩
                have HL6 := Lib.hid (bTrans (bAlloc HL5.out _) hb6)
                obtain ⟨bc6, bf6⟩ := bcell hb6
                have hz6 := hb6.size
                simp only [World.size_alloc] at hz6
                have hy6 : wr.heap.size < w6.heap.size := by omega
                clear hb6
                go_wp2_with fail
                refine (isWell5_b _ _ _ _ t _ _ _ w0 w1 G2.out).mono ?_
                rintro e w7 ⟨rfl, hb7⟩
                have HL7 := Lib.hid (bTrans HL6.out hb7)
                obtain ⟨bc7, bf7⟩ := bcell hb7
                have hz7 := hb7.size
                have hy7 : wr.heap.size < w7.heap.size := by omega
                clear hb7
                go_wp2_with fail
                refine (within5_b _ _ _ _ _ G3.out).mono ?_
                rintro e w' ⟨rfl, rfl⟩
                go_wp2_with fail
                go_ret
                exact ⟨by rw [HNO.out]; rfl, bTrans HB.out HL7.out⟩
              · have G1 := Lib.hid g1
                have G2 := Lib.hid g2
                have G3 := Lib.hid g3
                have G4 := Lib.hid g4
                clear g1 g2 g3 g4
                go_wp2_with fail
                refine (isWell5_b _ _ _ _ t _ _ _ w0 w1 G1.out).mono ?_
                rintro e w6 ⟨rfl, hb6⟩
                have HL6 := Lib.hid (bTrans (bAlloc HL5.out _) hb6)
                obtain ⟨bc6, bf6⟩ := bcell hb6
                have hz6 := hb6.size
                simp only [World.size_alloc] at hz6
                have hy6 : wr.heap.size < w6.heap.size := by omega
                clear hb6
                go_wp2_with fail
                refine (isWell5_b _ _ _ _ t _ _ _ w0 w1 G2.out).mono ?_
                rintro e w7 ⟨rfl, hb7⟩
                have HL7 := Lib.hid (bTrans HL6.out hb7)
                obtain ⟨bc7, bf7⟩ := bcell hb7
                have hz7 := hb7.size
                have hy7 : wr.heap.size < w7.heap.size := by omega
                clear hb7
                go_wp2_with fail
                refine (within5_b _ _ _ _ _ G3.out).mono ?_
                rintro e w' ⟨rfl, rfl⟩
                go_wp2_with fail
                refine (within5_b _ _ _ _ _ G4.out).mono ?_
                rintro e w' ⟨rfl, rfl⟩
                go_wp2_with fail
                go_ret
                exact ⟨by rw [HNO.out]; rfl, bTrans HB.out HL7.out⟩
              · have G1 := Lib.hid g1
                have G2 := Lib.hid g2
                have G3 := Lib.hid g3
                have G4 := Lib.hid g4
                have G5 := Lib.hid g5
                clear g1 g2 g3 g4 g5
                go_wp2_with fail
                refine (isWell5_b _ _ _ _ t _ _ _ w0 w1 G1.out).mono ?_
                rintro e w6 ⟨rfl, hb6⟩
                have HL6 := Lib.hid (bTrans (bAlloc HL5.out _) hb6)
                obtain ⟨bc6, bf6⟩ := bcell hb6
                have hz6 := hb6.size
                simp only [World.size_alloc] at hz6
                have hy6 : wr.heap.size < w6.heap.size := by omega
                clear hb6
                go_wp2_with fail
                refine (isWell5_b _ _ _ _ t _ _ _ w0 w1 G2.out).mono ?_
                rintro e w7 ⟨rfl, hb7⟩
                have HL7 := Lib.hid (bTrans HL6.out hb7)
                obtain ⟨bc7, bf7⟩ := bcell hb7
                have hz7 := hb7.size
                have hy7 : wr.heap.size < w7.heap.size := by omega
                clear hb7
                go_wp2_with fail
                refine (within5_b _ _ _ _ _ G3.out).mono ?_
                rintro e w' ⟨rfl, rfl⟩
                go_wp2_with fail
                refine (within5_b _ _ _ _ _ G4.out).mono ?_
                rintro e w' ⟨rfl, rfl⟩
                go_wp2_with fail
                refine (within5_b _ _ _ _ _ G5.out).mono ?_
                rintro e w' ⟨rfl, rfl⟩
                go_wp2_with fail
                go_ret
                exact ⟨by rw [HNO.out]; rfl, bTrans HB.out HL7.out⟩
          · obtain rfl : k = t.nf := by omega
            have HE := Lib.hid (Qt.err_ok (t := t) ⟨w0, w1, nw6, nf6, HSN.out, HALL2.out⟩)
            go_wp2_with fail
            go_ret
            exact ⟨by rw [HE.out]; rfl, bTrans HB.out HL5.out⟩
  · have HNO := Lib.hid (Qt.err_bad (t := t) fun h => hgo ⟨inR_t ⟨h.w0, h.w1⟩, h.nw, h.nf⟩)
    have hcase : (inR t.wells 0 4 = false) ∨ (inR t.wells 0 4 = true ∧ (6 : Int) < (t.nw : Int)) ∨ (inR t.wells 0 4 = true ∧ ¬ (6 : Int) < (t.nw : Int) ∧ (6 : Int) < (t.nf : Int)) := by
      cases e : inR t.wells 0 4
      · exact .inl rfl
      · by_cases h1 : t.nw ≤ 6
        · by_cases h2 : t.nf ≤ 6
          · exact absurd ⟨e, h1, h2⟩ hgo
          · exact .inr (.inr ⟨rfl, by omega, by omega⟩)
        · exact .inr (.inl ⟨rfl, by omega⟩)
    clear hgo
    rcases hcase with g1 | ⟨g1, m1⟩ | ⟨g1, m1, m2⟩
    all_goals
      have G1 := Lib.hid g1
      clear g1
      go_enter Tryz.func6, Tryz.ntmps6
      go_wp2_with fail
      refine (within5_b _ _ _ _ _ G1.out).mono ?_
      rintro e w' ⟨rfl, rfl⟩
      go_wp2_with fail
      go_ret
      exact ⟨by rw [HNO.out]; rfl, HB.out⟩
/-- what ask says -/
noncomputable def Qt.askErr (t : Qt) (is : Bool) : Int := if t.err = 0 then (if is then 0 else 1) else t.err
end Go.Proofs.YtifkjnmnflhnoaaGreatDoor

namespace Go.Proofs.YtifkjnmnflhnoaaGreatDoor
open Go.RowKit Go.Sort
def numL (l : List Int) : List Value := l.map (Value.int .i64)
/-- a slice of numbers of the call's own -/
def OwnL (w : World) (base : Nat) (v : Value) (l : List Int) : Prop := w.ownsRow base 3 1 v l.length (numL l)
theorem OwnL.nil (w : World) (base : Nat) : OwnL w base (.slice none 0 0) [] := World.ownsRow_nil _ _ _ _
theorem OwnL.mono {w w' : World} {base : Nat} {v : Value} {l : List Int} (h : OwnL w base v l) (hb : Below w.heap.size w w') : OwnL w' base v l := owns_below h hb
theorem OwnL.lower {w : World} {base base' : Nat} {v : Value} {l : List Int} (h : OwnL w base v l) (hb : base' ≤ base) : OwnL w base' v l := owns_lower h hb
/-- a slice that reads as a list of numbers -/
def NumsAt (w : World) (v : Value) (l : List Int) : Prop := ∃ A c, v = .slice A l.length c ∧ RowAt w A (numL l)
theorem OwnL.nums {w : World} {base : Nat} {v : Value} {l : List Int} (h : OwnL w base v l) : NumsAt w v l := by
  rcases Nat.eq_zero_or_pos l.length with h0 | h0
  · obtain rfl := List.eq_nil_of_length_eq_zero h0
    rcases h.2 with ⟨rfl, _⟩ | ⟨g, cap, cur, rfl, _⟩
    · exact ⟨_, _, rfl, .inl rfl⟩
    · exact ⟨_, _, rfl, .inl rfl⟩
  · obtain ⟨A, c, e, hr⟩ := AtHand.row (N := base) (.inr ⟨h0, h⟩)
    exact ⟨A, c, e, hr⟩
theorem RowAt.num {w : World} {A : Option Addr} {l : List Int} (h : RowAt w A (numL l)) {i : Nat} {x : Int} (hi : l[i]? = some x) : ∃ b o, A = some ⟨b, o, none⟩ ∧ b < w.heap.size ∧ w.cell? ⟨b, o + i, none⟩ = some (.int .i64 x) := by
  rcases h with h | ⟨b, o, rfl, hlt, hc⟩
  · have : l = [] := List.map_eq_nil_iff.1 h
    rw [this] at hi
    simp at hi
  · exact ⟨b, o, rfl, hlt, hc i _ (by unfold numL; rw [List.getElem?_map, hi]; rfl)⟩
/-- 'append(out, x)' -/
theorem wpList_snoc (w : World) {ops : Array Oper} {rest : List Oper} {o : Oper} {a : Act} {Q : Exit → Act → World → Prop} (hg : o.guard = none) (s x : Operand) (hop : o.op = Op.call { callee := Callee.builtin Builtin.append, args := #[s, x], argTypes := #[34, 34] })
    (base : Nat) (v : Value) (l : List Int) (hs : a.eval s = v) (hown : OwnL w base v l) (b : Nat) (y : Int) (hx : a.eval x = .slice (some ⟨b, 0, none⟩) 1 1) (hc : w.cell? ⟨b, 0, none⟩ = some (.int .i64 y)) (hlen : l.length ≤ 1000) (hbase : base ≤ w.heap.size)
    (h : ∀ v' w', OwnL w' base v' (l ++ [y]) → (∀ b0 W, b0 ≤ base → Below b0 W w → Below b0 W w') → wpList Tryz.prog ops Q rest (a.put o.dst v') w') : wpList Tryz.prog ops Q (o :: rest) a w := by
  obtain ⟨i0, hi, iz0, iz1, iz2⟩ := info_parts infoInt
  refine wpList_append_own w hg s x 34 hop base 3 i0 (.int .i64 0) 1 8 Tryz.underlying34 hi iz0 iz1 iz2 rfl (by decide) v l.length (numL l) hs hown ⟨b, 0, none⟩ 1 1 [.int .i64 y] hx rfl (fun j u hj => ?_) (fun u hu => ?_) (by unfold maxLen; omega) (by omega) hbase fun v' w' h1 h2 _ => ?_
  · match j, hj with
    | 0, hj => simp at hj; subst hj; simpa [Addr.add] using hc
  · simp at hu; subst hu; rfl
  · refine h v' w' ?_ fun b0 W hb hB => hB.grown h2 (Nat.le_trans hb hbase) fun k hk => Nat.le_trans hb (hown.lt k hk).1
    show w'.ownsRow base 3 1 v' (l ++ [y]).length (numL (l ++ [y]))
    rw [List.length_append, show numL (l ++ [y]) = numL l ++ [.int .i64 y] from by simp [numL]]
    exact h1
/-- whether a world agrees with the first k facts -/
def Qt.agreesTo (t : Qt) (i k : Nat) : Bool := !anyB (fun j => !(t.world i).agrees (t.fact j)) k
theorem agreesTo_succ (t : Qt) (i k : Nat) : t.agreesTo i (k + 1) = (t.agreesTo i k && (t.world i).agrees (t.fact k)) := by
  unfold Qt.agreesTo
  simp only [anyB]
  cases anyB (fun j => !(t.world i).agrees (t.fact j)) k <;> cases (t.world i).agrees (t.fact k) <;> rfl
/-- what LeftOf hands back -/
def LeftOut (w : World) (base : Nat) (t : Qt) (e : Ending) : Prop := ∃ v, e = .returned v ∧ OwnL w base v t.leftL
set_option maxHeartbeats 4000000 in
set_option maxRecDepth 100000 in
theorem refLeftOf (Aw Af : Option Addr) (cw cf : Nat) (t : Qt) (w : World) (ok : t.Ok) (hT : QAt w Aw Af t) :
    Calls Tryz.prog 7 #[.agg #[.int .i64 t.wells, .slice Aw t.nw cw, .slice Af t.nf cf]] w fun e w' => LeftOut w' w.heap.size t e ∧ Below w.heap.size w w' := by
  have hb0 := bAlloc (Below.refl w.heap.size w) (.cells #[.int .i64 t.wells, .slice Aw t.nw cw, .slice Af t.nf cf] 25)
  have HT := Lib.hid (hT.mono hb0)
  have HB := Lib.hid hb0
  have HOK := Lib.hid ok
  have nw6 := ok.nw
  have nf6 := ok.nf
  clear hT hb0 ok
  go_enter Tryz.func7, Tryz.ntmps7
  go_wp2_with fail
  go_loopw [3, 4] (fun v i wr => ∃ k : Nat, i = .int .i64 k ∧ k ≤ t.nw ∧ OwnL wr (w.alloc (.cells #[.int .i64 t.wells, .slice Aw t.nw cw, .slice Af t.nf cf] 25)).heap.size v (t.leftTo k) ∧ Below (w.alloc (.cells #[.int .i64 t.wells, .slice Aw t.nw cw, .slice Af t.nf cf] 25)).heap.size (w.alloc (.cells #[.int .i64 t.wells, .slice Aw t.nw cw, .slice Af t.nf cf] 25)) wr) (fun _ i _ => t.nw - (intOf i).toNat)
  case atStart => exact ⟨0, rfl, Nat.zero_le _, OwnL.nil _ _, Below.refl _ _⟩
  case round =>
    obtain ⟨k, rfl, hk, hown, hbel⟩ := hrel
    have HO := Lib.hid hown
    have HL3 := Lib.hid hbel
    obtain ⟨bc3, bf3⟩ := bcell hbel
    have hz3 := hbel.size
    simp only [World.size_alloc] at hz3
    have hy3 : w.heap.size < wr.heap.size := hz3
    clear hbel hown
    by_cases hlt : k < t.nw
    · have k1 : (k : Int) < (t.nw : Int) := by omega
      have HK := Lib.hid hlt
      have HLEN := Lib.hid (show (t.leftTo k).length ≤ 1000 from by have := leftTo_len t k; omega)
      go_wp2_with fail
      obtain ⟨wo, hwo⟩ : ∃ wo, wo = wr := ⟨_, rfl⟩
      have HWO := Lib.hid hwo
      clear hwo
      go_loopw [5, 6] (fun s i wr => ∃ j : Nat, s = .bool (t.agreesTo k j) ∧ i = .int .i64 j ∧ j ≤ t.nf ∧ Below wo.heap.size wo wr) (fun _ i _ => t.nf - (intOf i).toNat)
      case atStart => exact ⟨0, rfl, rfl, Nat.zero_le _, by rw [HWO.out]; exact Below.refl _ _⟩
      case round =>
        obtain ⟨j, rfl, rfl, hj, hbel⟩ := hrel
        have HL4 := Lib.hid (bTrans HL3.out (HWO.out ▸ hbel))
        have HL4' := Lib.hid hbel
        obtain ⟨bc4, bf4⟩ := bcell HL4.out
        have hz4 := HL4.out.size
        simp only [World.size_alloc] at hz4
        have hy4 : w.heap.size < wr.heap.size := hz4
        clear hbel
        obtain ⟨bk, hbk⟩ : ∃ bk, t.agreesTo k j = bk := ⟨_, rfl⟩
        rw [hbk]
        have HBK := Lib.hid hbk
        clear hbk
        by_cases hjn : j < t.nf
        · rcases (HT.out.mono HL4.out).facts with h0 | ⟨b, o, hA, hb, hcell⟩
          · omega
          obtain ⟨c0, c1, c2, c3, c4⟩ := hcell j hjn
          have j1 : (j : Int) < (t.nf : Int) := by omega
          have HJ := Lib.hid hjn
          clear hcell
          subst hA
          cases bk
          · have HS := Lib.hid (show t.agreesTo k (j + 1) = false by rw [agreesTo_succ, HBK.out]; rfl)
            go_wp2_with fail
            refine wp_region_quiet_below (by kernel_rfl) (by kernel_rfl) ?_
            repeat (go_big_quiet_step ((fail)))
            refine wpQuiet_nil ?_
            intro w9 hw9
            have HL9 := Lib.hid (bTrans HL4'.out (below_of_regrown hw9))
            clear hw9 c0 c1 c2 c3 c4
            go_wp2_with fail
            go_roundw
            case rel =>
              first
              | exact ⟨j + 1, by rw [HS.out], by go_num, by omega, HL9.out⟩
              | ((repeat apply Exists.intro)
                 refine ⟨⟨j + 1, by rw [HS.out], ?_, by omega, HL9.out⟩, rfl⟩
                 go_num)
            case measure => simp [intOf]; omega
          · obtain ⟨ba, hba⟩ : ∃ ba, (t.world k).agrees (t.fact j) = ba := ⟨_, rfl⟩
            have HS := Lib.hid (show t.agreesTo k (j + 1) = ba by rw [agreesTo_succ, HBK.out, hba]; rfl)
            have HCA := Lib.hid (fun (w' : World) (hb : Below wr.heap.size wr w') => (by
              have := agrees5_any Aw (some ⟨b, o, none⟩) cw cf t k (t.fact j) w' HOK.out HK.out (HOK.out.fact j HJ.out) ((HT.out.mono HL4.out).mono hb)
              rw [hba] at this
              exact this : Calls Tryz.prog 22 #[.agg #[.int .i64 t.wells, .slice Aw t.nw cw, .slice (some ⟨b, o, none⟩) t.nf cf], .int .i64 k, .agg #[.int .i64 (t.fact j).from_, .int .i64 (t.fact j).many, .int .i64 (t.fact j).to_, .int .i64 (t.fact j).low, .int .i64 (t.fact j).high]] w' fun e w'' => e = .returned (.bool ba) ∧ Below w'.heap.size w' w''))
            clear hba
            go_wp2_with fail
            refine wp_region_quiet_below (by kernel_rfl) (by kernel_rfl) ?_
            repeat (go_big_quiet_step ((go_at_call 22; exact Calls.regrown_of (HCA.out _ (below_regrown _ _ _)))))
            refine wpQuiet_nil ?_
            intro w9 hw9
            have HL9 := Lib.hid (bTrans HL4'.out (below_of_regrown hw9))
            clear hw9 c0 c1 c2 c3 c4
            go_wp2_with fail
            go_roundw
            case rel =>
              first
              | exact ⟨j + 1, by rw [HS.out], by go_num, by omega, HL9.out⟩
              | ((repeat apply Exists.intro)
                 refine ⟨⟨j + 1, by rw [HS.out], ?_, by omega, HL9.out⟩, rfl⟩
                 go_num)
            case measure => simp [intOf]; omega
        · obtain rfl : j = t.nf := by omega
          have HO4 := Lib.hid (HO.out.mono (HWO.out ▸ HL4'.out))
          have HBL := Lib.hid (show t.leftB k = bk from HBK.out)
          cases bk
          · have HS := Lib.hid (show t.leftTo (k + 1) = t.leftTo k by
              show (if t.leftB k then t.leftTo k ++ [(k : Int)] else t.leftTo k) = _
              rw [if_neg (by rw [HBL.out]; decide)])
            go_wp2_with fail
            go_roundw
            case rel =>
              first
              | exact ⟨k + 1, by go_num, by omega, by rw [HS.out]; exact HO4.out, HL4.out⟩
              | ((repeat apply Exists.intro)
                 refine ⟨⟨k + 1, ?_, by omega, by rw [HS.out]; exact HO4.out, HL4.out⟩, rfl⟩
                 go_num)
            case measure => simp [intOf]; omega
          · have HS := Lib.hid (show t.leftTo (k + 1) = t.leftTo k ++ [(k : Int)] by
              show (if t.leftB k then _ else _) = _
              rw [if_pos HBL.out])
            go_wp2_with (at_builtin; refine wpList_snoc _ rfl (Operand.tmp 33) (Operand.tmp 35) rfl (w.heap.size + 1) _ (t.leftTo k) rfl ?q1 wr.heap.size k rfl ?q2 HLEN.out ?q3 ?_)
            case q1 =>
              have h := HO4.out
              simp only [World.size_alloc] at h
              exact h.mono (bAlloc (Below.refl _ _) _)
            case q2 => simp [go_sem]
            case q3 => simp; omega
            intro v' w5 hown5 hb5
            have HO5 := Lib.hid hown5
            have HL5 := Lib.hid (hb5 (w.heap.size + 1) _ (Nat.le_refl _) (show Below (w.heap.size + 1) (w.alloc (.cells #[.int .i64 t.wells, .slice Aw t.nw cw, .slice Af t.nf cf] 25)) _ by have := bAlloc HL4.out (.cells #[.int .i64 k] 3); simpa using this))
            clear hown5 hb5
            go_wp2_with fail
            go_roundw
            case rel =>
              have h1 := HO5.out
              have h2 := HL5.out
              first
              | exact ⟨k + 1, by go_num, by omega, by rw [HS.out]; simpa using h1, by simpa using h2⟩
              | ((repeat apply Exists.intro)
                 refine ⟨⟨k + 1, ?_, by omega, by rw [HS.out]; simpa using h1, by simpa using h2⟩, rfl⟩
                 go_num)
            case measure => simp [intOf]; omega
    · obtain rfl : k = t.nw := by omega
      go_wp2_with fail
      go_ret
      exact ⟨⟨_, rfl, HO.out.lower (by simp)⟩, bTrans HB.out HL3.out⟩
end Go.Proofs.YtifkjnmnflhnoaaGreatDoor

namespace Go.Proofs.YtifkjnmnflhnoaaGreatDoor
open Go.RowKit Go.Sort
theorem askErr_ok {t : Qt} (h : t.Ok) (is : Bool) : t.askErr is = if is then 0 else 1 := by unfold Qt.askErr; rw [Qt.err_ok h]; rfl
theorem askErr_bad {t : Qt} (h : ¬ t.Ok) (is : Bool) : t.askErr is = 50 := by unfold Qt.askErr; rw [Qt.err_bad h]; rfl
theorem askErr_zero {t : Qt} {is : Bool} (h : t.askErr is = 0) : t.Ok ∧ is = true := by
  by_cases ok : t.Ok
  · rw [askErr_ok ok] at h
    cases is
    · cases h
    · exact ⟨ok, rfl⟩
  · rw [askErr_bad ok] at h
    cases h
/-- what known says -/
noncomputable def Qt.knowErr (t : Qt) (is : Bool) : Int := if t.askErr is = 0 then (if t.leftL = [] then 3 else 0) else t.askErr is
theorem knowErr_zero {t : Qt} {is : Bool} (h : t.knowErr is = 0) : t.Ok ∧ is = true ∧ t.leftL ≠ [] := by
  unfold Qt.knowErr at h
  split at h
  · rename_i h1
    obtain ⟨a, b⟩ := askErr_zero h1
    split at h
    · cases h
    · rename_i h2
      exact ⟨a, b, h2⟩
  · rename_i h1
    exact absurd h h1
theorem knowErr_none {t : Qt} (ok : t.Ok) (h : t.leftL = []) : t.knowErr true = 3 := by unfold Qt.knowErr; rw [askErr_ok ok]; simp [h]
theorem knowErr_ok {t : Qt} (ok : t.Ok) (h : t.leftL ≠ []) : t.knowErr true = 0 := by unfold Qt.knowErr; rw [askErr_ok ok]; simp [h]
/-- a fall in a world -/
def Qt.fallAt (t : Qt) (i : Nat) (p q : Int) : Int := (t.world i).fall p.toNat q.toNat
theorem fallAt_bd {t : Qt} (ok : t.Ok) {i : Nat} (hi : i < t.nw) {p q : Int} (p0 : 0 ≤ p) (p1 : p < t.wells) (q0 : 0 ≤ q) (q1 : q < t.wells) : 0 ≤ t.fallAt i p q ∧ t.fallAt i p q ≤ 9 := by
  have hw := ok.world i hi
  have hk : p.toNat < (t.world i).n := by have := hw.n; omega
  have hl := hw.len _ hk
  exact hw.fall _ hk _ (by omega)
end Go.Proofs.YtifkjnmnflhnoaaGreatDoor

namespace Go.Proofs.YtifkjnmnflhnoaaGreatDoor
open Go.RowKit Go.Sort
/-- whether a number is that of a well, as Go reckons it -/
def Qt.wellB (t : Qt) (n : Int) : Bool := inR n 0 (IntKind.i64.wrap (t.wells - 1))
theorem wellB_ok {t : Qt} (ok : t.Ok) (n : Int) : t.wellB n = inR n 0 (t.wells - 1) := by
  have h0 := ok.w0
  have h1 := ok.w1
  unfold Qt.wellB
  rw [show IntKind.i64.wrap (t.wells - 1) = t.wells - 1 from IntWalk.i64_in _ (by omega)]
theorem isWell5_any (Aw Af : Option Addr) (cw cf : Nat) (t : Qt) (n : Int) (w : World) :
    Calls Tryz.prog 8 #[.agg #[.int .i64 t.wells, .slice Aw t.nw cw, .slice Af t.nf cf], .int .i64 n] w fun e w' => e = .returned (.bool (t.wellB n)) ∧ Below w.heap.size w w' := by
  obtain ⟨m, hm⟩ : ∃ m, IntKind.i64.wrap (t.wells - 1) = m := ⟨_, rfl⟩
  have H := Lib.hid (show inR n 0 m = t.wellB n by unfold Qt.wellB; rw [hm])
  go_enter Tryz.func8, Tryz.ntmps8
  go_wp2_with fail
  refine (within5_b _ _ _ _ _ H.out).mono ?_
  rintro e w' ⟨rfl, rfl⟩
  go_wp2_with fail
  go_ret
  exact ⟨rfl, bAlloc (Below.refl _ _) _⟩
/-- the numbers below n of which something is so -/
def selTo (p : Nat → Bool) : Nat → List Int
  | 0 => []
  | n + 1 => if p n then selTo p n ++ [(n : Int)] else selTo p n
theorem selTo_len (p : Nat → Bool) : ∀ n, (selTo p n).length ≤ n
  | 0 => Nat.le_refl _
  | n + 1 => by
    have := selTo_len p n
    unfold selTo
    split
    · rw [List.length_append]; simp; omega
    · omega
end Go.Proofs.YtifkjnmnflhnoaaGreatDoor

namespace Go.Proofs.YtifkjnmnflhnoaaGreatDoor
open Go.RowKit Go.Sort
/-- a function of the program that has a body is entered -/
def Enters (f : Nat) : Prop := ∀ (args : Array Value) (w : World), (callFunc f args).run Tryz.prog w = .ok (.enter f args) w
theorem enters_of {f : Nat} {fn : Func} (hf : Tryz.prog.funcs[f]? = some fn) (hb : (fn.name == "runtime.NumGoroutine" || fn.body.isNone) = false) : Enters f := fun args w => by
  obtain ⟨h1, h2⟩ := Bool.or_eq_false_iff.1 hb
  have h1' : ¬ fn.name = "runtime.NumGoroutine" := by simpa using h1
  have h2' : ¬ fn.body = none := by intro h; rw [h] at h2; cases h2
  simp only [callFunc, Sem.run_bind]
  simp [go_sem, hf]
  rw [if_neg h1', if_neg h2']
/-- what slices.IndexFunc returns says whether one was found -/
def Found (b : Bool) (w : World) (e : Ending) (w' : World) : Prop := ∃ k : Int, e = .returned (.int .i64 k) ∧ decide (0 ≤ k) = b ∧ Below w.heap.size w w'
set_option maxHeartbeats 2000000 in
set_option maxRecDepth 100000 in
theorem index_int (A : Option Addr) (n c f : Nat) (cs : Array Value) (g : Nat → Int) (p : Nat → Bool) (w : World) (hn : n ≤ 9223372036854775807) (hr : IntsAt w A n g) (hcf : Enters f)
    (hf : ∀ i, i < n → ∀ w', Below w.heap.size w w' → Calls Tryz.prog f (#[.int .i64 (g i)] ++ cs) w' fun e w'' => e = .returned (.bool (p i)) ∧ Below w'.heap.size w' w'') :
    Calls Tryz.prog 102 #[.slice A n c, .func (.func f) #[] cs] w (Found (anyB p n) w) := by
  have HC := Lib.hid hr
  have HF := Lib.hid hf
  unfold Enters at hcf
  clear hr hf
  go_enter Tryz.func102, Tryz.ntmps102
  go_wp2_with fail
  go_loopw [5, 8] (fun _ i wr => ∃ k : Nat, k ≤ n ∧ i = .int .i64 k ∧ anyB p k = false ∧ Below w.heap.size w wr) (fun _ i _ => n - (intOf i).toNat)
  case atStart => exact ⟨0, Nat.zero_le _, rfl, rfl, Below.refl _ _⟩
  case round =>
    obtain ⟨k, hk, rfl, hno, hbel⟩ := hrel
    have HN := Lib.hid hno
    have HL := Lib.hid hbel
    clear hno
    by_cases hlt : k < n
    · rcases HC.out with h0 | ⟨b, o, hA, hb, hcell⟩
      · omega
      have c0 := hcell k hlt
      have HK := Lib.hid hlt
      obtain ⟨bk, hbk⟩ : ∃ bk, p k = bk := ⟨_, rfl⟩
      have HCC := Lib.hid (hbk ▸ HF.out k HK.out _ hbel : Calls Tryz.prog f (#[.int .i64 (g k)] ++ cs) wr fun e w'' => e = .returned (.bool bk) ∧ Below wr.heap.size wr w'')
      have HBK := Lib.hid hbk
      clear hbk hcell
      subst hA
      obtain ⟨bc, bf⟩ := bcell hbel
      go_wp2_with fail
      refine HCC.out.mono ?_
      rintro e w4 ⟨rfl, hb4⟩
      have HL4 := Lib.hid (bTrans HL.out hb4)
      clear hb4 hbel
      cases bk
      · go_wp2_with fail
        go_roundw
        case rel => exact ⟨k + 1, by omega, by go_num, anyB_step HN.out HBK.out, HL4.out⟩
        case measure => simp [intOf]; omega
      · go_wp2_with fail
        go_ret
        exact ⟨k, rfl, by rw [anyB_hit HK.out HBK.out]; simp, HL4.out⟩
    · obtain rfl : k = n := by omega
      go_wp2_with fail
      go_ret
      exact ⟨-1, rfl, by simp [HN.out], hbel⟩
theorem contains_int (A : Option Addr) (n c f : Nat) (cs : Array Value) (g : Nat → Int) (p : Nat → Bool) (w : World) (hn : n ≤ 9223372036854775807) (hr : IntsAt w A n g) (hcf : Enters f)
    (hf : ∀ i, i < n → ∀ w', Below w.heap.size w w' → Calls Tryz.prog f (#[.int .i64 (g i)] ++ cs) w' fun e w'' => e = .returned (.bool (p i)) ∧ Below w'.heap.size w' w'') :
    Calls Tryz.prog 97 #[.slice A n c, .func (.func f) #[] cs] w fun e w' => e = .returned (.bool (anyB p n)) ∧ Below w.heap.size w w' := by
  go_enter Tryz.func97, Tryz.ntmps97
  go_wp2_with (go_at_call 102; refine (index_int A n c f cs g p _ hn hr hcf hf).mono ?_; rintro e w' ⟨k, rfl, hk, hb⟩; have HK := Lib.hid hk; clear hk)
  all_goals
    go_ret
    exact ⟨ret_bool (by rw [← HK.out]), hb⟩
theorem none_int (A : Option Addr) (n c f : Nat) (cs : Array Value) (g : Nat → Int) (p : Nat → Bool) (w : World) (hn : n ≤ 9223372036854775807) (hr : IntsAt w A n g) (hcf : Enters f)
    (hf : ∀ i, i < n → ∀ w', Below w.heap.size w w' → Calls Tryz.prog f (#[.int .i64 (g i)] ++ cs) w' fun e w'' => e = .returned (.bool (p i)) ∧ Below w'.heap.size w' w'') :
    Calls Tryz.prog 84 #[.slice A n c, .func (.func f) #[] cs] w fun e w' => e = .returned (.bool (!anyB p n)) ∧ Below w.heap.size w w' := by
  go_enter Tryz.func84, Tryz.ntmps84
  go_wp2_with (go_at_call 97; refine (contains_int A n c f cs g p _ hn hr hcf hf).mono ?_; rintro e w' ⟨rfl, hb⟩)
  go_ret
  exact ⟨rfl, hb⟩
set_option maxHeartbeats 2000000 in
set_option maxRecDepth 100000 in
theorem index_row (A : Option Addr) (c f : Nat) (cs : Array Value) (x : Wd) (p : Nat → Bool) (w : World) (hn : x.n ≤ 9223372036854775807) (hr : RowsAt w A x) (hcf : Enters f)
    (hf : ∀ i, i < x.n → ∀ w', Below w.heap.size w w' → ∀ (A' : Option Addr) (c' : Nat), IntsAt w' A' (x.len i) (x.fall i) → Calls Tryz.prog f (#[.slice A' (x.len i) c'] ++ cs) w' fun e w'' => e = .returned (.bool (p i)) ∧ Below w'.heap.size w' w'') :
    Calls Tryz.prog 103 #[.slice A x.n c, .func (.func f) #[] cs] w (Found (anyB p x.n) w) := by
  have HC := Lib.hid hr
  have HF := Lib.hid hf
  unfold Enters at hcf
  clear hr hf
  go_enter Tryz.func103, Tryz.ntmps103
  go_wp2_with fail
  go_loopw [5, 8] (fun _ i wr => ∃ k : Nat, k ≤ x.n ∧ i = .int .i64 k ∧ anyB p k = false ∧ Below w.heap.size w wr) (fun _ i _ => x.n - (intOf i).toNat)
  case atStart => exact ⟨0, Nat.zero_le _, rfl, rfl, Below.refl _ _⟩
  case round =>
    obtain ⟨k, hk, rfl, hno, hbel⟩ := hrel
    have HN := Lib.hid hno
    have HL := Lib.hid hbel
    clear hno
    by_cases hlt : k < x.n
    · rcases HC.out with h0 | ⟨b, o, hA, hb, hcell⟩
      · omega
      obtain ⟨A', c', c0, hrow, _⟩ := hcell k hlt
      have HK := Lib.hid hlt
      obtain ⟨bk, hbk⟩ : ∃ bk, p k = bk := ⟨_, rfl⟩
      have HCC := Lib.hid (hbk ▸ HF.out k HK.out _ hbel A' c' (hrow.mono hbel) : Calls Tryz.prog f (#[.slice A' (x.len k) c'] ++ cs) wr fun e w'' => e = .returned (.bool bk) ∧ Below wr.heap.size wr w'')
      have HBK := Lib.hid hbk
      clear hbk hcell hrow
      subst hA
      obtain ⟨bc, bf⟩ := bcell hbel
      go_wp2_with fail
      refine HCC.out.mono ?_
      rintro e w4 ⟨rfl, hb4⟩
      have HL4 := Lib.hid (bTrans HL.out hb4)
      clear hb4 hbel
      cases bk
      · go_wp2_with fail
        go_roundw
        case rel => exact ⟨k + 1, by omega, by go_num, anyB_step HN.out HBK.out, HL4.out⟩
        case measure => simp [intOf]; omega
      · go_wp2_with fail
        go_ret
        exact ⟨k, rfl, by rw [anyB_hit HK.out HBK.out]; simp, HL4.out⟩
    · obtain rfl : x.n = k := by omega
      go_wp2_with fail
      go_ret
      exact ⟨-1, rfl, by simp [HN.out], hbel⟩
theorem contains_row (A : Option Addr) (c f : Nat) (cs : Array Value) (x : Wd) (p : Nat → Bool) (w : World) (hn : x.n ≤ 9223372036854775807) (hr : RowsAt w A x) (hcf : Enters f)
    (hf : ∀ i, i < x.n → ∀ w', Below w.heap.size w w' → ∀ (A' : Option Addr) (c' : Nat), IntsAt w' A' (x.len i) (x.fall i) → Calls Tryz.prog f (#[.slice A' (x.len i) c'] ++ cs) w' fun e w'' => e = .returned (.bool (p i)) ∧ Below w'.heap.size w' w'') :
    Calls Tryz.prog 98 #[.slice A x.n c, .func (.func f) #[] cs] w fun e w' => e = .returned (.bool (anyB p x.n)) ∧ Below w.heap.size w w' := by
  go_enter Tryz.func98, Tryz.ntmps98
  go_wp2_with (go_at_call 103; refine (index_row A c f cs x p _ hn hr hcf hf).mono ?_; rintro e w' ⟨k, rfl, hk, hb⟩; have HK := Lib.hid hk; clear hk)
  all_goals
    go_ret
    exact ⟨ret_bool (by rw [← HK.out]), hb⟩
theorem none_row (A : Option Addr) (c f : Nat) (cs : Array Value) (x : Wd) (p : Nat → Bool) (w : World) (hn : x.n ≤ 9223372036854775807) (hr : RowsAt w A x) (hcf : Enters f)
    (hf : ∀ i, i < x.n → ∀ w', Below w.heap.size w w' → ∀ (A' : Option Addr) (c' : Nat), IntsAt w' A' (x.len i) (x.fall i) → Calls Tryz.prog f (#[.slice A' (x.len i) c'] ++ cs) w' fun e w'' => e = .returned (.bool (p i)) ∧ Below w'.heap.size w' w'') :
    Calls Tryz.prog 87 #[.slice A x.n c, .func (.func f) #[] cs] w fun e w' => e = .returned (.bool (!anyB p x.n)) ∧ Below w.heap.size w w' := by
  go_enter Tryz.func87, Tryz.ntmps87
  go_wp2_with (go_at_call 98; refine (contains_row A c f cs x p _ hn hr hcf hf).mono ?_; rintro e w' ⟨rfl, hb⟩)
  go_ret
  exact ⟨rfl, hb⟩
set_option maxHeartbeats 2000000 in
set_option maxRecDepth 100000 in
theorem index_world (A : Option Addr) (n c f : Nat) (cs : Array Value) (g : Nat → Wd) (p : Nat → Bool) (w : World) (hn : n ≤ 9223372036854775807) (hr : WorldsAt w A n g) (hcf : Enters f)
    (hf : ∀ i, i < n → ∀ w', Below w.heap.size w w' → ∀ (A' : Option Addr) (c' : Nat), RowsAt w' A' (g i) → (g i).n ≤ 9223372036854775807 → Calls Tryz.prog f (#[.agg #[.slice A' (g i).n c']] ++ cs) w' fun e w'' => e = .returned (.bool (p i)) ∧ Below w'.heap.size w' w'') :
    Calls Tryz.prog 104 #[.slice A n c, .func (.func f) #[] cs] w (Found (anyB p n) w) := by
  have HC := Lib.hid hr
  have HF := Lib.hid hf
  unfold Enters at hcf
  clear hr hf
  go_enter Tryz.func104, Tryz.ntmps104
  go_wp2_with fail
  go_loopw [5, 8] (fun _ i wr => ∃ k : Nat, k ≤ n ∧ i = .int .i64 k ∧ anyB p k = false ∧ Below w.heap.size w wr) (fun _ i _ => n - (intOf i).toNat)
  case atStart => exact ⟨0, Nat.zero_le _, rfl, rfl, Below.refl _ _⟩
  case round =>
    obtain ⟨k, hk, rfl, hno, hbel⟩ := hrel
    have HN := Lib.hid hno
    have HL := Lib.hid hbel
    clear hno
    by_cases hlt : k < n
    · rcases HC.out with h0 | ⟨b, o, hA, hb, hcell⟩
      · omega
      obtain ⟨A', c', c0, hrow, hlen⟩ := hcell k hlt
      have HK := Lib.hid hlt
      obtain ⟨bk, hbk⟩ : ∃ bk, p k = bk := ⟨_, rfl⟩
      have HCC := Lib.hid (hbk ▸ HF.out k HK.out _ hbel A' c' (hrow.mono hbel) (hlen) : Calls Tryz.prog f (#[.agg #[.slice A' (g k).n c']] ++ cs) wr fun e w'' => e = .returned (.bool bk) ∧ Below wr.heap.size wr w'')
      have HBK := Lib.hid hbk
      clear hbk hcell hrow hlen
      subst hA
      obtain ⟨bc, bf⟩ := bcell hbel
      go_wp2_with fail
      refine HCC.out.mono ?_
      rintro e w4 ⟨rfl, hb4⟩
      have HL4 := Lib.hid (bTrans HL.out hb4)
      clear hb4 hbel
      cases bk
      · go_wp2_with fail
        go_roundw
        case rel => exact ⟨k + 1, by omega, by go_num, anyB_step HN.out HBK.out, HL4.out⟩
        case measure => simp [intOf]; omega
      · go_wp2_with fail
        go_ret
        exact ⟨k, rfl, by rw [anyB_hit HK.out HBK.out]; simp, HL4.out⟩
    · obtain rfl : k = n := by omega
      go_wp2_with fail
      go_ret
      exact ⟨-1, rfl, by simp [HN.out], hbel⟩
theorem contains_world (A : Option Addr) (n c f : Nat) (cs : Array Value) (g : Nat → Wd) (p : Nat → Bool) (w : World) (hn : n ≤ 9223372036854775807) (hr : WorldsAt w A n g) (hcf : Enters f)
    (hf : ∀ i, i < n → ∀ w', Below w.heap.size w w' → ∀ (A' : Option Addr) (c' : Nat), RowsAt w' A' (g i) → (g i).n ≤ 9223372036854775807 → Calls Tryz.prog f (#[.agg #[.slice A' (g i).n c']] ++ cs) w' fun e w'' => e = .returned (.bool (p i)) ∧ Below w'.heap.size w' w'') :
    Calls Tryz.prog 99 #[.slice A n c, .func (.func f) #[] cs] w fun e w' => e = .returned (.bool (anyB p n)) ∧ Below w.heap.size w w' := by
  go_enter Tryz.func99, Tryz.ntmps99
  go_wp2_with (go_at_call 104; refine (index_world A n c f cs g p _ hn hr hcf hf).mono ?_; rintro e w' ⟨k, rfl, hk, hb⟩; have HK := Lib.hid hk; clear hk)
  all_goals
    go_ret
    exact ⟨ret_bool (by rw [← HK.out]), hb⟩
theorem none_world (A : Option Addr) (n c f : Nat) (cs : Array Value) (g : Nat → Wd) (p : Nat → Bool) (w : World) (hn : n ≤ 9223372036854775807) (hr : WorldsAt w A n g) (hcf : Enters f)
    (hf : ∀ i, i < n → ∀ w', Below w.heap.size w w' → ∀ (A' : Option Addr) (c' : Nat), RowsAt w' A' (g i) → (g i).n ≤ 9223372036854775807 → Calls Tryz.prog f (#[.agg #[.slice A' (g i).n c']] ++ cs) w' fun e w'' => e = .returned (.bool (p i)) ∧ Below w'.heap.size w' w'') :
    Calls Tryz.prog 89 #[.slice A n c, .func (.func f) #[] cs] w fun e w' => e = .returned (.bool (!anyB p n)) ∧ Below w.heap.size w w' := by
  go_enter Tryz.func89, Tryz.ntmps89
  go_wp2_with (go_at_call 99; refine (contains_world A n c f cs g p _ hn hr hcf hf).mono ?_; rintro e w' ⟨rfl, hb⟩)
  go_ret
  exact ⟨rfl, hb⟩
set_option maxHeartbeats 2000000 in
set_option maxRecDepth 100000 in
theorem index_fact (A : Option Addr) (n c f : Nat) (cs : Array Value) (g : Nat → Fact) (p : Nat → Bool) (w : World) (hn : n ≤ 9223372036854775807) (hr : FactsAt w A n g) (hcf : Enters f)
    (hf : ∀ i, i < n → ∀ w', Below w.heap.size w w' → Calls Tryz.prog f (#[.agg #[.int .i64 (g i).from_, .int .i64 (g i).many, .int .i64 (g i).to_, .int .i64 (g i).low, .int .i64 (g i).high]] ++ cs) w' fun e w'' => e = .returned (.bool (p i)) ∧ Below w'.heap.size w' w'') :
    Calls Tryz.prog 100 #[.slice A n c, .func (.func f) #[] cs] w (Found (anyB p n) w) := by
  have HC := Lib.hid hr
  have HF := Lib.hid hf
  unfold Enters at hcf
  clear hr hf
  go_enter Tryz.func100, Tryz.ntmps100
  go_wp2_with fail
  go_loopw [5, 8] (fun _ i wr => ∃ k : Nat, k ≤ n ∧ i = .int .i64 k ∧ anyB p k = false ∧ Below w.heap.size w wr) (fun _ i _ => n - (intOf i).toNat)
  case atStart => exact ⟨0, Nat.zero_le _, rfl, rfl, Below.refl _ _⟩
  case round =>
    obtain ⟨k, hk, rfl, hno, hbel⟩ := hrel
    have HN := Lib.hid hno
    have HL := Lib.hid hbel
    clear hno
    by_cases hlt : k < n
    · rcases HC.out with h0 | ⟨b, o, hA, hb, hcell⟩
      · omega
      obtain ⟨c0, c1, c2, c3, c4⟩ := hcell k hlt
      have HK := Lib.hid hlt
      obtain ⟨bk, hbk⟩ : ∃ bk, p k = bk := ⟨_, rfl⟩
      have HCC := Lib.hid (hbk ▸ HF.out k HK.out _ hbel : Calls Tryz.prog f (#[.agg #[.int .i64 (g k).from_, .int .i64 (g k).many, .int .i64 (g k).to_, .int .i64 (g k).low, .int .i64 (g k).high]] ++ cs) wr fun e w'' => e = .returned (.bool bk) ∧ Below wr.heap.size wr w'')
      have HBK := Lib.hid hbk
      clear hbk hcell
      subst hA
      obtain ⟨bc, bf⟩ := bcell hbel
      go_wp2_with fail
      refine HCC.out.mono ?_
      rintro e w4 ⟨rfl, hb4⟩
      have HL4 := Lib.hid (bTrans HL.out hb4)
      clear hb4 hbel
      cases bk
      · go_wp2_with fail
        go_roundw
        case rel => exact ⟨k + 1, by omega, by go_num, anyB_step HN.out HBK.out, HL4.out⟩
        case measure => simp [intOf]; omega
      · go_wp2_with fail
        go_ret
        exact ⟨k, rfl, by rw [anyB_hit HK.out HBK.out]; simp, HL4.out⟩
    · obtain rfl : k = n := by omega
      go_wp2_with fail
      go_ret
      exact ⟨-1, rfl, by simp [HN.out], hbel⟩
theorem contains_fact (A : Option Addr) (n c f : Nat) (cs : Array Value) (g : Nat → Fact) (p : Nat → Bool) (w : World) (hn : n ≤ 9223372036854775807) (hr : FactsAt w A n g) (hcf : Enters f)
    (hf : ∀ i, i < n → ∀ w', Below w.heap.size w w' → Calls Tryz.prog f (#[.agg #[.int .i64 (g i).from_, .int .i64 (g i).many, .int .i64 (g i).to_, .int .i64 (g i).low, .int .i64 (g i).high]] ++ cs) w' fun e w'' => e = .returned (.bool (p i)) ∧ Below w'.heap.size w' w'') :
    Calls Tryz.prog 90 #[.slice A n c, .func (.func f) #[] cs] w fun e w' => e = .returned (.bool (anyB p n)) ∧ Below w.heap.size w w' := by
  go_enter Tryz.func90, Tryz.ntmps90
  go_wp2_with (go_at_call 100; refine (index_fact A n c f cs g p _ hn hr hcf hf).mono ?_; rintro e w' ⟨k, rfl, hk, hb⟩; have HK := Lib.hid hk; clear hk)
  all_goals
    go_ret
    exact ⟨ret_bool (by rw [← HK.out]), hb⟩
theorem none_fact (A : Option Addr) (n c f : Nat) (cs : Array Value) (g : Nat → Fact) (p : Nat → Bool) (w : World) (hn : n ≤ 9223372036854775807) (hr : FactsAt w A n g) (hcf : Enters f)
    (hf : ∀ i, i < n → ∀ w', Below w.heap.size w w' → Calls Tryz.prog f (#[.agg #[.int .i64 (g i).from_, .int .i64 (g i).many, .int .i64 (g i).to_, .int .i64 (g i).low, .int .i64 (g i).high]] ++ cs) w' fun e w'' => e = .returned (.bool (p i)) ∧ Below w'.heap.size w' w'') :
    Calls Tryz.prog 68 #[.slice A n c, .func (.func f) #[] cs] w fun e w' => e = .returned (.bool (!anyB p n)) ∧ Below w.heap.size w w' := by
  go_enter Tryz.func68, Tryz.ntmps68
  go_wp2_with (go_at_call 90; refine (contains_fact A n c f cs g p _ hn hr hcf hf).mono ?_; rintro e w' ⟨rfl, hb⟩)
  go_ret
  exact ⟨rfl, hb⟩
end Go.Proofs.YtifkjnmnflhnoaaGreatDoor

namespace Go.Proofs.YtifkjnmnflhnoaaGreatDoor
open Go.RowKit Go.Sort
theorem withinQ_b (n lo hi : Int) (b : Bool) (w : World) (h : inR n lo hi = b) : Calls Tryz.prog 49 #[.int .i64 n, .int .i64 lo, .int .i64 hi] w fun e w' => e = .returned (.bool b) ∧ w = w' := by
  have H := Lib.hid h
  clear h
  go_enter Tryz.func49, Tryz.ntmps49
  go_wp2
  all_goals
    go_ret
    exact ⟨ret_bool (by rw [← H.out]; unfold inR; simp; omega), rfl⟩
theorem isWellQ_any (Aw Af : Option Addr) (cw cf : Nat) (t : Qt) (n : Int) (w : World) :
    Calls Tryz.prog 29 #[.agg #[.int .i64 t.wells, .slice Aw t.nw cw, .slice Af t.nf cf], .int .i64 n] w fun e w' => e = .returned (.bool (t.wellB n)) ∧ Below w.heap.size w w' := by
  obtain ⟨m, hm⟩ : ∃ m, IntKind.i64.wrap (t.wells - 1) = m := ⟨_, rfl⟩
  have H := Lib.hid (show inR n 0 m = t.wellB n by unfold Qt.wellB; rw [hm])
  go_enter Tryz.func29, Tryz.ntmps29
  go_wp2_with fail
  refine (withinQ_b _ _ _ _ _ H.out).mono ?_
  rintro e w' ⟨rfl, rfl⟩
  go_wp2_with fail
  go_ret
  exact ⟨rfl, bAlloc (Below.refl _ _) _⟩
theorem check11_any (n : Int) (w : World) : Calls Tryz.prog 85 #[.int .i64 n] w fun e w' => e = .returned (.bool (!inR n 0 9)) ∧ Below w.heap.size w w' := by
  go_enter Tryz.func85, Tryz.ntmps85
  go_wp2_with fail
  refine (withinQ_b _ _ _ _ _ rfl).mono ?_
  rintro e w' ⟨rfl, rfl⟩
  go_wp2_with fail
  go_ret
  exact ⟨rfl, Below.refl _ _⟩
/-- whether a row is none of a town with so many wells -/
def rowBad (m : Int) (n : Nat) (g : Nat → Int) : Bool := !decide ((n : Int) = m) || anyB (fun j => !inR (g j) 0 9) n
theorem check1_any (A : Option Addr) (n c a : Nat) (g : Nat → Int) (m : Int) (w : World) (hn : n ≤ 9223372036854775807) (hr : IntsAt w A n g) (ha : a < w.heap.size) (hc : w.cell? ⟨a, 0, none⟩ = some (.int .i64 m)) :
    Calls Tryz.prog 83 #[.slice A n c, .pointer (some ⟨a, 0, none⟩)] w fun e w' => e = .returned (.bool (rowBad m n g)) ∧ Below w.heap.size w w' := by
  have HR := Lib.hid hr
  clear hr
  by_cases hnm : (n : Int) = m
  · have g1 : ((n : Int) != m) = false := by rw [hnm]; simp
    have HE := Lib.hid (show rowBad m n g = anyB (fun j => !inR (g j) 0 9) n by unfold rowBad; simp [hnm])
    clear hnm
    obtain ⟨bk, hbk⟩ : ∃ bk, anyB (fun j => !inR (g j) 0 9) n = bk := ⟨_, rfl⟩
    have HC := Lib.hid (hbk ▸ none_int A n c 85 #[] g (fun j => !inR (g j) 0 9) w hn HR.out (enters_of Tryz.func85 (by kernel_rfl)) (fun i _ w' _ => check11_any (g i) w') : Calls Tryz.prog 84 #[.slice A n c, .func (.func 85) #[] #[]] w fun e w' => e = .returned (.bool (!bk)) ∧ Below w.heap.size w w')
    have HBK := Lib.hid hbk
    clear hbk
    go_enter Tryz.func83, Tryz.ntmps83
    go_wp2_with fail
    refine HC.out.mono ?_
    rintro e w1 ⟨rfl, hb1⟩
    cases bk
    all_goals
      go_wp2_with fail
      go_ret
      exact ⟨by rw [HE.out, HBK.out]; rfl, hb1⟩
  · have g1 : ((n : Int) != m) = true := bne_iff_ne.2 hnm
    have HE := Lib.hid (show rowBad m n g = true by unfold rowBad; simp [hnm])
    clear hnm
    go_enter Tryz.func83, Tryz.ntmps83
    go_wp2_with fail
    go_ret
    exact ⟨by rw [HE.out]; rfl, Below.refl _ _⟩
/-- whether a world is none of a town with so many wells -/
def Wd.badB (m : Int) (x : Wd) : Bool := !decide ((x.n : Int) = m) || anyB (fun k => rowBad m (x.len k) (x.fall k)) x.n
theorem Wd.badB_iff (m : Int) (x : Wd) : x.badB m = false ↔ x.Ok m := by
  unfold Wd.badB rowBad
  simp only [Bool.or_eq_false_iff, Bool.not_eq_false', decide_eq_true_eq, anyB_false, inR_iff]
  exact ⟨fun ⟨a, b⟩ => ⟨a, fun k hk => (b k hk).1, fun k hk => (b k hk).2⟩, fun h => ⟨h.n, fun k hk => ⟨h.len k hk, h.fall k hk⟩⟩⟩
set_option maxHeartbeats 1000000 in
set_option maxRecDepth 100000 in
theorem check2_any (A : Option Addr) (c a r : Nat) (x : Wd) (m : Int) (w : World) (hn : x.n ≤ 9223372036854775807) (hlen : ∀ k, k < x.n → x.len k ≤ 9223372036854775807) (hr : RowsAt w A x) (ha : a < w.heap.size) (hc : w.cell? ⟨a, 0, none⟩ = some (.int .i64 m)) (har : r < w.heap.size) (hcr : w.cell? ⟨r, 0, none⟩ = some (.func (.func 83) #[] #[.pointer (some ⟨a, 0, none⟩)])) :
    Calls Tryz.prog 86 #[.agg #[.slice A x.n c], .pointer (some ⟨a, 0, none⟩), .pointer (some ⟨r, 0, none⟩)] w fun e w' => e = .returned (.bool (x.badB m)) ∧ Below w.heap.size w w' := by
  have hb0 := bAlloc (Below.refl w.heap.size w) (.cells #[.slice A x.n c] 63)
  have HR := Lib.hid (hr.mono hb0)
  have HB := Lib.hid hb0
  have HLEN := Lib.hid hlen
  clear hr hb0 hlen
  by_cases hnm : (x.n : Int) = m
  · have g1 : ((x.n : Int) != m) = false := by rw [hnm]; simp
    have HE := Lib.hid (show x.badB m = anyB (fun k => rowBad m (x.len k) (x.fall k)) x.n by unfold Wd.badB; simp [hnm])
    clear hnm
    obtain ⟨bk, hbk⟩ : ∃ bk, anyB (fun k => rowBad m (x.len k) (x.fall k)) x.n = bk := ⟨_, rfl⟩
    have hcw : (w.alloc (.cells #[.slice A x.n c] 63)).cell? ⟨a, 0, none⟩ = some (.int .i64 m) := (HB.out.cell (p := ⟨a, 0, none⟩) ha).trans hc
    have HC := Lib.hid (hbk ▸ none_row A c 83 #[.pointer (some ⟨a, 0, none⟩)] x (fun k => rowBad m (x.len k) (x.fall k)) (w.alloc (.cells #[.slice A x.n c] 63)) hn HR.out (enters_of Tryz.func83 (by kernel_rfl)) (fun i hi w' hb A' c' hi' => check1_any A' (x.len i) c' a (x.fall i) m w' (HLEN.out i hi) hi' (Nat.lt_of_lt_of_le (show a < (w.alloc (.cells #[.slice A x.n c] 63)).heap.size by simp; omega) hb.size) ((hb.cell (p := ⟨a, 0, none⟩) (by simp; omega)).trans hcw)) : Calls Tryz.prog 87 #[.slice A x.n c, .func (.func 83) #[] #[.pointer (some ⟨a, 0, none⟩)]] (w.alloc (.cells #[.slice A x.n c] 63)) fun e w' => e = .returned (.bool (!bk)) ∧ Below (w.alloc (.cells #[.slice A x.n c] 63)).heap.size (w.alloc (.cells #[.slice A x.n c] 63)) w')
    have HBK := Lib.hid hbk
    clear hbk hcw
    go_enter Tryz.func86, Tryz.ntmps86
    go_wp2_with fail
    refine HC.out.mono ?_
    rintro e w1 ⟨rfl, hb1⟩
    cases bk
    all_goals
      go_wp2_with fail
      go_ret
      exact ⟨by rw [HE.out, HBK.out]; rfl, bTrans HB.out hb1⟩
  · have g1 : ((x.n : Int) != m) = true := bne_iff_ne.2 hnm
    have HE := Lib.hid (show x.badB m = true by unfold Wd.badB; simp [hnm])
    clear hnm
    go_enter Tryz.func86, Tryz.ntmps86
    go_wp2_with fail
    go_ret
    exact ⟨by rw [HE.out]; rfl, HB.out⟩
end Go.Proofs.YtifkjnmnflhnoaaGreatDoor

