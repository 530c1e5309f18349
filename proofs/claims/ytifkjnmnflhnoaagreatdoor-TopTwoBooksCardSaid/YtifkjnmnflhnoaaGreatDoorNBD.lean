/- Parts joined: what all claims of this seat need. -/
import Derived.Laws.EntriesVeiled
import Derived.Test.YtifkjnmnflhnoaaGreatDoorNBC
import Derived.Maps.Own
set_option linter.unusedSimpArgs false
set_option linter.unusedVariables false
namespace Go.Proofs.YtifkjnmnflhnoaaGreatDoor
open Go.RowKit Go.Sort
theorem BoxAt.five {w : World} {a : Nat} {x y z u v : Value} (h : a < w.heap.size) (h0 : w.cell? ⟨a, 0, none⟩ = some x) (h1 : w.cell? ⟨a, 1, none⟩ = some y) (h2 : w.cell? ⟨a, 2, none⟩ = some z) (h3 : w.cell? ⟨a, 3, none⟩ = some u) (h4 : w.cell? ⟨a, 4, none⟩ = some v) : BoxAt w a [x, y, z, u, v] :=
  ⟨h, fun i q hi => match i, hi with
    | 0, hi => by injection hi with hi; subst hi; exact h0
    | 1, hi => by injection hi with hi; subst hi; exact h1
    | 2, hi => by injection hi with hi; subst hi; exact h2
    | 3, hi => by injection hi with hi; subst hi; exact h3
    | 4, hi => by injection hi with hi; subst hi; exact h4⟩
open Classical in
noncomputable def Fact.okB (m : Int) (f : Fact) : Bool := decide (f.Ok m)
theorem Fact.okB_t {m : Int} {f : Fact} (h : f.Ok m) : f.okB m = true := by unfold Fact.okB; simpa using h
theorem Fact.okB_f {m : Int} {f : Fact} (h : ¬ f.Ok m) : f.okB m = false := by unfold Fact.okB; simpa using h
theorem Fact.okB_iff {m : Int} {f : Fact} : f.okB m = true ↔ f.Ok m := by unfold Fact.okB; simp
theorem isWellQ_b (Aw Af : Option Addr) (cw cf : Nat) (t : Qt) (n : Int) (b : Bool) (w : World) (h0 : 0 ≤ t.wells) (h1 : t.wells ≤ 4) (h : inR n 0 (t.wells - 1) = b) :
    Calls Tryz.prog 29 #[.agg #[.int .i64 t.wells, .slice Aw t.nw cw, .slice Af t.nf cf], .int .i64 n] w fun e w' => e = .returned (.bool b) ∧ Below w.heap.size w w' := by
  have := isWellQ_any Aw Af cw cf t n w
  rw [show t.wellB n = b from by unfold Qt.wellB; rw [show IntKind.i64.wrap (t.wells - 1) = t.wells - 1 from IntWalk.i64_in _ (by omega)]; exact h] at this
  exact this
theorem factQ_cases (t : Qt) (f : Fact) : (f.Ok t.wells ∧ inR f.from_ 0 (t.wells - 1) = true ∧ inR f.to_ 0 (t.wells - 1) = true ∧ inR f.many 1 9 = true ∧ inR f.low 0 f.high = true ∧ ¬ 99 < f.high) ∨ (¬ f.Ok t.wells ∧ ((inR f.from_ 0 (t.wells - 1) = false) ∨ (inR f.from_ 0 (t.wells - 1) = true ∧ inR f.to_ 0 (t.wells - 1) = false) ∨ (inR f.from_ 0 (t.wells - 1) = true ∧ inR f.to_ 0 (t.wells - 1) = true ∧ inR f.many 1 9 = false) ∨ (inR f.from_ 0 (t.wells - 1) = true ∧ inR f.to_ 0 (t.wells - 1) = true ∧ inR f.many 1 9 = true ∧ inR f.low 0 f.high = false) ∨ (inR f.from_ 0 (t.wells - 1) = true ∧ inR f.to_ 0 (t.wells - 1) = true ∧ inR f.many 1 9 = true ∧ inR f.low 0 f.high = true ∧ 99 < f.high))) := by
  cases h1 : inR f.from_ 0 (t.wells - 1)
  · exact .inr ⟨(fun h => by rw [inR_t ⟨h.f0, by have := h.f1; omega⟩] at h1; cases h1), .inl rfl⟩
  · cases h2 : inR f.to_ 0 (t.wells - 1)
    · exact .inr ⟨(fun h => by rw [inR_t ⟨h.t0, by have := h.t1; omega⟩] at h2; cases h2), .inr (.inl ⟨rfl, rfl⟩)⟩
    · cases h3 : inR f.many 1 9
      · exact .inr ⟨(fun h => by rw [inR_t ⟨h.m0, h.m1⟩] at h3; cases h3), .inr (.inr (.inl ⟨rfl, rfl, rfl⟩))⟩
      · cases h4 : inR f.low 0 f.high
        · exact .inr ⟨(fun h => by rw [inR_t ⟨h.l0, h.l1⟩] at h4; cases h4), .inr (.inr (.inr (.inl ⟨rfl, rfl, rfl, rfl⟩)))⟩
        · by_cases h5 : 99 < f.high
          · exact .inr ⟨(fun h => by have := h.h1; omega), .inr (.inr (.inr (.inr ⟨rfl, rfl, rfl, rfl, h5⟩)))⟩
          · have a := inR_iff.1 h1
            have b := inR_iff.1 h2
            have c := inR_iff.1 h3
            have e := inR_iff.1 h4
            exact .inl ⟨⟨a.1, by omega, b.1, by omega, c.1, c.2, e.1, e.2, by omega⟩, rfl, rfl, rfl, rfl, h5⟩
set_option maxHeartbeats 4000000 in
set_option maxRecDepth 100000 in
theorem check3_any (Aw Af : Option Addr) (cw cf a : Nat) (t : Qt) (f : Fact) (w : World) (w0 : 0 ≤ t.wells) (w1 : t.wells ≤ 4) (hX : BoxAt w a [.int .i64 t.wells, .slice Aw t.nw cw, .slice Af t.nf cf]) :
    Calls Tryz.prog 88 #[.agg #[.int .i64 f.from_, .int .i64 f.many, .int .i64 f.to_, .int .i64 f.low, .int .i64 f.high], .pointer (some ⟨a, 0, none⟩)] w fun e w' => e = .returned (.bool (!f.okB t.wells)) ∧ Below w.heap.size w w' := by
  have hb0 := bAlloc (Below.refl w.heap.size w) (.cells #[.int .i64 f.from_, .int .i64 f.many, .int .i64 f.to_, .int .i64 f.low, .int .i64 f.high] 27)
  have HB := Lib.hid hb0
  have HX := Lib.hid (hX.mono hb0)
  have HF := Lib.hid (BoxAt.five (w := w.alloc (.cells #[.int .i64 f.from_, .int .i64 f.many, .int .i64 f.to_, .int .i64 f.low, .int .i64 f.high] 27)) (a := w.heap.size) (x := .int .i64 f.from_) (y := .int .i64 f.many) (z := .int .i64 f.to_) (u := .int .i64 f.low) (v := .int .i64 f.high) (by simp) (by simp [go_sem]) (by simp [go_sem]) (by simp [go_sem]) (by simp [go_sem]) (by simp [go_sem]))
  have x0 := hX.cell 0 _ rfl
  have y0 := hX.cell 1 _ rfl
  have z0 := hX.cell 2 _ rfl
  have u0 := hX.lt
  clear hb0 hX
  rcases factQ_cases t f with ⟨hok, g1, g2, g3, g4, g5⟩ | ⟨hno, hcase⟩
  · have HE := Lib.hid (show (!f.okB t.wells) = false by rw [Fact.okB_t hok]; rfl)
    clear hok
    have g5' : decide (99 < f.high) = false := by simpa using g5
    go_enter Tryz.func88, Tryz.ntmps88
    have G1 := Lib.hid g1
    have G2 := Lib.hid g2
    have G3 := Lib.hid g3
    have G4 := Lib.hid g4
    clear g1 g2 g3 g4
    go_wp2_with fail
    refine (isWellQ_b _ _ _ _ t _ _ _ w0 w1 G1.out).mono ?_
    rintro e w6 ⟨rfl, hb6⟩
    have HB6 := Lib.hid (bTrans HB.out hb6)
    have HX6 := Lib.hid (HX.out.mono hb6)
    have HF6 := Lib.hid (HF.out.mono hb6)
    have x6 := HX6.out.cell 0 _ rfl
    have y6 := HX6.out.cell 1 _ rfl
    have z6 := HX6.out.cell 2 _ rfl
    have u6 := HX6.out.lt
    have c6 := HF6.out.cell 2 _ rfl
    have d6 := HF6.out.cell 1 _ rfl
    have v6 := HF6.out.lt
    have e6 := HF6.out.cell 3 _ rfl
    have f6 := HF6.out.cell 4 _ rfl
    clear hb6 x0 y0 z0 u0
    go_wp2_with fail
    refine (isWellQ_b _ _ _ _ t _ _ _ w0 w1 G2.out).mono ?_
    rintro e w7 ⟨rfl, hb7⟩
    have HB7 := Lib.hid (bTrans HB6.out hb7)
    have HF7 := Lib.hid (HF6.out.mono hb7)
    have d7 := HF7.out.cell 1 _ rfl
    have v7 := HF7.out.lt
    have e7 := HF7.out.cell 3 _ rfl
    have f7 := HF7.out.cell 4 _ rfl
    clear hb7 x6 y6 z6 u6 c6 d6 v6 e6 f6
    go_wp2_with fail
    refine (withinQ_b _ _ _ _ _ G3.out).mono ?_
    rintro e w' ⟨rfl, rfl⟩
    go_wp2_with fail
    refine (withinQ_b _ _ _ _ _ G4.out).mono ?_
    rintro e w' ⟨rfl, rfl⟩
    go_wp2_with fail
    go_ret
    exact ⟨by rw [HE.out]; rfl, HB7.out⟩
  · have HE := Lib.hid (show (!f.okB t.wells) = true by rw [Fact.okB_f hno]; rfl)
    clear hno
    go_enter Tryz.func88, Tryz.ntmps88
    rcases hcase with g1 | ⟨g1, g2⟩ | ⟨g1, g2, g3⟩ | ⟨g1, g2, g3, g4⟩ | ⟨g1, g2, g3, g4, g5⟩
    · skip
      have G1 := Lib.hid g1
      clear g1
      go_wp2_with fail
      refine (isWellQ_b _ _ _ _ t _ _ _ w0 w1 G1.out).mono ?_
      rintro e w6 ⟨rfl, hb6⟩
      have HB6 := Lib.hid (bTrans HB.out hb6)
      have HX6 := Lib.hid (HX.out.mono hb6)
      have HF6 := Lib.hid (HF.out.mono hb6)
      have x6 := HX6.out.cell 0 _ rfl
      have y6 := HX6.out.cell 1 _ rfl
      have z6 := HX6.out.cell 2 _ rfl
      have u6 := HX6.out.lt
      have c6 := HF6.out.cell 2 _ rfl
      have d6 := HF6.out.cell 1 _ rfl
      have v6 := HF6.out.lt
      have e6 := HF6.out.cell 3 _ rfl
      have f6 := HF6.out.cell 4 _ rfl
      clear hb6 x0 y0 z0 u0
      go_wp2_with fail
      go_ret
      exact ⟨by rw [HE.out]; rfl, HB6.out⟩
    · skip
      have G1 := Lib.hid g1
      have G2 := Lib.hid g2
      clear g1 g2
      go_wp2_with fail
      refine (isWellQ_b _ _ _ _ t _ _ _ w0 w1 G1.out).mono ?_
      rintro e w6 ⟨rfl, hb6⟩
      have HB6 := Lib.hid (bTrans HB.out hb6)
      have HX6 := Lib.hid (HX.out.mono hb6)
      have HF6 := Lib.hid (HF.out.mono hb6)
      have x6 := HX6.out.cell 0 _ rfl
      have y6 := HX6.out.cell 1 _ rfl
      have z6 := HX6.out.cell 2 _ rfl
      have u6 := HX6.out.lt
      have c6 := HF6.out.cell 2 _ rfl
      have d6 := HF6.out.cell 1 _ rfl
      have v6 := HF6.out.lt
      have e6 := HF6.out.cell 3 _ rfl
      have f6 := HF6.out.cell 4 _ rfl
      clear hb6 x0 y0 z0 u0
      go_wp2_with fail
      refine (isWellQ_b _ _ _ _ t _ _ _ w0 w1 G2.out).mono ?_
      rintro e w7 ⟨rfl, hb7⟩
      have HB7 := Lib.hid (bTrans HB6.out hb7)
      have HF7 := Lib.hid (HF6.out.mono hb7)
      have d7 := HF7.out.cell 1 _ rfl
      have v7 := HF7.out.lt
      have e7 := HF7.out.cell 3 _ rfl
      have f7 := HF7.out.cell 4 _ rfl
      clear hb7 x6 y6 z6 u6 c6 d6 v6 e6 f6
      go_wp2_with fail
      go_ret
      exact ⟨by rw [HE.out]; rfl, HB7.out⟩
    · skip
      have G1 := Lib.hid g1
      have G2 := Lib.hid g2
      have G3 := Lib.hid g3
      clear g1 g2 g3
      go_wp2_with fail
      refine (isWellQ_b _ _ _ _ t _ _ _ w0 w1 G1.out).mono ?_
      rintro e w6 ⟨rfl, hb6⟩
      have HB6 := Lib.hid (bTrans HB.out hb6)
      have HX6 := Lib.hid (HX.out.mono hb6)
      have HF6 := Lib.hid (HF.out.mono hb6)
      have x6 := HX6.out.cell 0 _ rfl
      have y6 := HX6.out.cell 1 _ rfl
      have z6 := HX6.out.cell 2 _ rfl
      have u6 := HX6.out.lt
      have c6 := HF6.out.cell 2 _ rfl
      have d6 := HF6.out.cell 1 _ rfl
      have v6 := HF6.out.lt
      have e6 := HF6.out.cell 3 _ rfl
      have f6 := HF6.out.cell 4 _ rfl
      clear hb6 x0 y0 z0 u0
      go_wp2_with fail
      refine (isWellQ_b _ _ _ _ t _ _ _ w0 w1 G2.out).mono ?_
      rintro e w7 ⟨rfl, hb7⟩
      have HB7 := Lib.hid (bTrans HB6.out hb7)
      have HF7 := Lib.hid (HF6.out.mono hb7)
      have d7 := HF7.out.cell 1 _ rfl
      have v7 := HF7.out.lt
      have e7 := HF7.out.cell 3 _ rfl
      have f7 := HF7.out.cell 4 _ rfl
      clear hb7 x6 y6 z6 u6 c6 d6 v6 e6 f6
      go_wp2_with fail
      refine (withinQ_b _ _ _ _ _ G3.out).mono ?_
      rintro e w' ⟨rfl, rfl⟩
      go_wp2_with fail
      go_ret
      exact ⟨by rw [HE.out]; rfl, HB7.out⟩
    · skip
      have G1 := Lib.hid g1
      have G2 := Lib.hid g2
      have G3 := Lib.hid g3
      have G4 := Lib.hid g4
      clear g1 g2 g3 g4
      go_wp2_with fail
      refine (isWellQ_b _ _ _ _ t _ _ _ w0 w1 G1.out).mono ?_
      rintro e w6 ⟨rfl, hb6⟩
      have HB6 := Lib.hid (bTrans HB.out hb6)
      have HX6 := Lib.hid (HX.out.mono hb6)
      have HF6 := Lib.hid (HF.out.mono hb6)
      have x6 := HX6.out.cell 0 _ rfl
      have y6 := HX6.out.cell 1 _ rfl
      have z6 := HX6.out.cell 2 _ rfl
      have u6 := HX6.out.lt
      have c6 := HF6.out.cell 2 _ rfl
      have d6 := HF6.out.cell 1 _ rfl
      have v6 := HF6.out.lt
      have e6 := HF6.out.cell 3 _ rfl
      have f6 := HF6.out.cell 4 _ rfl
      clear hb6 x0 y0 z0 u0
      go_wp2_with fail
      refine (isWellQ_b _ _ _ _ t _ _ _ w0 w1 G2.out).mono ?_
      rintro e w7 ⟨rfl, hb7⟩
      have HB7 := Lib.hid (bTrans HB6.out hb7)
      have HF7 := Lib.hid (HF6.out.mono hb7)
      have d7 := HF7.out.cell 1 _ rfl
      have v7 := HF7.out.lt
      have e7 := HF7.out.cell 3 _ rfl
      have f7 := HF7.out.cell 4 _ rfl
      clear hb7 x6 y6 z6 u6 c6 d6 v6 e6 f6
      go_wp2_with fail
      refine (withinQ_b _ _ _ _ _ G3.out).mono ?_
      rintro e w' ⟨rfl, rfl⟩
      go_wp2_with fail
      refine (withinQ_b _ _ _ _ _ G4.out).mono ?_
      rintro e w' ⟨rfl, rfl⟩
      go_wp2_with fail
      go_ret
      exact ⟨by rw [HE.out]; rfl, HB7.out⟩
    · skip
      have G1 := Lib.hid g1
      have G2 := Lib.hid g2
      have G3 := Lib.hid g3
      have G4 := Lib.hid g4
      clear g1 g2 g3 g4
      go_wp2_with fail
      refine (isWellQ_b _ _ _ _ t _ _ _ w0 w1 G1.out).mono ?_
      rintro e w6 ⟨rfl, hb6⟩
      have HB6 := Lib.hid (bTrans HB.out hb6)
      have HX6 := Lib.hid (HX.out.mono hb6)
      have HF6 := Lib.hid (HF.out.mono hb6)
      have x6 := HX6.out.cell 0 _ rfl
      have y6 := HX6.out.cell 1 _ rfl
      have z6 := HX6.out.cell 2 _ rfl
      have u6 := HX6.out.lt
      have c6 := HF6.out.cell 2 _ rfl
      have d6 := HF6.out.cell 1 _ rfl
      have v6 := HF6.out.lt
      have e6 := HF6.out.cell 3 _ rfl
      have f6 := HF6.out.cell 4 _ rfl
      clear hb6 x0 y0 z0 u0
      go_wp2_with fail
      refine (isWellQ_b _ _ _ _ t _ _ _ w0 w1 G2.out).mono ?_
      rintro e w7 ⟨rfl, hb7⟩
      have HB7 := Lib.hid (bTrans HB6.out hb7)
      have HF7 := Lib.hid (HF6.out.mono hb7)
      have d7 := HF7.out.cell 1 _ rfl
      have v7 := HF7.out.lt
      have e7 := HF7.out.cell 3 _ rfl
      have f7 := HF7.out.cell 4 _ rfl
      clear hb7 x6 y6 z6 u6 c6 d6 v6 e6 f6
      go_wp2_with fail
      refine (withinQ_b _ _ _ _ _ G3.out).mono ?_
      rintro e w' ⟨rfl, rfl⟩
      go_wp2_with fail
      refine (withinQ_b _ _ _ _ _ G4.out).mono ?_
      rintro e w' ⟨rfl, rfl⟩
      go_wp2_with fail
      go_ret
      exact ⟨by rw [HE.out]; rfl, HB7.out⟩

theorem BoxAt.one {w : World} {a : Nat} {x : Value} (h : a < w.heap.size) (h0 : w.cell? ⟨a, 0, none⟩ = some x) : BoxAt w a [x] :=
  ⟨h, fun i q hi => match i, hi with
    | 0, hi => by injection hi with hi; subst hi; exact h0⟩
set_option maxHeartbeats 8000000 in
set_option maxRecDepth 100000 in
theorem checkQ_any (Aw Af : Option Addr) (cw cf : Nat) (t : Qt) (w : World) (hs : t.nw ≤ 9223372036854775807) (hl : t.nf ≤ 9223372036854775807) (hlen : ∀ i, i < t.nw → ∀ k, k < (t.world i).n → (t.world i).len k ≤ 9223372036854775807) (hT : QAt w Aw Af t) :
    Calls Tryz.prog 67 #[.agg #[.int .i64 t.wells, .slice Aw t.nw cw, .slice Af t.nf cf]] w fun e w' => e = .returned (.int .i64 t.err) ∧ Below w.heap.size w w' := by
  have HLEN := Lib.hid hlen
  have hbw : Below w.heap.size w ((w.alloc (.cells #[.int .i64 t.wells, .slice Aw t.nw cw, .slice Af t.nf cf] 25)).alloc (.cells #[.func (.func 83) #[] #[.pointer (some ⟨w.heap.size, 0, none⟩)]] 139)) := bAlloc (bAlloc (Below.refl _ _) _) _
  have HT := Lib.hid (hT.mono hbw)
  have HB := Lib.hid hbw
  have HX := Lib.hid (BoxAt.three (w := ((w.alloc (.cells #[.int .i64 t.wells, .slice Aw t.nw cw, .slice Af t.nf cf] 25)).alloc (.cells #[.func (.func 83) #[] #[.pointer (some ⟨w.heap.size, 0, none⟩)]] 139))) (a := w.heap.size) (x := .int .i64 t.wells) (y := .slice Aw t.nw cw) (z := .slice Af t.nf cf) (by simp <;> omega) (by simp [go_sem]) (by simp [go_sem]) (by simp [go_sem]))
  have HR := Lib.hid (BoxAt.one (w := ((w.alloc (.cells #[.int .i64 t.wells, .slice Aw t.nw cw, .slice Af t.nf cf] 25)).alloc (.cells #[.func (.func 83) #[] #[.pointer (some ⟨w.heap.size, 0, none⟩)]] 139))) (a := w.heap.size + 1) (x := .func (.func 83) #[] #[.pointer (some ⟨w.heap.size, 0, none⟩)]) (by simp) (by simp [go_sem]))
  clear hT hlen hbw
  by_cases hw : inR t.wells 0 4 = true
  case neg =>
    have HW := Lib.hid (Bool.eq_false_iff.2 hw)
    have HE := Lib.hid (Qt.err_bad (t := t) fun h => hw (inR_t ⟨h.w0, h.w1⟩))
    clear hw
    go_enter Tryz.func67, Tryz.ntmps67
    go_wp2_with fail
    refine (withinQ_b _ _ _ _ _ HW.out).mono ?_
    rintro e w' ⟨rfl, rfl⟩
    go_wp2_with fail
    go_ret
    exact ⟨by rw [HE.out]; rfl, HB.out⟩
  obtain ⟨w0, w1⟩ := inR_iff.1 hw
  have HW := Lib.hid hw
  clear hw
  by_cases hn : t.nw ≤ 6
  case neg =>
    have m1 : (6 : Int) < (t.nw : Int) := by omega
    have HE := Lib.hid (Qt.err_bad (t := t) fun h => hn h.nw)
    clear hn
    go_enter Tryz.func67, Tryz.ntmps67
    go_wp2_with fail
    refine (withinQ_b _ _ _ _ _ HW.out).mono ?_
    rintro e w' ⟨rfl, rfl⟩
    go_wp2_with fail
    go_ret
    exact ⟨by rw [HE.out]; rfl, HB.out⟩
  have m1 : ¬ (6 : Int) < (t.nw : Int) := by omega
  have HWL := Lib.hid (show ∀ i, i < t.nw → (t.world i).n ≤ 9223372036854775807 → True from fun _ _ _ => trivial)
  obtain ⟨bk, hbk⟩ : ∃ bk, anyB (fun i => (t.world i).badB t.wells) t.nw = bk := ⟨_, rfl⟩
  have HBK := Lib.hid hbk
  have HC := Lib.hid (hbk ▸ none_world Aw t.nw cw 86 #[.pointer (some ⟨w.heap.size, 0, none⟩), .pointer (some ⟨w.heap.size + 1, 0, none⟩)] t.world (fun i => (t.world i).badB t.wells) ((w.alloc (.cells #[.int .i64 t.wells, .slice Aw t.nw cw, .slice Af t.nf cf] 25)).alloc (.cells #[.func (.func 83) #[] #[.pointer (some ⟨w.heap.size, 0, none⟩)]] 139)) hs HT.out.worlds (enters_of Tryz.func86 (by kernel_rfl))
    (fun i hi w' hb A' c' hr hn' => check2_any A' c' w.heap.size (w.heap.size + 1) (t.world i) t.wells w' hn' (HLEN.out i hi) hr (HX.out.mono hb).lt ((HX.out.mono hb).cell 0 _ rfl) (HR.out.mono hb).lt ((HR.out.mono hb).cell 0 _ rfl)) :
    Calls Tryz.prog 89 #[.slice Aw t.nw cw, .func (.func 86) #[] #[.pointer (some ⟨w.heap.size, 0, none⟩), .pointer (some ⟨w.heap.size + 1, 0, none⟩)]] ((w.alloc (.cells #[.int .i64 t.wells, .slice Aw t.nw cw, .slice Af t.nf cf] 25)).alloc (.cells #[.func (.func 83) #[] #[.pointer (some ⟨w.heap.size, 0, none⟩)]] 139)) fun e w' => e = .returned (.bool (!bk)) ∧ Below ((w.alloc (.cells #[.int .i64 t.wells, .slice Aw t.nw cw, .slice Af t.nf cf] 25)).alloc (.cells #[.func (.func 83) #[] #[.pointer (some ⟨w.heap.size, 0, none⟩)]] 139)).heap.size ((w.alloc (.cells #[.int .i64 t.wells, .slice Aw t.nw cw, .slice Af t.nf cf] 25)).alloc (.cells #[.func (.func 83) #[] #[.pointer (some ⟨w.heap.size, 0, none⟩)]] 139)) w')
  clear hbk hn
  cases bk
  case true =>
    have HE := Lib.hid (Qt.err_bad (t := t) fun h => by
      obtain ⟨i, hi, hbad⟩ := anyB_true.1 HBK.out
      rw [(Wd.badB_iff _ _).2 (h.world i hi)] at hbad
      cases hbad)
    go_enter Tryz.func67, Tryz.ntmps67
    go_wp2_with fail
    refine (withinQ_b _ _ _ _ _ HW.out).mono ?_
    rintro e w' ⟨rfl, rfl⟩
    go_wp2_with fail
    refine HC.out.mono ?_
    rintro e w1 ⟨rfl, hb1⟩
    go_wp2_with fail
    go_ret
    exact ⟨by rw [HE.out]; rfl, bTrans HB.out hb1⟩
  have HWO := Lib.hid (show ∀ i, i < t.nw → (t.world i).Ok t.wells from fun i hi => (Wd.badB_iff _ _).1 (anyB_false.1 HBK.out i hi))
  by_cases hnf : t.nf ≤ 6
  case neg =>
    have m2 : (6 : Int) < (t.nf : Int) := by omega
    have HE := Lib.hid (Qt.err_bad (t := t) fun h => hnf h.nf)
    clear hnf
    go_enter Tryz.func67, Tryz.ntmps67
    go_wp2_with fail
    refine (withinQ_b _ _ _ _ _ HW.out).mono ?_
    rintro e w' ⟨rfl, rfl⟩
    go_wp2_with fail
    refine HC.out.mono ?_
    rintro e w1 ⟨rfl, hb1⟩
    have HX1 := Lib.hid (HX.out.mono hb1)
    have x1 := HX1.out.lt
    have y1 := HX1.out.cell 2 _ rfl
    have HB1 := Lib.hid hb1
    clear hb1
    go_wp2_with fail
    go_ret
    exact ⟨by rw [HE.out]; rfl, bTrans HB.out HB1.out⟩
  have m2 : ¬ (6 : Int) < (t.nf : Int) := by omega
  have HNF := Lib.hid hnf
  have HNW := Lib.hid (show t.nw ≤ 6 by omega)
  clear hnf
  obtain ⟨bf, hbf⟩ : ∃ bf, anyB (fun i => !(t.fact i).okB t.wells) t.nf = bf := ⟨_, rfl⟩
  have HBF := Lib.hid hbf
  have HCF := Lib.hid (fun (W : World) (hb : Below ((w.alloc (.cells #[.int .i64 t.wells, .slice Aw t.nw cw, .slice Af t.nf cf] 25)).alloc (.cells #[.func (.func 83) #[] #[.pointer (some ⟨w.heap.size, 0, none⟩)]] 139)).heap.size ((w.alloc (.cells #[.int .i64 t.wells, .slice Aw t.nw cw, .slice Af t.nf cf] 25)).alloc (.cells #[.func (.func 83) #[] #[.pointer (some ⟨w.heap.size, 0, none⟩)]] 139)) W) => (hbf ▸ none_fact Af t.nf cf 88 #[.pointer (some ⟨w.heap.size, 0, none⟩)] t.fact (fun i => !(t.fact i).okB t.wells) W hl (HT.out.mono hb).facts (enters_of Tryz.func88 (by kernel_rfl))
    (fun i hi w' hb' => check3_any Aw Af cw cf w.heap.size t (t.fact i) w' w0 w1 ((HX.out.mono hb).mono hb')) :
    Calls Tryz.prog 68 #[.slice Af t.nf cf, .func (.func 88) #[] #[.pointer (some ⟨w.heap.size, 0, none⟩)]] W fun e w' => e = .returned (.bool (!bf)) ∧ Below W.heap.size W w'))
  clear hbf
  have HE := Lib.hid (show t.err = (if bf then 50 else 0) by
    cases bf
    · exact Qt.err_ok ⟨w0, w1, HNW.out, HNF.out, HWO.out, fun i hi => Fact.okB_iff.1 (by have := anyB_false.1 HBF.out i hi; simpa using this)⟩
    · refine Qt.err_bad fun h => ?_
      obtain ⟨i, hi, hbad⟩ := anyB_true.1 HBF.out
      rw [Fact.okB_t (h.fact i hi)] at hbad
      cases hbad)
  go_enter Tryz.func67, Tryz.ntmps67
  go_wp2_with fail
  refine (withinQ_b _ _ _ _ _ HW.out).mono ?_
  rintro e w' ⟨rfl, rfl⟩
  go_wp2_with fail
  refine HC.out.mono ?_
  rintro e w1 ⟨rfl, hb1⟩
  have HX1 := Lib.hid (HX.out.mono hb1)
  have x1 := HX1.out.lt
  have y1 := HX1.out.cell 2 _ rfl
  have HB1 := Lib.hid hb1
  clear hb1
  go_wp2_with fail
  refine (HCF.out _ HB1.out).mono ?_
  rintro e w2 ⟨rfl, hb2⟩
  cases bf
  all_goals
    go_wp2_with fail
    go_ret
    exact ⟨by rw [HE.out]; rfl, bTrans HB.out (bTrans HB1.out hb2)⟩
end Go.Proofs.YtifkjnmnflhnoaaGreatDoor

namespace Go.Proofs.YtifkjnmnflhnoaaGreatDoor
open Go.RowKit Go.Sort
theorem withinQ_bb (n lo hi : Int) (b : Bool) (w : World) (h : inR n lo hi = b) : Calls Tryz.prog 49 #[.int .i64 n, .int .i64 lo, .int .i64 hi] w fun e w' => e = .returned (.bool b) ∧ Below w.heap.size w w' :=
  (withinQ_b n lo hi b w h).mono fun e w' ⟨he, hw⟩ => ⟨he, by rw [hw]; exact Below.refl _ _⟩
/-- a fall of a valid world: where it stands, and its bounds -/
theorem Wd.Ok.at {w : World} {A : Option Addr} {m : Int} {x : Wd} (ok : x.Ok m) (hr : RowsAt w A x) {p q : Int} (p0 : 0 ≤ p) (p1 : p < m) (q0 : 0 ≤ q) (q1 : q < m) :
    ∃ b' o' b'' o'' c'' k v, A = some ⟨b', o', none⟩ ∧ b' < w.heap.size ∧ w.cell? ⟨b', o' + p.toNat, none⟩ = some (.slice (some ⟨b'', o'', none⟩) k c'') ∧ b'' < w.heap.size ∧ w.cell? ⟨b'', o'' + q.toNat, none⟩ = some (.int .i64 v) ∧
      v = x.fall p.toNat q.toNat ∧ 0 ≤ v ∧ v ≤ 9 ∧ (k : Int) = m := by
  have hk : p.toNat < x.n := by have := ok.n; omega
  have hl := ok.len _ hk
  have hj : q.toNat < x.len p.toNat := by omega
  rcases hr with h0 | ⟨b', o', rfl, hlt', hc'⟩
  · omega
  · obtain ⟨A'', c'', h3, h4, _⟩ := hc' _ hk
    obtain ⟨b'', o'', rfl, hlt'', h5⟩ := h4.get hj
    have hf := ok.fall _ hk _ hj
    exact ⟨b', o', b'', o'', c'', _, _, rfl, hlt', h3, hlt'', h5, rfl, hf.1, hf.2, hl⟩
set_option maxHeartbeats 4000000 in
set_option maxRecDepth 100000 in
theorem agreesQ_any (A : Option Addr) (c : Nat) (m : Int) (x : Wd) (f : Fact) (w : World) (ok : x.Ok m) (hf : f.Ok m) (hr : RowsAt w A x) :
    Calls Tryz.prog 70 #[.agg #[.slice A x.n c], .agg #[.int .i64 f.from_, .int .i64 f.many, .int .i64 f.to_, .int .i64 f.low, .int .i64 f.high]] w fun e w' => e = .returned (.bool (x.agrees f)) ∧ Below w.heap.size w w' := by
  obtain ⟨b', o', b'', o'', c'', kk, v, rfl, a4, a5, a6, a7, hv, v0, v1, hm⟩ := ok.at hr hf.f0 hf.f1 hf.t0 hf.t1
  obtain ⟨p, hp⟩ : ∃ p : Nat, f.from_ = (p : Int) := ⟨f.from_.toNat, by have := hf.f0; omega⟩
  obtain ⟨q, hq⟩ : ∃ q : Nat, f.to_ = (q : Int) := ⟨f.to_.toNat, by have := hf.t0; omega⟩
  obtain ⟨k, hk⟩ : ∃ k, f.many = k := ⟨_, rfl⟩
  have k0 := hf.m0
  have k1 := hf.m1
  have hp1 := hf.f1
  have hq1 := hf.t1
  have hxn := ok.n
  rw [hk] at k0 k1
  have hpp : f.from_.toNat = p := by omega
  have hqq : f.to_.toNat = q := by omega
  rw [hpp] at a5 hv
  rw [hqq] at a7 hv
  have hbd := mul_bd v0 v1 (by omega : 0 ≤ k) k1
  obtain ⟨r, hrr⟩ : ∃ r, inR (v * k) f.low f.high = r := ⟨_, rfl⟩
  have HR := Lib.hid hrr
  have HE := Lib.hid (show x.agrees f = r by unfold Wd.agrees; rw [hpp, hqq, ← hv, hk, hrr])
  have HB := Lib.hid (bAlloc (bAlloc (Below.refl w.heap.size w) (.cells #[.slice (some ⟨b', o', none⟩) x.n c] 63)) (.cells #[.int .i64 p, .int .i64 k, .int .i64 q, .int .i64 f.low, .int .i64 f.high] 27))
  rw [hp, hq, hk]
  rw [hp] at hp1
  rw [hq] at hq1
  have p1 : (p : Int) < (x.n : Int) := by omega
  have p0 : (0 : Int) ≤ (p : Int) := by omega
  have q1 : (q : Int) < (kk : Int) := by omega
  have q0 : (0 : Int) ≤ (q : Int) := by omega
  have a4' : b' < w.heap.size + 1 + 1 := by omega
  have a6' : b'' < w.heap.size + 1 + 1 := by omega
  have HBD := Lib.hid hbd
  clear hf hr hrr hv hp hq hk hm hpp hqq hbd ok hp1 hq1 hxn
  have e1 : IntKind.i64.wrap (v * k) = v * k := IntWalk.i64_in _ (by have := HBD.out; omega)
  go_enter Tryz.func70, Tryz.ntmps70
  go_wp2_with fail
  refine wp_region_quiet_below (by kernel_rfl) (by kernel_rfl) ?_
  repeat (go_big_quiet_step ((go_at_call 49; exact Calls.regrown_of (withinQ_bb _ _ _ _ _ HR.out))))
  refine wpQuiet_nil ?_
  intro w9 hw9
  have HB9 := Lib.hid (below_of_regrown hw9)
  clear hw9 e1
  go_wp2_with fail
  go_ret
  exact ⟨by rw [HE.out]; rfl, bTrans HB.out HB9.out⟩
theorem ask1_any (A : Option Addr) (c a : Nat) (m : Int) (x : Wd) (f : Fact) (w : World) (ok : x.Ok m) (hf : f.Ok m) (hr : RowsAt w A x) (hX : BoxAt w a [.slice A x.n c]) :
    Calls Tryz.prog 69 #[.agg #[.int .i64 f.from_, .int .i64 f.many, .int .i64 f.to_, .int .i64 f.low, .int .i64 f.high], .pointer (some ⟨a, 0, none⟩)] w fun e w' => e = .returned (.bool (!x.agrees f)) ∧ Below w.heap.size w w' := by
  have hb0 := bAlloc (Below.refl w.heap.size w) (.cells #[.int .i64 f.from_, .int .i64 f.many, .int .i64 f.to_, .int .i64 f.low, .int .i64 f.high] 27)
  have HB := Lib.hid hb0
  have HR := Lib.hid (hr.mono hb0)
  have HOK := Lib.hid ok
  have HFO := Lib.hid hf
  have x0 := hX.lt
  have y0 := hX.cell 0 _ rfl
  clear hb0 hr hX ok hf
  go_enter Tryz.func69, Tryz.ntmps69
  go_wp2_with fail
  refine (agreesQ_any A c m x f _ HOK.out HFO.out HR.out).mono ?_
  rintro e w1 ⟨rfl, hb1⟩
  go_wp2_with fail
  go_ret
  exact ⟨rfl, bTrans HB.out hb1⟩
end Go.Proofs.YtifkjnmnflhnoaaGreatDoor

namespace Go.Proofs.YtifkjnmnflhnoaaGreatDoor
open Go.RowKit Go.Sort
/-- the worlds that are left, of the first k: a bit for each of them -/
def Qt.maskTo (t : Qt) : Nat → Nat
  | 0 => 0
  | k + 1 => if t.leftB k then t.maskTo k ||| 2 ^ k else t.maskTo k
theorem maskTo_lt (t : Qt) : ∀ k, t.maskTo k < 2 ^ k
  | 0 => by simp [Qt.maskTo]
  | k + 1 => by
    have ih := maskTo_lt t k
    have h2 : (2 : Nat) ^ (k + 1) = 2 ^ k + 2 ^ k := by rw [Nat.pow_succ]; omega
    unfold Qt.maskTo
    split
    · exact Nat.or_lt_two_pow (by omega) (by omega)
    · omega
theorem wrapU (n : Nat) (h : n < 18446744073709551616) : IntKind.u64.wrap (n : Int) = n := by
  simp [IntKind.wrap, IntKind.bits, IntKind.signed]
  omega
theorem shlW (k : Nat) (hk : k < 6) : IntKind.u64.wrap ((2 : Int) ^ k) = ((2 ^ k : Nat) : Int) := by
  rcases (by omega : k = 0 ∨ k = 1 ∨ k = 2 ∨ k = 3 ∨ k = 4 ∨ k = 5) with rfl | rfl | rfl | rfl | rfl | rfl <;> rfl
theorem orW (a b : Nat) (ha : a < 64) (hb : b < 64) : bits BinOp.or IntKind.u64 (a : Int) (b : Int) = ((a ||| b : Nat) : Int) := by
  have h : (BitVec.ofInt 64 (a : Int) ||| BitVec.ofInt 64 (b : Int)).toNat = a ||| b := by
    rw [BitVec.ofInt_natCast, BitVec.ofInt_natCast, BitVec.toNat_or, BitVec.toNat_ofNat, BitVec.toNat_ofNat, Nat.mod_eq_of_lt (by omega), Nat.mod_eq_of_lt (by omega)]
  have hlt : a ||| b < 2 ^ 6 := Nat.or_lt_two_pow ha hb
  have hw := wrapU (a ||| b) (by omega)
  rw [← hw, ← h]
  rfl
/-- a court: a town, the worlds that are left, a map -/
structure CourtAt (w : World) (C : Nat) (Aw Af : Option Addr) (cw cf : Nat) (t : Qt) (s mp : Nat) : Prop where
  box : BoxAt w C [.int .i64 t.wells, .slice Aw t.nw cw, .slice Af t.nf cf, .int .u64 (s : Int), .map (some mp)]
  frz : ∀ o, w.frozen? ⟨C, o, none⟩ = false
theorem CourtAt.mono {w w' : World} {C : Nat} {Aw Af : Option Addr} {cw cf : Nat} {t : Qt} {s mp : Nat} (h : CourtAt w C Aw Af cw cf t s mp) (hb : Below w.heap.size w w') : CourtAt w' C Aw Af cw cf t s mp :=
  ⟨h.box.mono hb, fun o => (hb.frozen (p := ⟨C, o, none⟩) h.box.lt).trans (h.frz o)⟩
theorem CourtAt.left {w : World} {C : Nat} {Aw Af : Option Addr} {cw cf : Nat} {t : Qt} {s mp : Nat} (h : CourtAt w C Aw Af cw cf t s mp) (s' : Nat) : CourtAt (w.setCell ⟨C, 3, none⟩ (.int .u64 (s' : Int))) C Aw Af cw cf t s' mp := by
  have o : ∀ i, i ≠ 3 → ∀ v, w.cell? ⟨C, i, none⟩ = some v → (w.setCell ⟨C, 3, none⟩ (.int .u64 (s' : Int))).cell? ⟨C, i, none⟩ = some v := fun i hi v hv => (World.cell?_setCell_other _ _ _ _ (fun e => by injection e with _ e; exact hi e.symm)).trans hv
  exact ⟨BoxAt.five (by simpa [World.setCell] using h.box.lt) (o 0 (by decide) _ (h.box.cell 0 _ rfl)) (o 1 (by decide) _ (h.box.cell 1 _ rfl)) (o 2 (by decide) _ (h.box.cell 2 _ rfl)) (World.cell?_setCell_same _ _ _ (h.box.cell 3 _ rfl)) (o 4 (by decide) _ (h.box.cell 4 _ rfl)), fun o => by rw [World.frozen?_setCell]; exact h.frz o⟩
/-- what ask hands back, of a valid town -/
def AskOk (w : World) (base : Nat) (Aw Af : Option Addr) (cw cf : Nat) (t : Qt) (e : Ending) : Prop := ∃ C mp, e = .returned (.tuple #[.pointer (some ⟨C, 0, none⟩), .int .i64 0]) ∧ CourtAt w C Aw Af cw cf t (t.maskTo t.nw) mp ∧ base ≤ C ∧ w.heap[mp]? = some (.map #[] 0) ∧ base ≤ mp
set_option maxHeartbeats 4000000 in
set_option maxRecDepth 100000 in
theorem askQ_ok (Aw Af : Option Addr) (cw cf : Nat) (t : Qt) (w : World) (ok : t.Ok) (hlen : ∀ i, i < t.nw → ∀ k, k < (t.world i).n → (t.world i).len k ≤ 9223372036854775807) (hT : QAt w Aw Af t) :
    Calls Tryz.prog 48 #[.agg #[.int .i64 t.wells, .slice Aw t.nw cw, .slice Af t.nf cf], .bool true] w fun e w' => AskOk w' w.heap.size Aw Af cw cf t e ∧ Below w.heap.size w w' := by
  have hb0 := bAlloc (Below.refl w.heap.size w) (.cells #[.int .i64 t.wells, .slice Aw t.nw cw, .slice Af t.nf cf] 25)
  have HT := Lib.hid (hT.mono hb0)
  have HB := Lib.hid hb0
  have HOK := Lib.hid ok
  have HLEN := Lib.hid hlen
  have HE := Lib.hid (Qt.err_ok ok)
  have nw6 := ok.nw
  have nf6 := ok.nf
  clear hT hb0 ok hlen
  have hmm := @run_makeMap Tryz.prog
  go_enter Tryz.func48, Tryz.ntmps48
  go_wp2_with fail
  refine (checkQ_any _ _ _ _ t _ (by omega) (by omega) HLEN.out HT.out).mono ?_
  rintro e w1 ⟨he, hb1⟩
  rw [HE.out] at he
  subst he
  have HB1 := Lib.hid hb1
  obtain ⟨bc1, bf1⟩ := bcell hb1
  have hz1 := hb1.size
  simp only [World.size_alloc] at hz1
  have hy1 : w.heap.size < w1.heap.size := hz1
  clear hb1
  go_wp2_with fail
  clear hmm
  have HC1 := Lib.hid (show CourtAt ((w1.alloc (.map #[] 0)).alloc (.cells #[.int .i64 t.wells, .slice Aw t.nw cw, .slice Af t.nf cf, .int .u64 0, .map (some w1.heap.size)] 106)) (w1.heap.size + 1) Aw Af cw cf t (t.maskTo 0) w1.heap.size from ⟨BoxAt.five (by simp) (by simp [go_sem]) (by simp [go_sem]) (by simp [go_sem]) (by simp [go_sem, Qt.maskTo]) (by simp [go_sem]), fun o => by simp [go_sem]⟩)
  have HBC := Lib.hid (show Below (w.alloc (.cells #[.int .i64 t.wells, .slice Aw t.nw cw, .slice Af t.nf cf] 25)).heap.size (w.alloc (.cells #[.int .i64 t.wells, .slice Aw t.nw cw, .slice Af t.nf cf] 25)) ((w1.alloc (.map #[] 0)).alloc (.cells #[.int .i64 t.wells, .slice Aw t.nw cw, .slice Af t.nf cf, .int .u64 0, .map (some w1.heap.size)] 106)) from bAlloc (bAlloc HB1.out _) _)
  have HMP := Lib.hid (show ((w1.alloc (.map #[] 0)).alloc (.cells #[.int .i64 t.wells, .slice Aw t.nw cw, .slice Af t.nf cf, .int .u64 0, .map (some w1.heap.size)] 106)).heap[w1.heap.size]? = some (.map #[] 0) from ((bAlloc (Below.refl _ _) _).block w1.heap.size (by simp)).trans (heap_alloc_new _ _))
  clear bc1 bf1
  go_loopw [24] (fun i wr => ∃ k : Nat, i = .int .i64 k ∧ k ≤ t.nw ∧ CourtAt wr (w1.heap.size + 1) Aw Af cw cf t (t.maskTo k) w1.heap.size ∧ wr.heap[w1.heap.size]? = some (.map #[] 0) ∧ Below (w.alloc (.cells #[.int .i64 t.wells, .slice Aw t.nw cw, .slice Af t.nf cf] 25)).heap.size (w.alloc (.cells #[.int .i64 t.wells, .slice Aw t.nw cw, .slice Af t.nf cf] 25)) wr) (fun i _ => t.nw - (intOf i).toNat)
  case atStart => exact ⟨0, rfl, Nat.zero_le _, HC1.out, HMP.out, HBC.out⟩
  case round =>
    obtain ⟨k, rfl, hk, hc, hm, hbel⟩ := hrel
    have HC2 := Lib.hid hc
    have HM2 := Lib.hid hm
    have HL3 := Lib.hid hbel
    obtain ⟨bc3, bf3⟩ := bcell hbel
    have hz3 := hbel.size
    simp only [World.size_alloc] at hz3
    have hy3 : w.heap.size < wr.heap.size := hz3
    clear hbel hc hm
    by_cases hlt : k < t.nw
    · rcases (HT.out.mono HL3.out).worlds with h0 | ⟨b, o, hA, hb, hcell⟩
      · omega
      obtain ⟨A', c', c0, hrow, _⟩ := hcell k hlt
      have HR := Lib.hid (hrow.mono (bAlloc (Below.refl wr.heap.size wr) (.cells #[.slice A' (t.world k).n c'] 63)))
      have HX := Lib.hid (BoxAt.one (w := wr.alloc (.cells #[.slice A' (t.world k).n c'] 63)) (a := wr.heap.size) (x := .slice A' (t.world k).n c') (by simp) (by simp [go_sem]))
      have k1 : (k : Int) < (t.nw : Int) := by omega
      have HK := Lib.hid hlt
      clear hcell hrow
      obtain ⟨bk, hbk⟩ : ∃ bk, t.leftB k = bk := ⟨_, rfl⟩
      have HBK := Lib.hid hbk
      have HCN := Lib.hid ((show (!anyB (fun j => !(t.world k).agrees (t.fact j)) t.nf) = bk from hbk) ▸ none_fact Af t.nf cf 69 #[.pointer (some ⟨wr.heap.size, 0, none⟩)] t.fact (fun j => !(t.world k).agrees (t.fact j)) (wr.alloc (.cells #[.slice A' (t.world k).n c'] 63)) (by omega) ((HT.out.mono HL3.out).mono (bAlloc (Below.refl _ _) _)).facts (enters_of Tryz.func69 (by kernel_rfl))
        (fun j hj w' hb' => ask1_any A' c' wr.heap.size t.wells (t.world k) (t.fact j) w' (HOK.out.world k HK.out) (HOK.out.fact j hj) (HR.out.mono hb') (HX.out.mono hb')) :
        Calls Tryz.prog 68 #[.slice Af t.nf cf, .func (.func 69) #[] #[.pointer (some ⟨wr.heap.size, 0, none⟩)]] (wr.alloc (.cells #[.slice A' (t.world k).n c'] 63)) fun e w' => e = .returned (.bool bk) ∧ Below (wr.alloc (.cells #[.slice A' (t.world k).n c'] 63)).heap.size (wr.alloc (.cells #[.slice A' (t.world k).n c'] 63)) w')
      clear hbk
      subst hA
      go_wp2_with fail
      refine HCN.out.mono ?_
      rintro e w4 ⟨rfl, hb4⟩
      have hb4 := bTrans (bAlloc (Below.refl wr.heap.size wr) _) hb4
      have HC4 := Lib.hid (HC2.out.mono hb4)
      have HM4 := Lib.hid ((hb4.block w1.heap.size (Array.getElem?_eq_some_iff.1 HM2.out).1).trans HM2.out)
      have HL4 := Lib.hid (bTrans HL3.out hb4)
      clear hb4 c0 hb bc3 bf3
      cases bk
      · have HS := Lib.hid (show t.maskTo (k + 1) = t.maskTo k by
          show (if t.leftB k then t.maskTo k ||| 2 ^ k else t.maskTo k) = _
          rw [if_neg (by rw [HBK.out]; decide)])
        go_wp2_with fail
        go_roundw
        case rel =>
          first
          | exact ⟨k + 1, by go_num, by omega, by rw [HS.out]; exact HC4.out, HM4.out, HL4.out⟩
          | ((repeat apply Exists.intro)
             refine ⟨⟨k + 1, ?_, by omega, by rw [HS.out]; exact HC4.out, HM4.out, HL4.out⟩, rfl⟩
             go_num)
        case measure => simp [intOf]; omega
      · have HS := Lib.hid (show t.maskTo (k + 1) = t.maskTo k ||| 2 ^ k by
          show (if t.leftB k then t.maskTo k ||| 2 ^ k else t.maskTo k) = _
          rw [if_pos HBK.out])
        obtain ⟨s, hs⟩ : ∃ s, t.maskTo k = s := ⟨_, rfl⟩
        obtain ⟨p, hp⟩ : ∃ p, 2 ^ k = p := ⟨_, rfl⟩
        obtain ⟨q, hq⟩ : ∃ q, s ||| p = q := ⟨_, rfl⟩
        have HQ := Lib.hid (show t.maskTo (k + 1) = q by rw [HS.out, hs, hp, hq])
        have hshl : IntKind.u64.wrap ((2 : Int) ^ k) = (p : Int) := by
          rw [← hp]
          exact shlW k (by omega)
        have h64 : (2 : Nat) ^ k ≤ 2 ^ 5 := Nat.pow_le_pow_right (by decide) (by omega)
        have hs64 : s < 64 := by have := maskTo_lt t k; rw [hs] at this; omega
        have hor : bits BinOp.or IntKind.u64 (s : Int) (p : Int) = (q : Int) := by
          rw [← hq]
          exact orW s p hs64 (by omega)
        have hc4 := HC4.out
        rw [hs] at hc4
        have HCS := Lib.hid hc4
        have x4 := hc4.box.lt
        have y4 := hc4.box.cell 3 _ rfl
        have z4 := hc4.frz 3
        clear hs hp hq h64 hs64 hc4
        go_wp2_with fail
        refine wp_region_vals 9 [.pointer (some ⟨w1.heap.size + 1, 0, none⟩), .pointer (some ⟨w1.heap.size + 1, 0, none⟩), .pointer (some ⟨w1.heap.size + 1, 3, none⟩), .int .u64 s, .int .i64 k, .int .u64 p, .int .u64 q, .pointer (some ⟨w1.heap.size + 1, 0, none⟩), .pointer (some ⟨w1.heap.size + 1, 3, none⟩)] (by kernel_rfl) (by kernel_rfl) rfl ?_
        simp only [List.map_cons, List.map_nil]
        iterate 9 refine wpStir_const (by go_simp) ?_
        refine wpStir_end (fun w5 hb5 hd => ?_)
        clear hd
        simp only [List.drop_succ_cons, List.drop_zero]
        simp only [Act.put, List.setIfInBounds_toArray, List.set_cons_succ, List.set_cons_zero]
        have hc5 := HCS.out.mono hb5
        have hm5 := (hb5.block w1.heap.size (Array.getElem?_eq_some_iff.1 HM4.out).1).trans HM4.out
        have HC6 := Lib.hid (hc5.left q)
        have HL6 := Lib.hid (Below.setCell (p := ⟨w1.heap.size + 1, 3, none⟩) (bTrans HL4.out hb5) (by simp; omega) (.int .u64 (q : Int)))
        have HM6 := Lib.hid ((Below.heap_setCell w5 ⟨w1.heap.size + 1, 3, none⟩ (.int .u64 (q : Int)) w1.heap.size (by show w1.heap.size ≠ w1.heap.size + 1; omega)).trans hm5)
        have x5 := hc5.box.lt
        have y5 := hc5.box.cell 3 _ rfl
        have z5 := hc5.frz 3
        clear hb5 hc5 hm5 x4 y4 z4 hshl hor
        go_wp2_with fail
        go_roundw
        case rel =>
          first
          | exact ⟨k + 1, by go_num, by omega, by rw [HQ.out]; exact HC6.out, HM6.out, HL6.out⟩
          | ((repeat apply Exists.intro)
             refine ⟨⟨k + 1, ?_, by omega, by rw [HQ.out]; exact HC6.out, HM6.out, HL6.out⟩, rfl⟩
             go_num)
        case measure => simp [intOf]; omega
    · obtain rfl : k = t.nw := by omega
      go_wp2_with fail
      go_ret2
      exact ⟨⟨_, _, rfl, HC2.out, by omega, HM2.out, by omega⟩, bTrans HB.out HL3.out⟩
end Go.Proofs.YtifkjnmnflhnoaaGreatDoor

namespace Go.Proofs.YtifkjnmnflhnoaaGreatDoor
open Go.RowKit Go.Sort
/-- the place of the lowest bit of a number below 64 -/
def lowB (s : Nat) : Nat := if s % 2 = 1 then 0 else if s / 2 % 2 = 1 then 1 else if s / 4 % 2 = 1 then 2 else if s / 8 % 2 = 1 then 3 else if s / 16 % 2 = 1 then 4 else 5
/-- what is read of the table of math/bits -/
structure TabAt (w : World) : Prop where
  lt : 1 < w.heap.size
  cell : ∀ j : Nat, j < 6 → w.cell? ⟨1, 2 ^ j - 1, none⟩ = some (.int .u8 (j : Int))
theorem TabAt.mono {w w' : World} (h : TabAt w) (hb : Below w.heap.size w w') : TabAt w' :=
  ⟨Nat.lt_of_lt_of_le h.lt hb.size, fun j hj => (hb.cell (p := ⟨1, _, none⟩) h.lt).trans (h.cell j hj)⟩
theorem lowB_and : ∀ s : Nat, s < 64 → 0 < s → bits BinOp.and IntKind.u64 (s : Int) (IntKind.u64.wrap (-(s : Int))) = ((2 ^ lowB s : Nat) : Int) := by decide +kernel
theorem lowB_lt (s : Nat) : lowB s < 6 := by unfold lowB; (repeat' split) <;> omega
set_option maxHeartbeats 4000000 in
set_option maxRecDepth 100000 in
theorem tz64_any (s : Nat) (w : World) (h0 : 0 < s) (h1 : s < 64) (hT : TabAt w) :
    Calls Tryz.prog 92 #[.int .u64 s] w fun e w' => e = .returned (.int .i64 (lowB s : Int)) ∧ w = w' := by
  have hand := lowB_and s h1 h0
  have g0 : ((s : Int) == 0) = false := beq_eq_false_iff_ne.2 (by omega)
  have hlt := hT.lt
  have hj := lowB_lt s
  obtain ⟨j, hjj⟩ : ∃ j, lowB s = j := ⟨_, rfl⟩
  rw [hjj] at hand hj ⊢
  have c0 := hT.cell j hj
  clear hT hjj
  rcases (by omega : j = 0 ∨ j = 1 ∨ j = 2 ∨ j = 3 ∨ j = 4 ∨ j = 5) with rfl | rfl | rfl | rfl | rfl | rfl
  all_goals
    simp only [Nat.reducePow, Nat.reduceSub, Int.cast_ofNat_Int] at hand c0
    go_enter Tryz.func92, Tryz.ntmps92
    go_wp2_with fail
    go_ret
    exact ⟨rfl, rfl⟩
theorem tz_any (s : Nat) (w : World) (h0 : 0 < s) (h1 : s < 64) (hT : TabAt w) :
    Calls Tryz.prog 71 #[.int .u64 s] w fun e w' => e = .returned (.int .i64 (lowB s : Int)) ∧ w = w' := by
  have HT := Lib.hid hT
  clear hT
  go_enter Tryz.func71, Tryz.ntmps71
  go_wp2_with fail
  refine (tz64_any s _ h0 h1 HT.out).mono ?_
  rintro e w' ⟨rfl, rfl⟩
  go_wp2_with fail
  go_ret
  exact ⟨rfl, rfl⟩
/-- the bits of a number below 64, the least one first -/
def bitsL (s : Nat) : List Int := selTo (fun j => s.testBit j) 6
def clr (s : Nat) : Nat := s &&& (s - 1)
theorem bitsL_step : ∀ s : Nat, s < 64 → 0 < s → bitsL s = (lowB s : Int) :: bitsL (clr s) := by decide +kernel
theorem clr_lt : ∀ s : Nat, s < 64 → 0 < s → clr s < s := by decide +kernel
theorem clr_and : ∀ s : Nat, s < 64 → 0 < s → bits BinOp.and IntKind.u64 (s : Int) (IntKind.u64.wrap ((s : Int) - 1)) = (clr s : Int) := by decide +kernel
theorem clr_and2 : ∀ s : Nat, s < 64 → 0 < s → bits BinOp.and IntKind.u64 (s : Int) ((s : Int) - 1) = (clr s : Int) := by decide +kernel
theorem bitsL_zero : bitsL 0 = [] := by decide +kernel
theorem bitsL_len (s : Nat) : (bitsL s).length ≤ 6 := selTo_len _ 6
/-- what list hands back -/
def ListOut (w : World) (base s : Nat) (e : Ending) : Prop := ∃ v, e = .returned v ∧ OwnL w base v (bitsL s)
set_option maxHeartbeats 4000000 in
set_option maxRecDepth 100000 in
theorem list_any (s : Nat) (w : World) (hs : s < 64) (hT : TabAt w) :
    Calls Tryz.prog 50 #[.int .u64 s] w fun e w' => ListOut w' w.heap.size s e ∧ Below w.heap.size w w' := by
  have HT := Lib.hid hT
  clear hT
  go_enter Tryz.func50, Tryz.ntmps50
  go_wp2_with fail
  go_loopw [0, 3] (fun x v wr => ∃ (r : Nat) (l : List Int), x = .int .u64 r ∧ r ≤ s ∧ l ++ bitsL r = bitsL s ∧ OwnL wr w.heap.size v l ∧ Below w.heap.size w wr) (fun x _ _ => (intOf x).toNat)
  case atStart => exact ⟨s, [], rfl, Nat.le_refl _, rfl, OwnL.nil _ _, Below.refl _ _⟩
  case round =>
    obtain ⟨r, l, rfl, hr, hl, hown, hbel⟩ := hrel
    have HLL := Lib.hid hl
    have HO := Lib.hid hown
    have HL3 := Lib.hid hbel
    have hz3 := hbel.size
    clear hl hown hbel
    by_cases h0 : 0 < r
    · have g0 : ((r : Int) != 0) = true := bne_iff_ne.2 (by omega)
      have hc1 := clr_and r (by omega) h0
      have hc2 := clr_and2 r (by omega) h0
      have HCL := Lib.hid (clr_lt r (by omega) h0)
      have HST := Lib.hid (bitsL_step r (by omega) h0)
      have HLEN := Lib.hid (show l.length ≤ 1000 by
        have := congrArg List.length HLL.out
        rw [List.length_append] at this
        have := bitsL_len s
        omega)
      obtain ⟨q, hq⟩ : ∃ q, clr r = q := ⟨_, rfl⟩
      obtain ⟨j, hj⟩ : ∃ j, lowB r = j := ⟨_, rfl⟩
      rw [hq] at hc1 hc2
      have HQ := Lib.hid hq
      have HJ := Lib.hid hj
      clear hq hj
      go_wp2_with fail
      refine (tz_any r _ h0 (by omega) (HT.out.mono HL3.out)).mono ?_
      rintro e w' ⟨he, rfl⟩
      rw [HJ.out] at he
      subst he
      go_wp2_with (at_builtin; refine wpList_snoc _ rfl (Operand.tmp 10) (Operand.tmp 13) rfl w.heap.size _ l rfl ?q1 wr.heap.size j rfl ?q2 HLEN.out ?q3 ?_)
      case q1 => exact HO.out.mono (bAlloc (Below.refl _ _) _)
      case q2 => simp [go_sem]
      case q3 => simp; omega
      intro v' w5 hown5 hb5
      have HO5 := Lib.hid hown5
      have HL5 := Lib.hid (hb5 w.heap.size _ (Nat.le_refl _) (bAlloc HL3.out _))
      clear hown5 hb5
      go_wp2_with fail
      go_roundw
      case rel => exact ⟨q, l ++ [(j : Int)], rfl, by have := HCL.out; have := HQ.out; omega, by rw [List.append_assoc, List.singleton_append, ← HQ.out, ← HJ.out, ← HST.out]; exact HLL.out, HO5.out, HL5.out⟩
      case measure => have := HCL.out; have := HQ.out; simp [intOf]; omega
    · obtain rfl : r = 0 := by omega
      have HF := Lib.hid (show l = bitsL s by have := HLL.out; rw [bitsL_zero, List.append_nil] at this; exact this)
      go_wp2_with fail
      go_ret
      exact ⟨⟨_, rfl, HF.out ▸ HO.out⟩, HL3.out⟩
end Go.Proofs.YtifkjnmnflhnoaaGreatDoor

namespace Go.Proofs.YtifkjnmnflhnoaaGreatDoor
open Go.RowKit Go.Sort
theorem leftTo_sel (t : Qt) : ∀ n, t.leftTo n = selTo t.leftB n
  | 0 => rfl
  | n + 1 => by
    show (if t.leftB n then t.leftTo n ++ [(n : Int)] else t.leftTo n) = (if t.leftB n then selTo t.leftB n ++ [(n : Int)] else selTo t.leftB n)
    rw [leftTo_sel t n]
theorem selTo_congr {p q : Nat → Bool} : ∀ n, (∀ i, i < n → p i = q i) → selTo p n = selTo q n
  | 0, _ => rfl
  | n + 1, h => by
    show (if p n then selTo p n ++ [(n : Int)] else selTo p n) = (if q n then selTo q n ++ [(n : Int)] else selTo q n)
    rw [selTo_congr n (fun i hi => h i (by omega)), h n (by omega)]
theorem selTo_past {p : Nat → Bool} {n : Nat} : ∀ m, n ≤ m → (∀ i, n ≤ i → i < m → p i = false) → selTo p m = selTo p n
  | 0, h, _ => by obtain rfl : n = 0 := by omega
                  rfl
  | m + 1, h, hp => by
    rcases Nat.lt_or_ge m n with h1 | h1
    · obtain rfl : n = m + 1 := by omega
      rfl
    · show (if p m then selTo p m ++ [(m : Int)] else selTo p m) = _
      rw [hp m h1 (by omega)]
      exact selTo_past m h1 (fun i h2 h3 => hp i h2 (by omega))
theorem maskTo_bit (t : Qt) (j : Nat) : ∀ k, (t.maskTo k).testBit j = (decide (j < k) && t.leftB j)
  | 0 => by simp [Qt.maskTo]
  | k + 1 => by
    have ih := maskTo_bit t j k
    unfold Qt.maskTo
    by_cases hjk : j = k
    · subst hjk
      split
      · rename_i h
        rw [Nat.testBit_or, Nat.testBit_two_pow_self, h]
        simp
      · rename_i h
        rw [ih]
        simp [h]
    · have h1 : (decide (j < k + 1)) = decide (j < k) := by by_cases h : j < k <;> simp [h] <;> omega
      split
      · rw [Nat.testBit_or, ih, Nat.testBit_two_pow_of_ne (fun e => hjk e.symm), h1, Bool.or_false]
      · rw [ih, h1]
theorem bits_mask (t : Qt) (h : t.nw ≤ 6) : bitsL (t.maskTo t.nw) = t.leftL := by
  unfold bitsL Qt.leftL
  rw [leftTo_sel, selTo_past (n := t.nw) 6 h fun i h1 h2 => by rw [maskTo_bit]; simp; omega]
  exact selTo_congr _ fun i hi => by rw [maskTo_bit]; simp [hi]
theorem bits_nil : ∀ s : Nat, s < 64 → bitsL s = [] → s = 0 := by decide +kernel
theorem mask_64 (t : Qt) (h : t.nw ≤ 6) : t.maskTo t.nw < 64 := by
  have h1 := maskTo_lt t t.nw
  have h2 : (2 : Nat) ^ t.nw ≤ 2 ^ 6 := Nat.pow_le_pow_right (by decide) h
  omega
theorem mask_zero (t : Qt) (h : t.nw ≤ 6) : t.maskTo t.nw = 0 ↔ t.leftL = [] := by
  constructor
  · intro e
    rw [← bits_mask t h, e]
    exact bitsL_zero
  · intro e
    exact bits_nil _ (mask_64 t h) (by rw [bits_mask t h]; exact e)
/-- lengths are Go's -/
def Qt.Small (t : Qt) : Prop := t.nw ≤ 9223372036854775807 ∧ t.nf ≤ 9223372036854775807 ∧ ∀ i, i < t.nw → ∀ k, k < (t.world i).n → (t.world i).len k ≤ 9223372036854775807
/-- what ask and open hand back: a court, or an error -/
def AskOut (w : World) (base : Nat) (Aw Af : Option Addr) (cw cf : Nat) (t : Qt) (er : Int) (e : Ending) : Prop := (er ≠ 0 → e = .returned (.tuple #[.pointer none, .int .i64 er])) ∧ (er = 0 → AskOk w base Aw Af cw cf t e)
set_option maxHeartbeats 2000000 in
set_option maxRecDepth 100000 in
theorem askQ_any (Aw Af : Option Addr) (cw cf : Nat) (t : Qt) (is : Bool) (w : World) (hs : t.Small) (hT : QAt w Aw Af t) :
    Calls Tryz.prog 48 #[.agg #[.int .i64 t.wells, .slice Aw t.nw cw, .slice Af t.nf cf], .bool is] w fun e w' => AskOut w' w.heap.size Aw Af cw cf t (t.askErr is) e ∧ Below w.heap.size w w' := by
  by_cases h : t.Ok ∧ is = true
  · obtain ⟨ok, rfl⟩ := h
    refine (askQ_ok Aw Af cw cf t w ok hs.2.2 hT).mono ?_
    rintro e w' ⟨h1, h2⟩
    exact ⟨⟨fun h => absurd (askErr_ok ok true) h, fun _ => h1⟩, h2⟩
  have hb0 := bAlloc (Below.refl w.heap.size w) (.cells #[.int .i64 t.wells, .slice Aw t.nw cw, .slice Af t.nf cf] 25)
  have HT := Lib.hid (hT.mono hb0)
  have HB := Lib.hid hb0
  have HS := Lib.hid hs
  clear hT hb0 hs
  by_cases ok : t.Ok
  · obtain rfl : is = false := by cases is; rfl; exact absurd ⟨ok, rfl⟩ h
    have HE := Lib.hid (Qt.err_ok ok)
    have HA := Lib.hid (show t.askErr false = 1 from askErr_ok ok false)
    clear ok h
    go_enter Tryz.func48, Tryz.ntmps48
    go_wp2_with fail
    refine (checkQ_any _ _ _ _ t _ HS.out.1 HS.out.2.1 HS.out.2.2 HT.out).mono ?_
    rintro e w1 ⟨he, hb1⟩
    rw [HE.out] at he
    subst he
    go_wp2_with fail
    go_ret2
    exact ⟨⟨fun _ => by rw [HA.out]; rfl, (fun h => by rw [HA.out] at h; cases h)⟩, bTrans HB.out hb1⟩
  · have HE := Lib.hid (Qt.err_bad ok)
    have HA := Lib.hid (askErr_bad ok is)
    clear ok h
    go_enter Tryz.func48, Tryz.ntmps48
    go_wp2_with fail
    refine (checkQ_any _ _ _ _ t _ HS.out.1 HS.out.2.1 HS.out.2.2 HT.out).mono ?_
    rintro e w1 ⟨he, hb1⟩
    rw [HE.out] at he
    subst he
    go_wp2_with fail
    go_ret2
    exact ⟨⟨fun _ => by rw [HA.out]; rfl, (fun h => by rw [HA.out] at h; cases h)⟩, bTrans HB.out hb1⟩
set_option maxHeartbeats 2000000 in
set_option maxRecDepth 100000 in
theorem openQ_any (Aw Af : Option Addr) (cw cf : Nat) (t : Qt) (is : Bool) (w : World) (hs : t.Small) (hT : QAt w Aw Af t) :
    Calls Tryz.prog 28 #[.agg #[.int .i64 t.wells, .slice Aw t.nw cw, .slice Af t.nf cf], .bool is] w fun e w' => AskOut w' w.heap.size Aw Af cw cf t (t.knowErr is) e ∧ Below w.heap.size w w' := by
  have hb0 := bAlloc (Below.refl w.heap.size w) (.cells #[.int .i64 t.wells, .slice Aw t.nw cw, .slice Af t.nf cf] 25)
  have HT := Lib.hid (hT.mono hb0)
  have HB := Lib.hid hb0
  clear hT hb0
  obtain ⟨ae, hae⟩ : ∃ ae, t.askErr is = ae := ⟨_, rfl⟩
  by_cases ha0 : ae = 0
  · subst ha0
    obtain ⟨ok, rfl⟩ := askErr_zero hae
    have HAE := Lib.hid hae
    have hm := mask_zero t ok.nw
    have h64 := mask_64 t ok.nw
    obtain ⟨s, hsk⟩ : ∃ s, t.maskTo t.nw = s := ⟨_, rfl⟩
    have HSK := Lib.hid hsk
    rw [hsk] at hm h64
    clear hae hsk
    by_cases hz : s = 0
    · have HKE := Lib.hid (knowErr_none ok (hm.1 hz))
      have g0 : ((s : Int) == 0) = true := by simp [hz]
      clear hm ok hz
      go_enter Tryz.func28, Tryz.ntmps28
      go_wp2_with fail
      refine (askQ_any _ _ _ _ t _ _ hs HT.out).mono ?_
      rintro e w1 ⟨⟨_, hk⟩, hb1⟩
      obtain ⟨C, mp, rfl, hc, _, _⟩ := hk HAE.out
      rw [HSK.out] at hc
      have x1 := hc.box.lt
      have y1 := hc.box.cell 3 _ rfl
      have HB1 := Lib.hid hb1
      clear hk hc hb1
      go_wp2_with fail
      go_ret2
      exact ⟨⟨fun _ => by rw [HKE.out]; rfl, (fun h => by rw [HKE.out] at h; cases h)⟩, bTrans HB.out HB1.out⟩
    · have HKE := Lib.hid (knowErr_ok ok (fun h => hz (hm.2 h)))
      have g0 : ((s : Int) == 0) = false := by simp [hz]
      clear hm ok hz
      go_enter Tryz.func28, Tryz.ntmps28
      go_wp2_with fail
      refine (askQ_any _ _ _ _ t _ _ hs HT.out).mono ?_
      rintro e w1 ⟨⟨_, hk⟩, hb1⟩
      obtain ⟨C, mp, rfl, hc, h1, h2, h3⟩ := hk HAE.out
      have HCC := Lib.hid hc
      have H1 := Lib.hid (show w.heap.size ≤ C by simp only [World.size_alloc] at h1; omega)
      have H2 := Lib.hid h2
      have H3 := Lib.hid (show w.heap.size ≤ mp by simp only [World.size_alloc] at h3; omega)
      rw [HSK.out] at hc
      have x1 := hc.box.lt
      have y1 := hc.box.cell 3 _ rfl
      have HB1 := Lib.hid hb1
      clear hk hc hb1 h1 h2 h3
      go_wp2_with fail
      go_ret2
      exact ⟨⟨fun h => absurd HKE.out h, fun _ => ⟨C, mp, rfl, HCC.out, H1.out, H2.out, H3.out⟩⟩, bTrans HB.out HB1.out⟩
  · have HKE := Lib.hid (show t.knowErr is = ae by unfold Qt.knowErr; rw [hae, if_neg ha0])
    have HAE := Lib.hid hae
    have HNZ := Lib.hid ha0
    have g0 : (ae == 0) = false := by simp [ha0]
    clear hae ha0
    go_enter Tryz.func28, Tryz.ntmps28
    go_wp2_with fail
    refine (askQ_any _ _ _ _ t _ _ hs HT.out).mono ?_
    rintro e w1 ⟨⟨hk, _⟩, hb1⟩
    obtain rfl := hk (by rw [HAE.out]; exact HNZ.out)
    rw [HAE.out]
    have HB1 := Lib.hid hb1
    clear hk hb1
    go_wp2_with fail
    go_ret2
    exact ⟨⟨fun _ => by rw [HKE.out]; rfl, fun h => absurd (HKE.out.symm.trans h) HNZ.out⟩, bTrans HB.out HB1.out⟩
end Go.Proofs.YtifkjnmnflhnoaaGreatDoor

namespace Go.Proofs.YtifkjnmnflhnoaaGreatDoor
open Go.RowKit Go.Sort
end Go.Proofs.YtifkjnmnflhnoaaGreatDoor

