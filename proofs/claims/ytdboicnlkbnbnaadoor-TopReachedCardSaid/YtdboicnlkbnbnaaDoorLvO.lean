/- Walks of IsOne of the reference of levels, and of reached. Conditions: a valid town; the listed variable holds what it holds. -/
import Derived.Test.YtdboicnlkbnbnaaDoorLvN
import Derived.Test.YtdboicnlkbnbnaaDoorLvJ
namespace Go.Proofs.YtdboicnlkbnbnaaDoor
open Go.RowKit Go.Sort
/-- what IsOne hands back: if it says so, there is a truth -/
def IsOneOut (t : Lt) (e : Ending) : Prop := e = .returned (.bool false) ∨ (e = .returned (.bool true) ∧ ∃ l, t.Truth l)
theorem isOne_any (As Al : Option Addr) (cs cl : Nat) (t : Lt) (w : World) (ok : t.Ok) (hT : LtAt w As Al t) :
    Calls Tryd.prog 16 #[.agg #[.int .i64 t.wells, .slice As t.ns cs, .slice Al t.nl cl]] w fun e w' => IsOneOut t e ∧ Below w.heap.size w w' := by
  have hb0 := bAlloc (Below.refl w.heap.size w) (.cells #[.int .i64 t.wells, .slice As t.ns cs, .slice Al t.nl cl] 25)
  have HT := Lib.hid (hT.mono hb0)
  have HB := Lib.hid hb0
  clear hT hb0
  go_enter Tryd.func16, Tryd.ntmps16
  go_wp2_with fail
  refine (spans_any _ _ _ _ t _ ok HT.out).mono ?_
  rintro e w1 ⟨⟨v, rfl⟩ | ⟨⟨v, rfl⟩, hl⟩, hb1⟩
  · go_wp2_with fail
    go_ret
    exact ⟨.inl rfl, bTrans HB.out hb1⟩
  · have HTR := Lib.hid hl
    clear hl
    go_wp2_with fail
    go_ret
    exact ⟨.inr ⟨rfl, HTR.out⟩, bTrans HB.out hb1⟩
set_option maxHeartbeats 4000000 in
set_option maxRecDepth 100000 in
theorem reached_any (w : World) (hN : NoneAt w) : Calls Tryd.prog 10 #[] w fun e w' => e = .returned (.bool true) ∧ Below w.heap.size w w' := by
  have HN := Lib.hid hN
  have heq : ∀ w, (binOp .eql 43 (.agg #[.int .i64 20, .int .i64 25]) (.agg #[.int .i64 20, .int .i64 25])).run Tryd.prog w = .ok (.bool true) w := fun w => by simp [go_sem]
  have HEQ := Lib.hid heq
  clear hN heq
  go_enter Tryd.func10, Tryd.ntmps10
  go_wp2_with fail
  refine (lvExample_any _).mono ?_
  rintro e w1 ⟨⟨As, Al, Bs, cs, Bl, cl, rfl, hL⟩, hb1⟩
  have HL1 := Lib.hid hL
  have HB1 := Lib.hid hb1
  clear hL hb1
  go_wp2_with fail
  refine (Example_any _).mono ?_
  rintro e w2 ⟨⟨Ar, Af, Ar', Af', rfl, hS, hS'⟩, hb2⟩
  have HS2 := Lib.hid hS'
  have hb2' := bTrans (bAlloc (bAlloc (Below.refl w1.heap.size w1) _) _) hb2
  have HL2 := Lib.hid (HL1.out.mono hb2')
  have HB2 := Lib.hid (bTrans HB1.out hb2')
  obtain ⟨bc2, bf2⟩ := bcell hb2
  have hz2 := hb2.size
  simp only [World.size_alloc] at hz2
  have hy2 : w1.heap.size < w2.heap.size := by omega
  clear hS hS' hb2 hb2'
  go_wp2_with fail
  refine (Level_any _ _ 2 2 exL exLow 2 _ exL_ok (exL_truth _ (.inl rfl)) ⟨by decide, by decide⟩ (HL2.out.mono (bAlloc (bAlloc (Below.refl _ _) _) _))).mono ?_
  rintro e w3 ⟨he, hb3⟩
  obtain rfl : e = .returned (.tuple #[.agg #[.int .i64 20, .int .i64 25], .int .i64 0]) := by
    rw [he]
    show Ending.returned (.tuple #[.agg #[.int .i64 (exL.low 2), .int .i64 (exL.high 2)], .int .i64 0]) = _
    rw [exL_level.1, exL_level.2]
  have hb3' := bTrans (bAlloc (bAlloc (Below.refl w2.heap.size w2) _) _) hb3
  have HS3 := Lib.hid (HS2.out.mono hb3')
  have HB3 := Lib.hid (bTrans HB2.out hb3')
  obtain ⟨bc3, bf3⟩ := bcell hb3
  have hz3 := hb3.size
  simp only [World.size_alloc] at hz3
  have hy3 : w2.heap.size < w3.heap.size := by omega
  have hv3 : w2.heap.size + 1 < w3.heap.size := by omega
  clear hb3 hb3' he bc2 bf2
  go_wp2_with fail
  refine (Cheap_any _ _ _ _ exT _ (by decide) (by decide) (HS3.out.mono (bAlloc (Below.refl _ _) _)) (HN.out.mono (bTrans HB3.out (bAlloc (Below.refl _ _) _)))).mono ?_
  rintro e w4 ⟨he, hb4⟩
  obtain rfl : e = .returned (.tuple #[.int .i64 17, .int .i64 0]) := by rw [he, ex_cheap]
  have HB4 := Lib.hid (bTrans HB3.out (bTrans (bAlloc (Below.refl w3.heap.size w3) _) hb4))
  obtain ⟨bc4, bf4⟩ := bcell hb4
  have hz4 := hb4.size
  simp only [World.size_alloc] at hz4
  have hy4 : w3.heap.size < w4.heap.size := by omega
  have heq := HEQ.out
  clear hb4 he bc3 bf3
  go_wp2_with fail
  go_ret
  exact ⟨rfl, HB4.out⟩
end Go.Proofs.YtdboicnlkbnbnaaDoor
