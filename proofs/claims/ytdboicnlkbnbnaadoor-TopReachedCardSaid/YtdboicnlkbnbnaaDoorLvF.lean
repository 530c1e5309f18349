/- Walks of the reference of levels: Many, Huge, Far. Condition: lengths are Go's. -/
import Derived.Test.YtdboicnlkbnbnaaDoorLvD
namespace Go.Proofs.YtdboicnlkbnbnaaDoor
open Go.RowKit Go.Sort
/-- what Far hands back: a bool; if it is false, the town is small -/
def FarLv (t : Lt) (e : Ending) : Prop := ∃ b, e = .returned (.bool b) ∧ (b = false → t.ns ≤ 40 ∧ t.nl ≤ 40)
def Lt.hugeB (t : Lt) : Bool := decide (40 < t.ns) || decide (40 < t.nl)
theorem lvHuge_any (As Al : Option Addr) (cs cl : Nat) (t : Lt) (w : World) (hs : t.ns ≤ 9223372036854775807) (hl : t.nl ≤ 9223372036854775807) :
    Calls Tryd.prog 17 #[.agg #[.int .i64 t.wells, .slice As t.ns cs, .slice Al t.nl cl]] w fun e w' => e = .returned (.bool t.hugeB) ∧ Below w.heap.size w w' := by
  by_cases h1 : (40 : Int) < (t.ns : Int)
  · have HH := Lib.hid (show t.hugeB = true by unfold Lt.hugeB; simp; omega)
    go_enter Tryd.func17, Tryd.ntmps17
    go_wp2_with fail
    go_ret
    exact ⟨by rw [HH.out]; rfl, by (repeat (first | (with_reducible exact Below.refl _ _) | (with_reducible refine bAlloc ?_ _) | (with_reducible refine bDrew ?_) | (with_reducible refine bGrow ?_ _ _) | (with_reducible refine bSet ?_ ?_ _; (first | exact Nat.le_refl _ | exact Nat.le_add_right _ _ | (simp; omega))) | (with_reducible refine bTrans ?_ (by assumption))))⟩
  · by_cases h2 : (40 : Int) < (t.nl : Int)
    · have HH := Lib.hid (show t.hugeB = true by unfold Lt.hugeB; simp; omega)
      go_enter Tryd.func17, Tryd.ntmps17
      go_wp2_with fail
      go_ret
      exact ⟨by rw [HH.out]; rfl, by (repeat (first | (with_reducible exact Below.refl _ _) | (with_reducible refine bAlloc ?_ _) | (with_reducible refine bDrew ?_) | (with_reducible refine bGrow ?_ _ _) | (with_reducible refine bSet ?_ ?_ _; (first | exact Nat.le_refl _ | exact Nat.le_add_right _ _ | (simp; omega))) | (with_reducible refine bTrans ?_ (by assumption))))⟩
    · have HH := Lib.hid (show t.hugeB = false by unfold Lt.hugeB; simp; omega)
      have h2' : decide ((40 : Int) < (t.nl : Int)) = false := by simpa using h2
      go_enter Tryd.func17, Tryd.ntmps17
      go_wp2_with fail
      go_ret
      exact ⟨by rw [HH.out]; rfl, by (repeat (first | (with_reducible exact Below.refl _ _) | (with_reducible refine bAlloc ?_ _) | (with_reducible refine bDrew ?_) | (with_reducible refine bGrow ?_ _ _) | (with_reducible refine bSet ?_ ?_ _; (first | exact Nat.le_refl _ | exact Nat.le_add_right _ _ | (simp; omega))) | (with_reducible refine bTrans ?_ (by assumption))))⟩
theorem lvMany_any (As Al : Option Addr) (cs cl : Nat) (t : Lt) (w : World) (hs : t.ns ≤ 40) (hl : t.nl ≤ 40) :
    Calls Tryd.prog 18 #[.agg #[.int .i64 t.wells, .slice As t.ns cs, .slice Al t.nl cl]] w fun e w' => e = .returned (.int .i64 ((t.ns + t.nl : Nat) : Int)) ∧ Below w.heap.size w w' := by
  go_enter Tryd.func18, Tryd.ntmps18
  go_wp2_with fail
  go_ret
  exact ⟨ret_int (by omega), by (repeat (first | (with_reducible exact Below.refl _ _) | (with_reducible refine bAlloc ?_ _) | (with_reducible refine bDrew ?_) | (with_reducible refine bGrow ?_ _ _) | (with_reducible refine bSet ?_ ?_ _; (first | exact Nat.le_refl _ | exact Nat.le_add_right _ _ | (simp; omega))) | (with_reducible refine bTrans ?_ (by assumption))))⟩
set_option maxHeartbeats 2000000 in
theorem lvFar_any (As Al : Option Addr) (cs cl : Nat) (t : Lt) (w : World) (hs : t.ns ≤ 9223372036854775807) (hl : t.nl ≤ 9223372036854775807) (hT : LtAt w As Al t) :
    Calls Tryd.prog 4 #[.agg #[.int .i64 t.wells, .slice As t.ns cs, .slice Al t.nl cl]] w fun e w' => FarLv t e ∧ Below w.heap.size w w' := by
  have hb0 := bAlloc (Below.refl w.heap.size w) (.cells #[.int .i64 t.wells, .slice As t.ns cs, .slice Al t.nl cl] 25)
  have HT := Lib.hid (hT.mono hb0)
  have HB := Lib.hid hb0
  clear hT hb0
  cases hh : t.hugeB
  case true =>
    have HH := Lib.hid hh
    clear hh
    go_enter Tryd.func4, Tryd.ntmps4
    go_wp2_with fail
    refine (lvHuge_any _ _ _ _ t _ hs hl).mono ?_
    rintro e w1 ⟨he, hb1⟩
    obtain rfl : e = .returned (.bool true) := by rw [he, HH.out]
    clear he
    have HB1 := Lib.hid hb1
    clear hb1
    go_wp2_with fail
    go_ret
    exact ⟨⟨_, rfl, fun h => by cases h⟩, bTrans HB.out HB1.out⟩
  have HH := Lib.hid hh
  have hns : t.ns ≤ 40 ∧ t.nl ≤ 40 := by unfold Lt.hugeB at hh; simp at hh; omega
  have HNS := Lib.hid hns
  clear hh hns
  by_cases hw : (5 : Int) < t.wells
  · go_enter Tryd.func4, Tryd.ntmps4
    go_wp2_with fail
    refine (lvHuge_any _ _ _ _ t _ hs hl).mono ?_
    rintro e w1 ⟨he, hb1⟩
    obtain rfl : e = .returned (.bool false) := by rw [he, HH.out]
    have HB1 := Lib.hid hb1
    obtain ⟨bc1, bf1⟩ := bcell hb1
    have hz1 := hb1.size
    simp only [World.size_alloc] at hz1
    have hy1 : w.heap.size < w1.heap.size := hz1
    clear hb1 he
    go_wp2_with fail
    refine (refLvCheck _ _ _ _ t _ hs hl (HT.out.mono HB1.out)).mono ?_
    rintro e w2 ⟨rfl, hb2⟩
    have HB2 := Lib.hid hb2
    clear hb2
    go_wp2_with fail
    go_ret
    exact ⟨⟨_, rfl, fun _ => HNS.out⟩, bTrans HB.out (bTrans HB1.out HB2.out)⟩
  · by_cases hm : (8 : Int) < ((t.ns + t.nl : Nat) : Int)
    · have HM := Lib.hid hm
      clear hm
      go_enter Tryd.func4, Tryd.ntmps4
      go_wp2_with fail
      refine (lvHuge_any _ _ _ _ t _ hs hl).mono ?_
      rintro e w1 ⟨he, hb1⟩
      obtain rfl : e = .returned (.bool false) := by rw [he, HH.out]
      have HB1 := Lib.hid hb1
      obtain ⟨bc1, bf1⟩ := bcell hb1
      have hz1 := hb1.size
      simp only [World.size_alloc] at hz1
      have hy1 : w.heap.size < w1.heap.size := hz1
      clear hb1 he
      go_wp2_with fail
      refine (lvMany_any _ _ _ _ t _ HNS.out.1 HNS.out.2).mono ?_
      rintro e w3 ⟨he, hb3⟩
      obtain ⟨m, hm⟩ : ∃ m : Nat, m = t.ns + t.nl := ⟨_, rfl⟩
      rw [← hm] at he
      subst he
      have m1 : (8 : Int) < (m : Int) := by have := HM.out; omega
      have HB3 := Lib.hid (bTrans HB1.out hb3)
      obtain ⟨bc3, bf3⟩ := bcell HB3.out
      have hz3 := HB3.out.size
      simp only [World.size_alloc] at hz3
      have hy3 : w.heap.size < w3.heap.size := hz3
      clear hb3 hm bc1 bf1 hz1 hy1
      go_wp2_with fail
      refine (refLvCheck _ _ _ _ t _ hs hl (HT.out.mono HB3.out)).mono ?_
      rintro e w2 ⟨rfl, hb2⟩
      have HB2 := Lib.hid hb2
      clear hb2
      go_wp2_with fail
      go_ret
      exact ⟨⟨_, rfl, fun _ => HNS.out⟩, bTrans HB.out (bTrans HB3.out HB2.out)⟩
    · have HM := Lib.hid hm
      clear hm
      go_enter Tryd.func4, Tryd.ntmps4
      go_wp2_with fail
      refine (lvHuge_any _ _ _ _ t _ hs hl).mono ?_
      rintro e w1 ⟨he, hb1⟩
      obtain rfl : e = .returned (.bool false) := by rw [he, HH.out]
      have HB1 := Lib.hid hb1
      obtain ⟨bc1, bf1⟩ := bcell hb1
      have hz1 := hb1.size
      simp only [World.size_alloc] at hz1
      have hy1 : w.heap.size < w1.heap.size := hz1
      clear hb1 he
      go_wp2_with fail
      refine (lvMany_any _ _ _ _ t _ HNS.out.1 HNS.out.2).mono ?_
      rintro e w3 ⟨he, hb3⟩
      obtain ⟨m, hm⟩ : ∃ m : Nat, m = t.ns + t.nl := ⟨_, rfl⟩
      rw [← hm] at he
      subst he
      have m1 : ¬ (8 : Int) < (m : Int) := by have := HM.out; omega
      have m2 : decide ((8 : Int) < (m : Int)) = false := by simpa using m1
      have HB3 := Lib.hid (bTrans HB1.out hb3)
      clear hb3 hm bc1 bf1 hz1 hy1
      go_wp2_with fail
      go_ret
      exact ⟨⟨_, rfl, fun _ => HNS.out⟩, bTrans HB.out HB3.out⟩
end Go.Proofs.YtdboicnlkbnbnaaDoor
