/- Walks: Same, Huge, Far, ready, isKnown, copied (of the law), First, More (of the reference). -/
import Derived.Test.YtbbnpneabmldnaaDoorLawA
namespace Go.Proofs.YtbbnpneabmldnaaDoor
open Go.RowKit Go.Sort
theorem neqRock (w : World) (a b c d : Int) : (binOp .neq 46 (.agg #[.int .i64 a, .int .i64 b, .int .i64 c, .int .i64 d]) (.agg #[.int .i64 a, .int .i64 b, .int .i64 c, .int .i64 d])).run Tryd.prog w = .ok (.bool false) w := by
  simp [go_sem]
attribute [go_sem ↓] neqRock
theorem sameInts_true (A B : Option Addr) (n c c' : Nat) (f : Nat → Int) (w : World) (hn : n ≤ 9223372036854775807) (hf : IntsAt w A n f) (hg : IntsAt w B n f) :
    Calls Tryd.prog 42 #[.slice A n c, .slice B n c'] w fun e w' => e = .returned (.bool true) ∧ Below w.heap.size w w' :=
  (sameInts_any A B n n c c' f f w hn hn hf hg).mono fun e w' ⟨he, hb⟩ => by
    have h0 : anyB (fun i => f i != f i) n = false := anyB_false.2 fun i _ => by simp
    exact ⟨by rw [he, h0]; simp, hb⟩
set_option maxHeartbeats 4000000 in
set_option maxRecDepth 100000 in
theorem Same_true (Ar Af Ar' Af' : Option Addr) (cr cf cr' cf' : Nat) (S : Sh) (w : World) (hr : S.nr ≤ 1000) (hf : S.nf ≤ 1000) (hS : ShAt w Ar Af S) (hS' : ShAt w Ar' Af' S) :
    Calls Tryd.prog 22 #[.agg #[.slice Ar S.nr cr, .slice Af S.nf cf, .int .i64 S.deep, .int .i64 S.haul, .int .i64 S.rest], .agg #[.slice Ar' S.nr cr', .slice Af' S.nf cf', .int .i64 S.deep, .int .i64 S.haul, .int .i64 S.rest]] w fun e w' => e = .returned (.bool true) ∧ Below w.heap.size w w' := by
  have hb0 := bAlloc (bAlloc (Below.refl w.heap.size w) (.cells #[.slice Ar S.nr cr, .slice Af S.nf cf, .int .i64 S.deep, .int .i64 S.haul, .int .i64 S.rest] 25)) (.cells #[.slice Ar' S.nr cr', .slice Af' S.nf cf', .int .i64 S.deep, .int .i64 S.haul, .int .i64 S.rest] 25)
  have HS := Lib.hid (hS.mono hb0)
  have HS' := Lib.hid (hS'.mono hb0)
  have HB := Lib.hid hb0
  clear hS hS' hb0
  go_enter Tryd.func22, Tryd.ntmps22
  go_wp2_with (go_at_call 42; refine (sameInts_true _ _ _ _ _ S.foot _ (by omega) HS.out.feet HS'.out.feet).mono ?_; rintro e w1 ⟨rfl, hb1⟩)
  have HS1 := Lib.hid (HS.out.mono hb1)
  have HS1' := Lib.hid (HS'.out.mono hb1)
  have HB1 := Lib.hid (bTrans HB.out hb1)
  have HBX := Lib.hid hb1
  clear hb1
  go_loopw [5] (fun i wr => ∃ k : Nat, k ≤ S.nr ∧ i = .int .i64 k ∧ Below w1.heap.size w1 wr) (fun i _ => S.nr - (intOf i).toNat)
  case atStart => exact ⟨0, Nat.zero_le _, rfl, Below.refl _ _⟩
  case round =>
    obtain ⟨k, hk, rfl, hbel⟩ := hrel
    obtain ⟨bc, bf⟩ := bcell (bTrans HBX.out hbel)
    have hz := hbel.size
    have hz1 := HBX.out.size
    simp only [World.size_alloc] at hz1
    have hy : w.heap.size < wr.heap.size := by omega
    have hy1 : w.heap.size + 1 < wr.heap.size := by omega
    by_cases hlt : k < S.nr
    · rcases (HS1.out.mono hbel).rocks with h0 | ⟨b, o, hA, hb, hcell⟩
      · omega
      obtain ⟨c0, c1, c2, c3⟩ := hcell k hlt
      clear hcell
      subst hA
      rcases (HS1'.out.mono hbel).rocks with h0 | ⟨b', o', hA', hb', hcell⟩
      · omega
      obtain ⟨d0, d1, d2, d3⟩ := hcell k hlt
      clear hcell
      subst hA'
      go_wp2_with fail
      refine wp_region_quiet_below (by kernel_rfl) (by kernel_rfl) ?_
      repeat (go_big_quiet_step ((fail)))
      refine wpQuiet_nil ?_
      intro w3 hw3
      have hb3 := below_of_regrown hw3
      clear hw3
      go_wp2_with fail
      go_roundw
      case rel => exact ⟨k + 1, by omega, by go_num, bTrans hbel hb3⟩
      case measure => simp [intOf]; omega
    · obtain rfl : k = S.nr := by omega
      go_wp2_with fail
      go_ret
      exact ⟨rfl, bTrans HB1.out hbel⟩
def Sh.hugeB (S : Sh) (n : Nat) : Bool := decide (40 < S.nr) || decide (40 < S.nf) || decide (40 < n)
theorem Huge_any (Ar Af : Option Addr) (cr cf : Nat) (S : Sh) (A : Option Addr) (n c : Nat) (w : World) (hr : S.nr ≤ 9223372036854775807) (hf : S.nf ≤ 9223372036854775807) (hn : n ≤ 9223372036854775807) :
    Calls Tryd.prog 15 #[.agg #[.slice Ar S.nr cr, .slice Af S.nf cf, .int .i64 S.deep, .int .i64 S.haul, .int .i64 S.rest], .slice A n c] w fun e w' => e = .returned (.bool (S.hugeB n)) ∧ Below w.heap.size w w' := by
  by_cases h1 : (40 : Int) < (S.nr : Int)
  · have HH := Lib.hid (show S.hugeB n = true by unfold Sh.hugeB; simp; omega)
    go_enter Tryd.func15, Tryd.ntmps15
    go_wp2_with fail
    go_ret
    exact ⟨by rw [HH.out]; rfl, by (repeat (first | (with_reducible exact Below.refl _ _) | (with_reducible refine bAlloc ?_ _) | (with_reducible refine bDrew ?_) | (with_reducible refine bGrow ?_ _ _) | (with_reducible refine bSet ?_ ?_ _; (first | exact Nat.le_refl _ | exact Nat.le_add_right _ _ | (simp; omega))) | (with_reducible refine bTrans ?_ (by assumption))))⟩
  · by_cases h2 : (40 : Int) < (S.nf : Int)
    · have HH := Lib.hid (show S.hugeB n = true by unfold Sh.hugeB; simp; omega)
      go_enter Tryd.func15, Tryd.ntmps15
      go_wp2_with fail
      go_ret
      exact ⟨by rw [HH.out]; rfl, by (repeat (first | (with_reducible exact Below.refl _ _) | (with_reducible refine bAlloc ?_ _) | (with_reducible refine bDrew ?_) | (with_reducible refine bGrow ?_ _ _) | (with_reducible refine bSet ?_ ?_ _; (first | exact Nat.le_refl _ | exact Nat.le_add_right _ _ | (simp; omega))) | (with_reducible refine bTrans ?_ (by assumption))))⟩
    · by_cases h3 : (40 : Int) < (n : Int)
      · have HH := Lib.hid (show S.hugeB n = true by unfold Sh.hugeB; simp; omega)
        go_enter Tryd.func15, Tryd.ntmps15
        go_wp2_with fail
        go_ret
        exact ⟨by rw [HH.out]; rfl, by (repeat (first | (with_reducible exact Below.refl _ _) | (with_reducible refine bAlloc ?_ _) | (with_reducible refine bDrew ?_) | (with_reducible refine bGrow ?_ _ _) | (with_reducible refine bSet ?_ ?_ _; (first | exact Nat.le_refl _ | exact Nat.le_add_right _ _ | (simp; omega))) | (with_reducible refine bTrans ?_ (by assumption))))⟩
      · have HH := Lib.hid (show S.hugeB n = false by unfold Sh.hugeB; simp; omega)
        go_enter Tryd.func15, Tryd.ntmps15
        go_wp2_with fail
        go_ret
        exact ⟨by rw [HH.out]; rfl, by (repeat (first | (with_reducible exact Below.refl _ _) | (with_reducible refine bAlloc ?_ _) | (with_reducible refine bDrew ?_) | (with_reducible refine bGrow ?_ _ _) | (with_reducible refine bSet ?_ ?_ _; (first | exact Nat.le_refl _ | exact Nat.le_add_right _ _ | (simp; omega))) | (with_reducible refine bTrans ?_ (by assumption))))⟩
theorem isKnown_any (e : Int) (w : World) : Calls Tryd.prog 43 #[.int .i64 e] w fun r w' => r = .returned (.bool (e == 0 || e == 3)) ∧ w = w' := by
  cases h1 : (e == 0) <;> cases h2 : (e == 3)
  all_goals
    go_enter Tryd.func43, Tryd.ntmps43
    go_wp2_with fail
    go_ret
    exact ⟨rfl, rfl⟩
/-- what copied hands back -/
def Doubled (base : Nat) (w' : World) (n : Nat) (g : Nat → Int) (e : Ending) : Prop :=
  ∃ A c, e = .returned (.slice A n c) ∧ IntsAt w' A n g ∧ Fresh w' base A n c
set_option maxHeartbeats 1000000 in
theorem copied_any (A : Option Addr) (n c : Nat) (g : Nat → Int) (w : World) (hn : n ≤ 1000000) (hg : IntsAt w A n g) :
    Calls Tryd.prog 51 #[.slice A n c] w fun e w' => Doubled w.heap.size w' n g e ∧ Below w.heap.size w w' := by
  have HG := Lib.hid (intsAt_row.1 hg)
  clear hg
  go_enter Tryd.func51, Tryd.ntmps51
  go_wp2_with (at_builtin; refine wpList_copy_row _ rfl _ _ _ rfl 3 _ 1 8 infoInt Tryd.underlying23 rfl (by decide) ⟨w.heap.size, 0, none⟩ A n c (intL g n) rfl rfl (by rw [intL_len]; omega) (HG.out.mono (bAlloc (Below.refl _ _) _)) (intL_one _ _) hn (by decide) w.heap.size (by simp) (Nat.le_refl _) ?_)
  intro A' c' w' hrow hfr hnew
  have HR := Lib.hid hrow
  have HF := Lib.hid hfr
  have hb : Below _ _ w' := hnew
  have HB := Lib.hid (bTrans (bAlloc (Below.refl w.heap.size w) _) hb)
  clear hrow hfr hnew hb
  go_wp2_with fail
  go_ret
  exact ⟨⟨A', c', rfl, intsAt_row.2 HR.out, HF.out⟩, HB.out⟩
set_option maxHeartbeats 2000000 in
theorem ready_any (Ar Af : Option Addr) (cr cf : Nat) (S : Sh) (w : World) (hr : S.nr ≤ 9223372036854775807) (hf : S.nf ≤ 9223372036854775807) (hS : ShAt w Ar Af S) :
    Calls Tryd.prog 31 #[.agg #[.slice Ar S.nr cr, .slice Af S.nf cf, .int .i64 S.deep, .int .i64 S.haul, .int .i64 S.rest]] w fun e w' => ∃ b, e = .returned (.bool b) ∧ (b = true ↔ S.Ok) ∧ Below w.heap.size w w' := by
  have hb0 := bAlloc (Below.refl w.heap.size w) (.cells #[.slice Ar S.nr cr, .slice Af S.nf cf, .int .i64 S.deep, .int .i64 S.haul, .int .i64 S.rest] 25)
  have HS := Lib.hid (hS.mono hb0)
  have HB := Lib.hid hb0
  clear hS hb0
  by_cases hok : S.Ok
  · have hh : S.hugeB 0 = false := by unfold Sh.hugeB; have := hok.nr; have := hok.nf; simp; omega
    have he : S.err = 0 := if_pos hok
    go_enter Tryd.func31, Tryd.ntmps31
    go_wp2_with (first | (go_at_call 15; refine (Huge_any _ _ _ _ S _ _ _ _ hr hf (by omega)).mono ?_; rintro e w1 ⟨rfl, hb1⟩; obtain ⟨bc1, bf1⟩ := bcell hb1; have hz1 := hb1.size; simp only [World.size_alloc] at hz1; have hy1 : w.heap.size < w1.heap.size := (by omega)) | (go_at_call 19; refine (refCheck_any _ _ _ _ S _ hr hf (HS.out.mono hb1)).mono ?_; rintro e w2 ⟨rfl, hb2⟩))
    go_ret
    exact ⟨true, rfl, ⟨fun _ => hok, fun _ => rfl⟩, by have := HB.out; (repeat (first | (with_reducible exact Below.refl _ _) | (with_reducible refine bAlloc ?_ _) | (with_reducible refine bDrew ?_) | (with_reducible refine bGrow ?_ _ _) | (with_reducible refine bSet ?_ ?_ _; (first | exact Nat.le_refl _ | exact Nat.le_add_right _ _ | (simp; omega))) | (with_reducible refine bTrans ?_ (by assumption))))⟩
  · cases hh : S.hugeB 0
    · have he : (S.err == 0) = false := by simp [Sh.err, hok]
      go_enter Tryd.func31, Tryd.ntmps31
      go_wp2_with (first | (go_at_call 15; refine (Huge_any _ _ _ _ S _ _ _ _ hr hf (by omega)).mono ?_; rintro e w1 ⟨rfl, hb1⟩; obtain ⟨bc1, bf1⟩ := bcell hb1; have hz1 := hb1.size; simp only [World.size_alloc] at hz1; have hy1 : w.heap.size < w1.heap.size := (by omega)) | (go_at_call 19; refine (refCheck_any _ _ _ _ S _ hr hf (HS.out.mono hb1)).mono ?_; rintro e w2 ⟨rfl, hb2⟩))
      go_ret
      exact ⟨false, rfl, ⟨fun h => (by cases h), fun h => absurd h hok⟩, by have := HB.out; (repeat (first | (with_reducible exact Below.refl _ _) | (with_reducible refine bAlloc ?_ _) | (with_reducible refine bDrew ?_) | (with_reducible refine bGrow ?_ _ _) | (with_reducible refine bSet ?_ ?_ _; (first | exact Nat.le_refl _ | exact Nat.le_add_right _ _ | (simp; omega))) | (with_reducible refine bTrans ?_ (by assumption))))⟩
    · go_enter Tryd.func31, Tryd.ntmps31
      go_wp2_with (go_at_call 15; refine (Huge_any _ _ _ _ S _ _ _ _ hr hf (by omega)).mono ?_; rintro e w1 ⟨rfl, hb1⟩)
      go_ret
      exact ⟨false, rfl, ⟨fun h => (by cases h), fun h => absurd h hok⟩, by have := HB.out; (repeat (first | (with_reducible exact Below.refl _ _) | (with_reducible refine bAlloc ?_ _) | (with_reducible refine bDrew ?_) | (with_reducible refine bGrow ?_ _ _) | (with_reducible refine bSet ?_ ?_ _; (first | exact Nat.le_refl _ | exact Nat.le_add_right _ _ | (simp; omega))) | (with_reducible refine bTrans ?_ (by assumption))))⟩
end Go.Proofs.YtbbnpneabmldnaaDoor
