/- Walks: open, ask. -/
import Derived.Test.YtbbnpneabmldnaaDoorWalkH
import Derived.Deep.RegionHeld3


namespace Go.Proofs.YtbbnpneabmldnaaDoor
open Go.RowKit Go.Sort

theorem Sh.err_cases (S : Sh) : (S.Ok ∧ S.err = 0) ∨ (¬ S.Ok ∧ S.err = 20) := by
  by_cases h : S.Ok
  · exact .inl ⟨h, Sh.err_ok h⟩
  · exact .inr ⟨h, Sh.err_bad h⟩
theorem ask_any (Ar Af : Option Addr) (cr cf : Nat) (S : Sh) (is : Bool) (w : World) (hr : S.nr ≤ 9223372036854775807) (hf : S.nf ≤ 9223372036854775807) (hS : ShAt w Ar Af S) :
    Calls Tryd.prog 69 #[.agg #[.slice Ar S.nr cr, .slice Af S.nf cf, .int .i64 S.deep, .int .i64 S.haul, .int .i64 S.rest], .bool is] w fun e w' => e = .returned (.int .i64 (if S.err = 0 then (if is then 0 else 1) else 20)) ∧ Below w.heap.size w w' := by
  have hb0 := bAlloc (Below.refl w.heap.size w) (.cells #[.slice Ar S.nr cr, .slice Af S.nf cf, .int .i64 S.deep, .int .i64 S.haul, .int .i64 S.rest] 25)
  have HS := Lib.hid (hS.mono hb0)
  have HB := Lib.hid hb0
  clear hS hb0
  rcases S.err_cases with ⟨_, he⟩ | ⟨_, he⟩
  · cases is
    all_goals
      rw [if_pos he]
      go_enter Tryd.func69, Tryd.ntmps69
      go_wp2_with (go_at_call 19; refine (refCheck_any _ _ _ _ S _ hr hf HS.out).mono ?_; rintro e w1 ⟨rfl, hb1⟩)
      go_ret
      exact ⟨rfl, bTrans HB.out hb1⟩
  · rw [if_neg (by omega)]
    go_enter Tryd.func69, Tryd.ntmps69
    go_wp2_with (go_at_call 19; refine (refCheck_any _ _ _ _ S _ hr hf HS.out).mono ?_; rintro e w1 ⟨rfl, hb1⟩)
    go_ret
    exact ⟨rfl, bTrans HB.out hb1⟩
/-- what open hands back where the shaft is valid and the question is one -/
theorem open_yes (Ar Af : Option Addr) (cr cf : Nat) (S : Sh) (w : World) (ok : S.Ok) (hS : ShAt w Ar Af S) :
    Calls Tryd.prog 67 #[.agg #[.slice Ar S.nr cr, .slice Af S.nf cf, .int .i64 S.deep, .int .i64 S.haul, .int .i64 S.rest], .bool true] w fun e w' => e = .returned (.tuple #[.agg #[.slice Ar S.nr cr, .slice Af S.nf cf, .int .i64 S.deep, .int .i64 S.haul, .int .i64 S.rest], .int .i64 0]) ∧ Below w.heap.size w w' := by
  have hb0 := bAlloc (bAlloc (Below.refl w.heap.size w) (.cells #[.slice Ar S.nr cr, .slice Af S.nf cf, .int .i64 S.deep, .int .i64 S.haul, .int .i64 S.rest] 25)) (.cells #[.slice none 0 0, .slice none 0 0, .int .i64 0, .int .i64 0, .int .i64 0] 75)
  have HS := Lib.hid (hS.mono hb0)
  have HB := Lib.hid hb0
  have hr : S.nr ≤ 9223372036854775807 := by have := ok.nr; omega
  have hf : S.nf ≤ 9223372036854775807 := by have := ok.nf; omega
  have he := Sh.err_ok ok
  clear hS hb0
  go_enter Tryd.func67, Tryd.ntmps67
  go_wp2_with (go_at_call 18; refine (check_any _ _ _ _ S _ hr hf HS.out).mono ?_; rintro e w1 ⟨rfl, hb1⟩; obtain ⟨bc, bf⟩ := bcell hb1; have hz := hb1.size; simp only [World.size_alloc] at hz; have hy : w.heap.size < w1.heap.size := (by omega); have hy2 : w.heap.size + 1 < w1.heap.size := (by omega))
  exact bodyPost_ret (v := .tuple #[.agg #[.slice Ar S.nr cr, .slice Af S.nf cf, .int .i64 S.deep, .int .i64 S.haul, .int .i64 S.rest], .int .i64 0]) (by simp [results, Tryd.results67, go_sem, *]) rfl ⟨rfl, by (repeat (first | (with_reducible exact Below.refl _ _) | (with_reducible refine bAlloc ?_ _) | (with_reducible refine bDrew ?_) | (with_reducible refine bGrow ?_ _ _) | (with_reducible refine bSet ?_ ?_ _; (first | exact Nat.le_refl _ | exact Nat.le_add_right _ _ | (simp; omega))) | (with_reducible refine bTrans ?_ (by assumption))))⟩
/-- what open hands back else -/
theorem open_no (Ar Af : Option Addr) (cr cf : Nat) (S : Sh) (is : Bool) (w : World) (hr : S.nr ≤ 9223372036854775807) (hf : S.nf ≤ 9223372036854775807) (hS : ShAt w Ar Af S) (E : Int) (hE : (¬ S.Ok ∧ E = 20) ∨ (S.Ok ∧ is = false ∧ E = 1)) :
    Calls Tryd.prog 67 #[.agg #[.slice Ar S.nr cr, .slice Af S.nf cf, .int .i64 S.deep, .int .i64 S.haul, .int .i64 S.rest], .bool is] w fun e w' => e = .returned (.tuple #[.agg #[.slice none 0 0, .slice none 0 0, .int .i64 0, .int .i64 0, .int .i64 0], .int .i64 E]) ∧ Below w.heap.size w w' := by
  have hb0 := bAlloc (bAlloc (Below.refl w.heap.size w) (.cells #[.slice Ar S.nr cr, .slice Af S.nf cf, .int .i64 S.deep, .int .i64 S.haul, .int .i64 S.rest] 25)) (.cells #[.slice none 0 0, .slice none 0 0, .int .i64 0, .int .i64 0, .int .i64 0] 75)
  have HS := Lib.hid (hS.mono hb0)
  have HB := Lib.hid hb0
  clear hS hb0
  rcases hE with ⟨ok, rfl⟩ | ⟨ok, rfl, rfl⟩
  · have he := Sh.err_bad ok
    go_enter Tryd.func67, Tryd.ntmps67
    go_wp2_with (go_at_call 18; refine (check_any _ _ _ _ S _ hr hf HS.out).mono ?_; rintro e w1 ⟨rfl, hb1⟩; obtain ⟨bc, bf⟩ := bcell hb1; have hz := hb1.size; simp only [World.size_alloc] at hz; have hy : w.heap.size < w1.heap.size := (by omega); have hy2 : w.heap.size + 1 < w1.heap.size := (by omega))
    exact bodyPost_ret (v := .tuple #[.agg #[.slice none 0 0, .slice none 0 0, .int .i64 0, .int .i64 0, .int .i64 0], .int .i64 20]) (by simp [results, Tryd.results67, go_sem, *]) rfl ⟨rfl, by (repeat (first | (with_reducible exact Below.refl _ _) | (with_reducible refine bAlloc ?_ _) | (with_reducible refine bDrew ?_) | (with_reducible refine bGrow ?_ _ _) | (with_reducible refine bSet ?_ ?_ _; (first | exact Nat.le_refl _ | exact Nat.le_add_right _ _ | (simp; omega))) | (with_reducible refine bTrans ?_ (by assumption))))⟩
  · have he := Sh.err_ok ok
    go_enter Tryd.func67, Tryd.ntmps67
    go_wp2_with (go_at_call 18; refine (check_any _ _ _ _ S _ hr hf HS.out).mono ?_; rintro e w1 ⟨rfl, hb1⟩; obtain ⟨bc, bf⟩ := bcell hb1; have hz := hb1.size; simp only [World.size_alloc] at hz; have hy : w.heap.size < w1.heap.size := (by omega); have hy2 : w.heap.size + 1 < w1.heap.size := (by omega))
    exact bodyPost_ret (v := .tuple #[.agg #[.slice none 0 0, .slice none 0 0, .int .i64 0, .int .i64 0, .int .i64 0], .int .i64 1]) (by simp [results, Tryd.results67, go_sem, *]) rfl ⟨rfl, by (repeat (first | (with_reducible exact Below.refl _ _) | (with_reducible refine bAlloc ?_ _) | (with_reducible refine bDrew ?_) | (with_reducible refine bGrow ?_ _ _) | (with_reducible refine bSet ?_ ?_ _; (first | exact Nat.le_refl _ | exact Nat.le_add_right _ _ | (simp; omega))) | (with_reducible refine bTrans ?_ (by assumption))))⟩
end Go.Proofs.YtbbnpneabmldnaaDoor
