/- Walks: the rock, the price and the ring of a foot of a valid shaft, in the program and in the reference. -/
import Derived.Test.YtbbnpneabmldnaaDoorWalkD
import Derived.Test.YtbbnpneabmldnaaDoorShaftMath
namespace Go.Proofs.YtbbnpneabmldnaaDoor
open Go.RowKit Go.Sort

theorem mul_bd {a b : Int} (h0 : 0 ≤ a) (h1 : a ≤ 12) (h2 : 0 ≤ b) (h3 : b ≤ 9) : 0 ≤ a * b ∧ a * b ≤ 108 :=
  ⟨Int.mul_nonneg h0 h2, by have := Int.mul_le_mul h1 h3 h2 (by omega : (0:Int) ≤ 12); omega⟩
theorem rockOf_any (Ar Af : Option Addr) (cr cf : Nat) (S : Sh) (w : World) (ok : S.Ok) (hS : ShAt w Ar Af S) (n : Int) (i : Nat) (hn : n = i) (hi : i < S.nf) :
    Calls Tryd.prog 72 #[.agg #[.slice Ar S.nr cr, .slice Af S.nf cf, .int .i64 S.deep, .int .i64 S.haul, .int .i64 S.rest], .int .i64 n] w fun e w' => e = .returned (.agg #[.int .i64 (S.rk i).hours, .int .i64 (S.rk i).pence, .int .i64 (S.rk i).stand, .int .i64 (S.rk i).seat]) ∧ Below w.heap.size w w' := by
  subst hn
  obtain ⟨ba, oa, bf, of_, k, rfl, rfl, hba, hbf, hk, c0, c1, c2, c3, c4⟩ := hS.foot ok hi
  have hnr := ok.nr
  have hnf := ok.nf
  go_enter Tryd.func72, Tryd.ntmps72
  go_wp2_with fail
  go_region
  go_wp2_with fail
  exact bodyPost_ret (v := .agg #[.int .i64 (S.rk i).hours, .int .i64 (S.rk i).pence, .int .i64 (S.rk i).stand, .int .i64 (S.rk i).seat]) (by simp [results, Tryd.results72, go_sem]) rfl ⟨rfl, by (repeat (first | (with_reducible exact Below.refl _ _) | (with_reducible refine bAlloc ?_ _) | (with_reducible refine bDrew ?_) | (with_reducible refine bGrow ?_ _ _) | (with_reducible refine bSet ?_ ?_ _; (first | exact Nat.le_refl _ | exact Nat.le_add_right _ _ | (simp; omega))) | (with_reducible refine bTrans ?_ (by assumption))))⟩
theorem rock_any (Ar Af : Option Addr) (cr cf : Nat) (S : Sh) (w : World) (ok : S.Ok) (hS : ShAt w Ar Af S) (n : Int) (i : Nat) (hn : n = i) (hi : i < S.nf) :
    Calls Tryd.prog 88 #[.agg #[.slice Ar S.nr cr, .slice Af S.nf cf, .int .i64 S.deep, .int .i64 S.haul, .int .i64 S.rest], .int .i64 n] w fun e w' => e = .returned (.agg #[.int .i64 (S.rk i).hours, .int .i64 (S.rk i).pence, .int .i64 (S.rk i).stand, .int .i64 (S.rk i).seat]) ∧ Below w.heap.size w w' := by
  subst hn
  obtain ⟨ba, oa, bf, of_, k, rfl, rfl, hba, hbf, hk, c0, c1, c2, c3, c4⟩ := hS.foot ok hi
  have hnr := ok.nr
  have hnf := ok.nf
  go_enter Tryd.func88, Tryd.ntmps88
  go_wp2_with fail
  go_region
  go_wp2_with fail
  exact bodyPost_ret (v := .agg #[.int .i64 (S.rk i).hours, .int .i64 (S.rk i).pence, .int .i64 (S.rk i).stand, .int .i64 (S.rk i).seat]) (by simp [results, Tryd.results88, go_sem]) rfl ⟨rfl, by (repeat (first | (with_reducible exact Below.refl _ _) | (with_reducible refine bAlloc ?_ _) | (with_reducible refine bDrew ?_) | (with_reducible refine bGrow ?_ _ _) | (with_reducible refine bSet ?_ ?_ _; (first | exact Nat.le_refl _ | exact Nat.le_add_right _ _ | (simp; omega))) | (with_reducible refine bTrans ?_ (by assumption))))⟩
theorem priceOf_any (Ar Af : Option Addr) (cr cf : Nat) (S : Sh) (w : World) (ok : S.Ok) (hS : ShAt w Ar Af S) (i : Nat) (hi : i < S.nf) :
    Calls Tryd.prog 71 #[.agg #[.slice Ar S.nr cr, .slice Af S.nf cf, .int .i64 S.deep, .int .i64 S.haul, .int .i64 S.rest], .int .i64 i] w fun e w' => e = .returned (.int .i64 (S.price i)) ∧ Below w.heap.size w w' := by
  have hb0 := bAlloc (Below.refl w.heap.size w) (.cells #[.slice Ar S.nr cr, .slice Af S.nf cf, .int .i64 S.deep, .int .i64 S.haul, .int .i64 S.rest] 25)
  have HS := Lib.hid (hS.mono hb0)
  have HB := Lib.hid hb0
  clear hS hb0
  have hr := ok.rk hi
  have hp0 := hr.p0
  have hp1 := hr.p1
  have hnf := ok.nf
  obtain ⟨m0, m1⟩ := mul_bd (a := i) (b := S.deep) (by omega) (by omega) ok.d0 ok.d1
  go_enter Tryd.func71, Tryd.ntmps71
  go_wp2_with fail
  refine wp_region_quiet_below (by kernel_rfl) (by kernel_rfl) ?_
  repeat (go_big_quiet_step ((go_at_call 72; exact Calls.regrown_of (rockOf_any _ _ _ _ S _ ok (HS.out.mono (below_regrown _ _ _)) _ i rfl hi))))
  refine wpQuiet_nil ?_
  intro w1 hw1
  have hb1 := below_of_regrown hw1
  clear hw1
  go_wp2_with fail
  go_ret
  exact ⟨rfl, bTrans HB.out hb1⟩
theorem ringOf_any (Ar Af : Option Addr) (cr cf : Nat) (S : Sh) (w : World) (ok : S.Ok) (hS : ShAt w Ar Af S) (n : Int) (d : Nat) (hn : n = d) (h1 : 1 ≤ d) (hd : d ≤ S.nf) :
    Calls Tryd.prog 56 #[.agg #[.slice Ar S.nr cr, .slice Af S.nf cf, .int .i64 S.deep, .int .i64 S.haul, .int .i64 S.rest], .int .i64 n] w fun e w' => e = .returned (.int .i64 (S.ringc d)) ∧ Below w.heap.size w w' := by
  subst hn
  have hb0 := bAlloc (Below.refl w.heap.size w) (.cells #[.slice Ar S.nr cr, .slice Af S.nf cf, .int .i64 S.deep, .int .i64 S.haul, .int .i64 S.rest] 25)
  have HS := Lib.hid (hS.mono hb0)
  have HB := Lib.hid hb0
  clear hS hb0
  have hi : d - 1 < S.nf := by omega
  have hr := ok.rk hi
  have hp0 := hr.t0
  have hp1 := hr.t1
  have hnf := ok.nf
  obtain ⟨m0, m1⟩ := mul_bd (a := d) (b := S.haul) (by omega) (by omega) ok.l0 ok.l1
  go_enter Tryd.func56, Tryd.ntmps56
  go_wp2_with fail
  refine wp_region_quiet_below (by kernel_rfl) (by kernel_rfl) ?_
  repeat (go_big_quiet_step ((go_at_call 72; exact Calls.regrown_of (rockOf_any _ _ _ _ S _ ok (HS.out.mono (below_regrown _ _ _)) _ (d - 1) (by omega) hi))))
  refine wpQuiet_nil ?_
  intro w1 hw1
  have hb1 := below_of_regrown hw1
  clear hw1
  go_wp2_with fail
  go_ret
  exact ⟨rfl, bTrans HB.out hb1⟩
theorem canRest_any (Ar Af : Option Addr) (cr cf : Nat) (S : Sh) (w : World) (ok : S.Ok) (hS : ShAt w Ar Af S) (n : Int) (d : Nat) (hn : n = d) (h1 : 1 ≤ d) (hd : d ≤ S.nf) :
    Calls Tryd.prog 54 #[.agg #[.slice Ar S.nr cr, .slice Af S.nf cf, .int .i64 S.deep, .int .i64 S.haul, .int .i64 S.rest], .int .i64 n] w fun e w' => e = .returned (.bool (S.restsB d)) ∧ Below w.heap.size w w' := by
  subst hn
  have hb0 := bAlloc (Below.refl w.heap.size w) (.cells #[.slice Ar S.nr cr, .slice Af S.nf cf, .int .i64 S.deep, .int .i64 S.haul, .int .i64 S.rest] 25)
  have HS := Lib.hid (hS.mono hb0)
  have HB := Lib.hid hb0
  clear hS hb0
  have hi : d - 1 < S.nf := by omega
  have hnf := ok.nf
  go_enter Tryd.func54, Tryd.ntmps54
  go_wp2_with (go_at_call 72; refine (rockOf_any _ _ _ _ S _ ok HS.out _ (d - 1) (by omega) hi).mono ?_; rintro e w1 ⟨rfl, hb1⟩)
  go_ret
  exact ⟨rfl, bTrans HB.out hb1⟩
theorem rests_any (Ar Af : Option Addr) (cr cf : Nat) (S : Sh) (w : World) (ok : S.Ok) (hS : ShAt w Ar Af S) (n : Int) (d : Nat) (hn : n = d) (h1 : 1 ≤ d) (hd : d ≤ S.nf) :
    Calls Tryd.prog 91 #[.agg #[.slice Ar S.nr cr, .slice Af S.nf cf, .int .i64 S.deep, .int .i64 S.haul, .int .i64 S.rest], .int .i64 n] w fun e w' => e = .returned (.bool (S.restsB d)) ∧ Below w.heap.size w w' := by
  subst hn
  have hb0 := bAlloc (Below.refl w.heap.size w) (.cells #[.slice Ar S.nr cr, .slice Af S.nf cf, .int .i64 S.deep, .int .i64 S.haul, .int .i64 S.rest] 75)
  have HS := Lib.hid (hS.mono hb0)
  have HB := Lib.hid hb0
  clear hS hb0
  have hi : d - 1 < S.nf := by omega
  have hnf := ok.nf
  go_enter Tryd.func91, Tryd.ntmps91
  go_wp2_with (go_at_call 88; refine (rock_any _ _ _ _ S _ ok HS.out _ (d - 1) (by omega) hi).mono ?_; rintro e w1 ⟨rfl, hb1⟩)
  go_ret
  exact ⟨rfl, bTrans HB.out hb1⟩
theorem plus_any (a b c d : Int) (w : World) (h : 0 ≤ a ∧ a ≤ 10000 ∧ 0 ≤ b ∧ b ≤ 10000 ∧ -1 ≤ c ∧ c ≤ 10000 ∧ 0 ≤ d ∧ d ≤ 10000) :
    Calls Tryd.prog 84 #[.agg #[.int .i64 a, .int .i64 b], .agg #[.int .i64 c, .int .i64 d]] w fun e w' => e = .returned (.agg #[.int .i64 (a + c), .int .i64 (b + d)]) ∧ Below w.heap.size w w' := by
  obtain ⟨a0, a1, b0, b1, c0, c1, d0, d1⟩ := h
  go_enter Tryd.func84, Tryd.ntmps84
  go_wp2_with fail
  exact bodyPost_ret (v := .agg #[.int .i64 (a + c), .int .i64 (b + d)]) (by simp [results, Tryd.results84, go_sem]) rfl ⟨rfl, by (repeat (first | (with_reducible exact Below.refl _ _) | (with_reducible refine bAlloc ?_ _) | (with_reducible refine bDrew ?_) | (with_reducible refine bGrow ?_ _ _) | (with_reducible refine bSet ?_ ?_ _; (first | exact Nat.le_refl _ | exact Nat.le_add_right _ _ | (simp; omega))) | (with_reducible refine bTrans ?_ (by assumption))))⟩
end Go.Proofs.YtbbnpneabmldnaaDoor
