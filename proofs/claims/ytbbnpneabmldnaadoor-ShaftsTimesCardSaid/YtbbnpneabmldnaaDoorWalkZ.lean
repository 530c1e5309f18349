/- Walks: Fewest, Plan, Cheapest, Cheap of the program. -/
import Derived.Test.YtbbnpneabmldnaaDoorWalkY
namespace Go.Proofs.YtbbnpneabmldnaaDoor
open Go.RowKit Go.Sort
open Classical in
noncomputable def Sh.fewestOut (S : Sh) : Int × Int := if ¬ S.Ok then (0, 20) else if S.waysOf ltR S.nf 0 = noWay then (0, 3) else ((S.waysOf ltR S.nf 0).rings, 0)
open Classical in
noncomputable def Sh.cheapOut (S : Sh) : Int × Int := if ¬ S.Ok then (0, 20) else if S.waysOf ltP S.nf 0 = noWay then (0, 3) else (sumTo S.price S.nf + (S.waysOf ltP S.nf 0).pence, 0)
theorem fewestOut_bad {S : Sh} (h : ¬ S.Ok) : S.fewestOut = (0, 20) := if_pos h
theorem fewestOut_none {S : Sh} (h : S.Ok) (h2 : S.waysOf ltR S.nf 0 = noWay) : S.fewestOut = (0, 3) := by unfold Sh.fewestOut; rw [if_neg (not_not_intro h), if_pos h2]
theorem fewestOut_some {S : Sh} (h : S.Ok) (h2 : S.waysOf ltR S.nf 0 ≠ noWay) : S.fewestOut = ((S.waysOf ltR S.nf 0).rings, 0) := by unfold Sh.fewestOut; rw [if_neg (not_not_intro h), if_neg h2]
theorem cheapOut_bad {S : Sh} (h : ¬ S.Ok) : S.cheapOut = (0, 20) := if_pos h
theorem cheapOut_none {S : Sh} (h : S.Ok) (h2 : S.waysOf ltP S.nf 0 = noWay) : S.cheapOut = (0, 3) := by unfold Sh.cheapOut; rw [if_neg (not_not_intro h), if_pos h2]
theorem cheapOut_some {S : Sh} (h : S.Ok) (h2 : S.waysOf ltP S.nf 0 ≠ noWay) : S.cheapOut = (sumTo S.price S.nf + (S.waysOf ltP S.nf 0).pence, 0) := by unfold Sh.cheapOut; rw [if_neg (not_not_intro h), if_neg h2]
/-- what Plan and Cheapest hand back -/
def Stopped (w w' : World) (S : Sh) (f : Nat → Way) (e : Ending) : Prop :=
  Below w.heap.size w w' ∧ ((¬ S.Ok ∧ e = .returned (.tuple #[.slice none 0 0, .int .i64 20])) ∨ (S.Ok ∧ f 0 = noWay ∧ e = .returned (.tuple #[.slice none 0 0, .int .i64 3])) ∨
    (S.Ok ∧ f 0 ≠ noWay ∧ ∃ A m c g, e = .returned (.tuple #[.slice A m c, .int .i64 0]) ∧ m ≤ S.nf ∧ ChainTo f m g ∧ ¬ 0 < (f (stopAt g m)).next ∧ IntsAt w' A m g ∧ ∀ p, A = some p → w.heap.size ≤ p.block))
set_option maxHeartbeats 4000000 in
set_option maxRecDepth 100000 in
theorem Fewest_any (Ar Af : Option Addr) (cr cf : Nat) (S : Sh) (w : World) (hr : S.nr ≤ 9223372036854775807) (hf : S.nf ≤ 9223372036854775807) (hS : ShAt w Ar Af S) (hN : NoneAt w) :
    Calls Tryd.prog 39 #[.agg #[.slice Ar S.nr cr, .slice Af S.nf cf, .int .i64 S.deep, .int .i64 S.haul, .int .i64 S.rest]] w fun e w' => e = .returned (.tuple #[.int .i64 S.fewestOut.1, .int .i64 S.fewestOut.2]) ∧ Below w.heap.size w w' := by
  have hb0 := bAlloc (Below.refl w.heap.size w) (.cells #[.slice Ar S.nr cr, .slice Af S.nf cf, .int .i64 S.deep, .int .i64 S.haul, .int .i64 S.rest] 25)
  have HS := Lib.hid (hS.mono hb0)
  have HN := Lib.hid (hN.mono hb0)
  have HB := Lib.hid hb0
  clear hS hb0 hN
  go_enter Tryd.func39, Tryd.ntmps39
  go_wp2_with (go_at_call 73; refine (find_fewer _ _ _ _ S _ hr hf HS.out HN.out).mono ?_; rintro e w1 ⟨hb1, h1⟩; have hz1 := hb1.size; simp only [World.size_alloc] at hz1; have hy1 : w.heap.size < w1.heap.size := (by omega); rcases h1 with ⟨hok, rfl⟩ | ⟨hok, h2, rfl⟩ | ⟨hok, h2, A, m, c, g, rfl, hmn, hch, hend, hI, hblk⟩)
  · go_ret2
    exact ⟨by rw [fewestOut_bad hok]; rfl, by (repeat (first | (with_reducible exact Below.refl _ _) | (with_reducible refine bAlloc ?_ _) | (with_reducible refine bDrew ?_) | (with_reducible refine bGrow ?_ _ _) | (with_reducible refine bSet ?_ ?_ _; (first | exact Nat.le_refl _ | exact Nat.le_add_right _ _ | (simp; omega))) | (with_reducible refine bTrans ?_ (by assumption))))⟩
  · go_ret2
    exact ⟨by rw [fewestOut_none hok h2]; rfl, by (repeat (first | (with_reducible exact Below.refl _ _) | (with_reducible refine bAlloc ?_ _) | (with_reducible refine bDrew ?_) | (with_reducible refine bGrow ?_ _ _) | (with_reducible refine bSet ?_ ?_ _; (first | exact Nat.le_refl _ | exact Nat.le_add_right _ _ | (simp; omega))) | (with_reducible refine bTrans ?_ (by assumption))))⟩
  · go_ret2
    exact ⟨by rw [fewestOut_some hok h2]; rfl, by (repeat (first | (with_reducible exact Below.refl _ _) | (with_reducible refine bAlloc ?_ _) | (with_reducible refine bDrew ?_) | (with_reducible refine bGrow ?_ _ _) | (with_reducible refine bSet ?_ ?_ _; (first | exact Nat.le_refl _ | exact Nat.le_add_right _ _ | (simp; omega))) | (with_reducible refine bTrans ?_ (by assumption))))⟩
set_option maxHeartbeats 4000000 in
set_option maxRecDepth 100000 in
theorem Plan_any (Ar Af : Option Addr) (cr cf : Nat) (S : Sh) (w : World) (hr : S.nr ≤ 9223372036854775807) (hf : S.nf ≤ 9223372036854775807) (hS : ShAt w Ar Af S) (hN : NoneAt w) :
    Calls Tryd.prog 37 #[.agg #[.slice Ar S.nr cr, .slice Af S.nf cf, .int .i64 S.deep, .int .i64 S.haul, .int .i64 S.rest]] w fun e w' => Stopped w w' S (S.waysOf ltR S.nf) e := by
  have hb0 := bAlloc (Below.refl w.heap.size w) (.cells #[.slice Ar S.nr cr, .slice Af S.nf cf, .int .i64 S.deep, .int .i64 S.haul, .int .i64 S.rest] 25)
  have HS := Lib.hid (hS.mono hb0)
  have HN := Lib.hid (hN.mono hb0)
  have HB := Lib.hid hb0
  clear hS hb0 hN
  generalize hff : S.waysOf ltR S.nf = f
  have HF := Lib.hid hff
  clear hff
  go_enter Tryd.func37, Tryd.ntmps37
  go_wp2_with (go_at_call 73; refine (find_fewer _ _ _ _ S _ hr hf HS.out HN.out).mono ?_; rintro e w1 ⟨hb1, h1⟩; rw [HF.out] at h1; have hz1 := hb1.size; simp only [World.size_alloc] at hz1; have hy1 : w.heap.size < w1.heap.size := (by omega); have HH1 := Lib.hid h1; rcases h1 with ⟨hok, rfl⟩ | ⟨hok, h2, rfl⟩ | ⟨hok, h2, A, m, c, g, rfl, hmn, hch, hend, hI, hblk⟩)
  · go_ret2
    exact ⟨by (repeat (first | (with_reducible exact Below.refl _ _) | (with_reducible refine bAlloc ?_ _) | (with_reducible refine bDrew ?_) | (with_reducible refine bGrow ?_ _ _) | (with_reducible refine bSet ?_ ?_ _; (first | exact Nat.le_refl _ | exact Nat.le_add_right _ _ | (simp; omega))) | (with_reducible refine bTrans ?_ (by assumption)))), .inl ⟨hok, rfl⟩⟩
  · go_ret2
    exact ⟨by (repeat (first | (with_reducible exact Below.refl _ _) | (with_reducible refine bAlloc ?_ _) | (with_reducible refine bDrew ?_) | (with_reducible refine bGrow ?_ _ _) | (with_reducible refine bSet ?_ ?_ _; (first | exact Nat.le_refl _ | exact Nat.le_add_right _ _ | (simp; omega))) | (with_reducible refine bTrans ?_ (by assumption)))), .inr (.inl ⟨hok, h2, rfl⟩)⟩
  · go_ret2
    exact ⟨by (repeat (first | (with_reducible exact Below.refl _ _) | (with_reducible refine bAlloc ?_ _) | (with_reducible refine bDrew ?_) | (with_reducible refine bGrow ?_ _ _) | (with_reducible refine bSet ?_ ?_ _; (first | exact Nat.le_refl _ | exact Nat.le_add_right _ _ | (simp; omega))) | (with_reducible refine bTrans ?_ (by assumption)))), .inr (.inr ⟨hok, h2, A, m, c, g, rfl, hmn, hch, by omega, (hI.alloc _).alloc _, fun p hp => by have := hblk p hp; simp only [World.size_alloc] at this; omega⟩)⟩
set_option maxHeartbeats 4000000 in
set_option maxRecDepth 100000 in
theorem Cheapest_any (Ar Af : Option Addr) (cr cf : Nat) (S : Sh) (w : World) (hr : S.nr ≤ 9223372036854775807) (hf : S.nf ≤ 9223372036854775807) (hS : ShAt w Ar Af S) (hN : NoneAt w) :
    Calls Tryd.prog 28 #[.agg #[.slice Ar S.nr cr, .slice Af S.nf cf, .int .i64 S.deep, .int .i64 S.haul, .int .i64 S.rest]] w fun e w' => Stopped w w' S (S.waysOf ltP S.nf) e := by
  have hb0 := bAlloc (Below.refl w.heap.size w) (.cells #[.slice Ar S.nr cr, .slice Af S.nf cf, .int .i64 S.deep, .int .i64 S.haul, .int .i64 S.rest] 25)
  have HS := Lib.hid (hS.mono hb0)
  have HN := Lib.hid (hN.mono hb0)
  have HB := Lib.hid hb0
  clear hS hb0 hN
  generalize hff : S.waysOf ltP S.nf = f
  have HF := Lib.hid hff
  clear hff
  go_enter Tryd.func28, Tryd.ntmps28
  go_wp2_with (go_at_call 73; refine (find_cheaper _ _ _ _ S _ hr hf HS.out HN.out).mono ?_; rintro e w1 ⟨hb1, h1⟩; rw [HF.out] at h1; have hz1 := hb1.size; simp only [World.size_alloc] at hz1; have hy1 : w.heap.size < w1.heap.size := (by omega); have HH1 := Lib.hid h1; rcases h1 with ⟨hok, rfl⟩ | ⟨hok, h2, rfl⟩ | ⟨hok, h2, A, m, c, g, rfl, hmn, hch, hend, hI, hblk⟩)
  · go_ret2
    exact ⟨by (repeat (first | (with_reducible exact Below.refl _ _) | (with_reducible refine bAlloc ?_ _) | (with_reducible refine bDrew ?_) | (with_reducible refine bGrow ?_ _ _) | (with_reducible refine bSet ?_ ?_ _; (first | exact Nat.le_refl _ | exact Nat.le_add_right _ _ | (simp; omega))) | (with_reducible refine bTrans ?_ (by assumption)))), .inl ⟨hok, rfl⟩⟩
  · go_ret2
    exact ⟨by (repeat (first | (with_reducible exact Below.refl _ _) | (with_reducible refine bAlloc ?_ _) | (with_reducible refine bDrew ?_) | (with_reducible refine bGrow ?_ _ _) | (with_reducible refine bSet ?_ ?_ _; (first | exact Nat.le_refl _ | exact Nat.le_add_right _ _ | (simp; omega))) | (with_reducible refine bTrans ?_ (by assumption)))), .inr (.inl ⟨hok, h2, rfl⟩)⟩
  · go_ret2
    exact ⟨by (repeat (first | (with_reducible exact Below.refl _ _) | (with_reducible refine bAlloc ?_ _) | (with_reducible refine bDrew ?_) | (with_reducible refine bGrow ?_ _ _) | (with_reducible refine bSet ?_ ?_ _; (first | exact Nat.le_refl _ | exact Nat.le_add_right _ _ | (simp; omega))) | (with_reducible refine bTrans ?_ (by assumption)))), .inr (.inr ⟨hok, h2, A, m, c, g, rfl, hmn, hch, by omega, (hI.alloc _).alloc _, fun p hp => by have := hblk p hp; simp only [World.size_alloc] at this; omega⟩)⟩
theorem pence_bd {S : Sh} (ok : S.Ok) (lt : Way → Way → Bool) (k : Nat) (hk : k ≤ 12) : 0 ≤ (S.waysOf lt k 0).pence ∧ (S.waysOf lt k 0).pence ≤ 2484 := by
  have := waysOf_in ok lt k 0 (Nat.zero_le _)
  have h1 := this.p0
  have h2 := this.p1
  omega
set_option maxHeartbeats 4000000 in
set_option maxRecDepth 100000 in
theorem Cheap_any (Ar Af : Option Addr) (cr cf : Nat) (S : Sh) (w : World) (hr : S.nr ≤ 9223372036854775807) (hf : S.nf ≤ 9223372036854775807) (hS : ShAt w Ar Af S) (hN : NoneAt w) :
    Calls Tryd.prog 24 #[.agg #[.slice Ar S.nr cr, .slice Af S.nf cf, .int .i64 S.deep, .int .i64 S.haul, .int .i64 S.rest]] w fun e w' => e = .returned (.tuple #[.int .i64 S.cheapOut.1, .int .i64 S.cheapOut.2]) ∧ Below w.heap.size w w' := by
  have hb0 := bAlloc (Below.refl w.heap.size w) (.cells #[.slice Ar S.nr cr, .slice Af S.nf cf, .int .i64 S.deep, .int .i64 S.haul, .int .i64 S.rest] 25)
  have HS := Lib.hid (hS.mono hb0)
  have HN := Lib.hid (hN.mono hb0)
  have HB := Lib.hid hb0
  clear hS hb0 hN
  go_enter Tryd.func24, Tryd.ntmps24
  go_wp2_with (go_at_call 73; refine (find_cheaper _ _ _ _ S _ hr hf HS.out HN.out).mono ?_; rintro e w1 ⟨hb1, h1⟩; have hz1 := hb1.size; simp only [World.size_alloc] at hz1; have hy1 : w.heap.size < w1.heap.size := (by omega); have HS1 := Lib.hid (HS.out.mono hb1); rcases h1 with ⟨hok, rfl⟩ | ⟨hok, h2, rfl⟩ | ⟨hok, h2, A, m, c, g, rfl, hmn, hch, hend, hI, hblk⟩)
  · go_ret2
    exact ⟨by rw [cheapOut_bad hok]; rfl, by (repeat (first | (with_reducible exact Below.refl _ _) | (with_reducible refine bAlloc ?_ _) | (with_reducible refine bDrew ?_) | (with_reducible refine bGrow ?_ _ _) | (with_reducible refine bSet ?_ ?_ _; (first | exact Nat.le_refl _ | exact Nat.le_add_right _ _ | (simp; omega))) | (with_reducible refine bTrans ?_ (by assumption))))⟩
  · go_ret2
    exact ⟨by rw [cheapOut_none hok h2]; rfl, by (repeat (first | (with_reducible exact Below.refl _ _) | (with_reducible refine bAlloc ?_ _) | (with_reducible refine bDrew ?_) | (with_reducible refine bGrow ?_ _ _) | (with_reducible refine bSet ?_ ?_ _; (first | exact Nat.le_refl _ | exact Nat.le_add_right _ _ | (simp; omega))) | (with_reducible refine bTrans ?_ (by assumption))))⟩
  · clear hI hblk hch hend
    have hnf := hok.nf
    obtain ⟨p0, p1⟩ := pence_bd hok ltP S.nf hnf
    obtain ⟨y0, y1, y2, y3⟩ := digs_bd hok (k := S.nf) (Nat.le_refl _)
    have HE := Lib.hid (cheapOut_some hok h2)
    have e1 : IntKind.i64.wrap (sumTo S.price S.nf + (S.waysOf ltP S.nf 0).pence) = sumTo S.price S.nf + (S.waysOf ltP S.nf 0).pence := IntWalk.i64_in _ (by omega)
    clear h2
    refine wp_region_quiet_below (by kernel_rfl) (by kernel_rfl) ?_
    repeat (go_big_quiet_step ((go_at_call 75; exact Calls.regrown_of (digging_any _ _ _ _ S _ hok ((((HS1.out.mono (bAlloc (Below.refl _ _) _)).mono (bAlloc (Below.refl _ _) _))).mono (below_regrown _ _ _))))))
    refine wpQuiet_nil ?_
    clear e1
    intro w3 hw3
    have hb3 := below_of_regrown hw3
    clear hw3
    go_wp2_with fail
    go_ret2
    exact ⟨by rw [HE.out]; rfl, by (repeat (first | (with_reducible exact Below.refl _ _) | (with_reducible refine bAlloc ?_ _) | (with_reducible refine bDrew ?_) | (with_reducible refine bGrow ?_ _ _) | (with_reducible refine bSet ?_ ?_ _; (first | exact Nat.le_refl _ | exact Nat.le_add_right _ _ | (simp; omega))) | (with_reducible refine bTrans ?_ (by assumption))))⟩
end Go.Proofs.YtbbnpneabmldnaaDoor
