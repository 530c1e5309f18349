/- Parts joined: what the claim PlacesWho needs beyond the others. -/
import Derived.Test.YtjpfdhhiofjpbaaGreatDoorTie
import Derived.ProofKit
import Derived.LaidMore
import Derived.OpenShut
import Derived.Deep.Slices
import Derived.Deep.Fields
import Derived.Stop.Joined
import Derived.Test.YtjpfdhhiofjpbaaGreatDoorNQA
import Derived.Test.YtjpfdhhiofjpbaaGreatDoorNQB
import Derived.Test.YtjpfdhhiofjpbaaGreatDoorNQC
import Derived.Test.YtjpfdhhiofjpbaaGreatDoorNQD
import Derived.Test.YtjpfdhhiofjpbaaGreatDoorNQE
import Derived.Test.YtjpfdhhiofjpbaaGreatDoorNQF
import Derived.Test.YtjpfdhhiofjpbaaGreatDoorNQG
import Derived.Test.YtjpfdhhiofjpbaaGreatDoorNQH
import Derived.Test.YtjpfdhhiofjpbaaGreatDoorNQI
import Derived.Test.YtjpfdhhiofjpbaaGreatDoorNQJ
import Derived.Test.YtjpfdhhiofjpbaaGreatDoorNQK
import Derived.Test.YtjpfdhhiofjpbaaGreatDoorNQL
import Derived.Test.YtjpfdhhiofjpbaaGreatDoorNQM
import Derived.Test.YtjpfdhhiofjpbaaGreatDoorNQN
import Derived.Test.YtjpfdhhiofjpbaaGreatDoorNQO
import Derived.Test.YtjpfdhhiofjpbaaGreatDoorNQP
import Derived.Test.YtjpfdhhiofjpbaaGreatDoorNQQ
import Derived.Test.YtjpfdhhiofjpbaaGreatDoorNQR
import Derived.Test.YtjpfdhhiofjpbaaGreatDoorNQS
import Derived.Test.YtjpfdhhiofjpbaaGreatDoorNQT
import Derived.Test.YtjpfdhhiofjpbaaGreatDoorNQU
set_option linter.unusedSimpArgs false
set_option linter.unusedVariables false
namespace Go.Proofs.YtjpfdhhiofjpbaaGreatDoor
open Go.RowKit Go.Sort
theorem isWell5_any (Aw Af : Option Addr) (cw cf : Nat) (t : Qt) (n : Int) (w : World) :
    Calls Tryz.prog 116 #[.agg #[.int .i64 t.wells, .slice Aw t.nw cw, .slice Af t.nf cf], .int .i64 n] w fun e w' => e = .returned (.bool (t.wellB n)) ∧ Below w.heap.size w w' := by
  obtain ⟨m, hm⟩ : ∃ m, IntKind.i64.wrap (t.wells - 1) = m := ⟨_, rfl⟩
  have H := Lib.hid (show inR n 0 m = t.wellB n by unfold Qt.wellB; rw [hm])
  go_enter Tryz.func116, Tryz.ntmps116
  go_wp2_with fail
  refine (within5_b _ _ _ _ _ H.out).mono ?_
  rintro e w' ⟨rfl, rfl⟩
  go_wp2_with fail
  go_ret
  exact ⟨rfl, bAlloc (Below.refl _ _) _⟩
end Go.Proofs.YtjpfdhhiofjpbaaGreatDoor

namespace Go.Proofs.YtjpfdhhiofjpbaaGreatDoor
open Go.RowKit Go.Sort
theorem known1_any (so all : Int) (w : World) :
    Calls Tryz.prog 99 #[.int .i64 so, .int .i64 all] w fun e w' => e = .returned (.int .i64 (knownK so all)) ∧ Below w.heap.size w w' := by
  by_cases h0 : so = 0
  · have g0 : (so == 0) = true := by simp [h0]
    have HK := Lib.hid (show knownK so all = 2 by unfold knownK; rw [if_pos h0])
    go_enter Tryz.func99, Tryz.ntmps99
    go_wp2_with fail
    go_ret
    exact ⟨by rw [HK.out]; rfl, Below.refl _ _⟩
  · have g0 : (so == 0) = false := by simp [h0]
    by_cases h1 : so = all
    · have g1 : (so == all) = true := by simp [h1]
      have HK := Lib.hid (show knownK so all = 1 by unfold knownK; rw [if_neg h0, if_pos h1])
      clear h1
      go_enter Tryz.func99, Tryz.ntmps99
      go_wp2_with fail
      go_ret
      exact ⟨by rw [HK.out]; rfl, Below.refl _ _⟩
    · have g1 : (so == all) = false := by simp [h1]
      have HK := Lib.hid (show knownK so all = 3 by unfold knownK; rw [if_neg h0, if_neg h1])
      go_enter Tryz.func99, Tryz.ntmps99
      go_wp2_with fail
      go_ret
      exact ⟨by rw [HK.out]; rfl, Below.refl _ _⟩
end Go.Proofs.YtjpfdhhiofjpbaaGreatDoor

namespace Go.Proofs.YtjpfdhhiofjpbaaGreatDoor
open Go.RowKit Go.Sort Go.ChangeShapes Go.WideShapes Go.ChangeAt Go.Deep
section
variable {H : Type} {enc : TypeId × Value → H} {P : Program}
end
section
variable {H : Type} {enc : TypeId × Value → H} {P : Program} {w : World} {base : Nat} {sp : Nat → Bool} {held : Bool}
/-! ### What fits into memory -/
end
theorem int_wf {n : Int} (h : (Lit.int .i64 n).wf = true) : -9223372036854775808 ≤ n ∧ n ≤ 9223372036854775807 := by
  simp only [Lit.wf, Bool.and_eq_true, decide_eq_true_eq] at h
  exact h
section
variable {H : Type} {enc : TypeId × Value → H} {P : Program} {w : World} {base b0 : Nat} {r : Reach} {sp : Nat → Bool} {held : Bool}
end

/-! ### The table of math/bits that is listed -/
end Go.Proofs.YtjpfdhhiofjpbaaGreatDoor

namespace Go.Proofs.YtjpfdhhiofjpbaaGreatDoor
open Go.RowKit Go.Sort
attribute [local go_sem] neqFact
set_option maxHeartbeats 4000000 in
set_option maxRecDepth 100000 in
theorem same5_any (Aw Af Bw Bf : Option Addr) (cw cf dw df : Nat) (t : Qt) (w : World) (hs : t.Small) (hA : QAt w Aw Af t) (hB : QAt w Bw Bf t) :
    Calls Tryz.prog 92 #[.agg #[.int .i64 t.wells, .slice Aw t.nw cw, .slice Af t.nf cf], .agg #[.int .i64 t.wells, .slice Bw t.nw dw, .slice Bf t.nf df]] w fun e w' => e = .returned (.bool true) ∧ Below w.heap.size w w' := by
  have hb2 := bAlloc (bAlloc (Below.refl w.heap.size w) (.cells #[.int .i64 t.wells, .slice Aw t.nw cw, .slice Af t.nf cf] 25)) (.cells #[.int .i64 t.wells, .slice Bw t.nw dw, .slice Bf t.nf df] 25)
  have HA := Lib.hid (hA.mono hb2)
  have HB := Lib.hid (hB.mono hb2)
  have HBB := Lib.hid hb2
  have HS := Lib.hid hs
  have hn := hs.1
  have hm := hs.2.1
  clear hA hB hb2 hs
  go_enter Tryz.func92, Tryz.ntmps92
  go_wp2_with fail
  go_loopw [5] (fun s wr => ∃ k : Nat, k ≤ t.nf ∧ s = .int .i64 k ∧ Below ((w.alloc (.cells #[.int .i64 t.wells, .slice Aw t.nw cw, .slice Af t.nf cf] 25)).alloc (.cells #[.int .i64 t.wells, .slice Bw t.nw dw, .slice Bf t.nf df] 25)).heap.size ((w.alloc (.cells #[.int .i64 t.wells, .slice Aw t.nw cw, .slice Af t.nf cf] 25)).alloc (.cells #[.int .i64 t.wells, .slice Bw t.nw dw, .slice Bf t.nf df] 25)) wr) (fun s _ => t.nf - (intOf s).toNat)
  case atStart => exact ⟨0, Nat.zero_le _, rfl, Below.refl _ _⟩
  case round =>
    obtain ⟨k, hk, rfl, hbel⟩ := hrel
    have HL := Lib.hid hbel
    obtain ⟨bc3, bf3⟩ := bcell hbel
    have hz3 := hbel.size
    simp only [World.size_alloc] at hz3
    have hy3 : w.heap.size < wr.heap.size := by omega
    have hv3 : w.heap.size + 1 < wr.heap.size := by omega
    clear hbel
    by_cases hlt : k < t.nf
    · have k1 : (k : Int) < (t.nf : Int) := by omega
      have k0 : (0 : Int) ≤ (k : Int) := by omega
      rcases (HA.out.mono HL.out).facts with h0 | ⟨b, o, e1, hb, hc⟩
      · omega
      obtain ⟨c0, c1, c2, c3, c4⟩ := hc k hlt
      subst e1
      rcases (HB.out.mono HL.out).facts with h0 | ⟨b2, o2, e2, hb2, hc2⟩
      · omega
      obtain ⟨d0, d1, d2, d3, d4⟩ := hc2 k hlt
      subst e2
      generalize t.fact k = f at *
      obtain ⟨f0, f1, f2, f3, f4⟩ := f
      simp only at c0 c1 c2 c3 c4 d0 d1 d2 d3 d4
      clear hc hc2
      go_wp2_with fail
      refine wp_region_quiet_below (by kernel_rfl) (by kernel_rfl) ?_
      repeat (go_big_quiet_step ((fail)))
      refine wpQuiet_nil ?_
      intro w9 hw9
      have HL9 := Lib.hid (bTrans HL.out (below_of_regrown hw9))
      clear hw9
      go_wp2_with fail
      go_roundw
      case rel =>
        refine ⟨k + 1, by omega, ?_, HL9.out⟩
        go_num
      case measure => simp [intOf]; omega
    · obtain rfl : k = t.nf := by omega
      have hk1 : ¬ ((t.nf : Int) < (t.nf : Int)) := by omega
      go_wp2_with fail
      clear bc3 bf3 hz3 hy3 hv3
      go_loopw [6] (fun s wx => ∃ i : Nat, i ≤ t.nw ∧ s = .int .i64 i ∧ Below ((w.alloc (.cells #[.int .i64 t.wells, .slice Aw t.nw cw, .slice Af t.nf cf] 25)).alloc (.cells #[.int .i64 t.wells, .slice Bw t.nw dw, .slice Bf t.nf df] 25)).heap.size ((w.alloc (.cells #[.int .i64 t.wells, .slice Aw t.nw cw, .slice Af t.nf cf] 25)).alloc (.cells #[.int .i64 t.wells, .slice Bw t.nw dw, .slice Bf t.nf df] 25)) wx) (fun s _ => t.nw - (intOf s).toNat)
      case atStart => exact ⟨0, Nat.zero_le _, rfl, HL.out⟩
      case round =>
        obtain ⟨i, hi, rfl, hbel⟩ := hrel
        have HX := Lib.hid hbel
        obtain ⟨bc3, bf3⟩ := bcell hbel
        have hz3 := hbel.size
        simp only [World.size_alloc] at hz3
        have hy3 : w.heap.size < wr.heap.size := by omega
        have hv3 : w.heap.size + 1 < wr.heap.size := by omega
        clear hbel
        by_cases hlt : i < t.nw
        · have k1 : (i : Int) < (t.nw : Int) := by omega
          have k0 : (0 : Int) ≤ (i : Int) := by omega
          rcases (HA.out.mono HX.out).worlds with h0 | ⟨b, o, e1, hb, hc⟩
          · omega
          obtain ⟨A1, a1, c0, hr1, hl1⟩ := hc i hlt
          subst e1
          rcases (HB.out.mono HX.out).worlds with h0 | ⟨b2, o2, e2, hb2, hc2⟩
          · omega
          obtain ⟨A2, a2, d0, hr2, _⟩ := hc2 i hlt
          subst e2
          obtain ⟨x, hx⟩ : ∃ x, t.world i = x := ⟨_, rfl⟩
          rw [hx] at c0 hr1 hl1 d0 hr2
          have HR1 := Lib.hid hr1
          have HR2 := Lib.hid hr2
          clear hc hc2 hx hr1 hr2
          go_wp2_with fail
          refine wp_region_quiet_below (by kernel_rfl) (by kernel_rfl) ?_
          repeat (go_big_quiet_step ((fail)))
          refine wpQuiet_nil ?_
          intro w9 hw9
          have hb9 := below_of_regrown hw9
          have HX9 := Lib.hid (bTrans HX.out hb9)
          have HD9 := Lib.hid hb9
          have e0 := (hb9.cell (p := ⟨b, o + i, none⟩) hb).trans c0
          have e1 := (hb9.cell (p := ⟨b2, o2 + i, none⟩) hb2).trans d0
          have hb' := Nat.lt_of_lt_of_le hb hb9.size
          have hb2' := Nat.lt_of_lt_of_le hb2 hb9.size
          have HE0 := Lib.hid e0
          have HE1 := Lib.hid e1
          clear hw9 hb9 c0 d0 hb hb2 bc3 bf3 hz3 hy3 hv3
          go_wp2_with fail
          clear e0 e1
          go_loopw [7] (fun s wy => ∃ j : Nat, j ≤ x.n ∧ s = .int .i64 j ∧ Below w9.heap.size w9 wy) (fun s _ => x.n - (intOf s).toNat)
          case atStart => exact ⟨0, Nat.zero_le _, rfl, Below.refl _ _⟩
          case round =>
            obtain ⟨j, hj, rfl, hbel⟩ := hrel
            have HY := Lib.hid hbel
            have HYB := Lib.hid (bTrans HX9.out hbel)
            have HYD := Lib.hid (bTrans HD9.out hbel)
            obtain ⟨bc3, bf3⟩ := bcell HYB.out
            have hz3 := HYB.out.size
            simp only [World.size_alloc] at hz3
            have hy3 : w.heap.size < wr.heap.size := by omega
            have hv3 : w.heap.size + 1 < wr.heap.size := by omega
            have c0 := (hbel.cell (p := ⟨b, o + i, none⟩) hb').trans HE0.out
            have d0 := (hbel.cell (p := ⟨b2, o2 + i, none⟩) hb2').trans HE1.out
            have hbb := Nat.lt_of_lt_of_le hb' hbel.size
            have hbb2 := Nat.lt_of_lt_of_le hb2' hbel.size
            clear hbel
            by_cases hlj : j < x.n
            · have j1 : (j : Int) < (x.n : Int) := by omega
              have j0 : (0 : Int) ≤ (j : Int) := by omega
              rcases HR1.out.mono HYD.out with h0 | ⟨b3, o3, e3, hb3, hc3⟩
              · omega
              obtain ⟨A3, a3, c3, hi3, hl3⟩ := hc3 j hlj
              subst e3
              rcases HR2.out.mono HYD.out with h0 | ⟨b4, o4, e4, hb4, hc4⟩
              · omega
              obtain ⟨A4, a4, c4, hi4, _⟩ := hc4 j hlj
              subst e4
              have HSI := Lib.hid (fun (w' : World) (hb : Below wr.heap.size wr w') => (by
                have := sameInts_any A3 A4 (x.len j) (x.len j) a3 a4 (x.fall j) (x.fall j) w' hl3 hl3 (hi3.mono hb) (hi4.mono hb)
                rw [show (decide (x.len j = x.len j) && !anyB (fun i => x.fall j i != x.fall j i) (x.len j)) = true by rw [anyB_false.2 fun i _ => by simp]; simp] at this
                exact this : Calls Tryz.prog 32 #[.slice A3 (x.len j) a3, .slice A4 (x.len j) a4] w' fun e w'' => e = .returned (.bool true) ∧ Below w'.heap.size w' w''))
              clear hc3 hc4 hi3 hi4
              go_wp2_with fail
              refine wp_region_quiet_below (by kernel_rfl) (by kernel_rfl) ?_
              repeat (go_big_quiet_step (((go_at_call 32; with_reducible exact Calls.regrown_of (HSI.out _ (below_regrown _ _ _))))))
              refine wpQuiet_nil ?_
              intro w8 hw8
              have HY8 := Lib.hid (bTrans HY.out (below_of_regrown hw8))
              clear hw8
              go_wp2_with fail
              go_roundw
              case rel =>
                refine ⟨j + 1, by omega, ?_, HY8.out⟩
                go_num
              case measure => simp [intOf]; omega
            · obtain rfl : j = x.n := by omega
              have hj1 : ¬ ((x.n : Int) < (x.n : Int)) := by omega
              go_wp2_with fail
              go_roundw
              case rel =>
                refine ⟨i + 1, by omega, ?_, HYB.out⟩
                go_num
              case measure => simp [intOf]; omega
        · obtain rfl : i = t.nw := by omega
          go_wp2_with fail
          go_ret
          exact ⟨rfl, bTrans HBB.out HX.out⟩
end Go.Proofs.YtjpfdhhiofjpbaaGreatDoor

namespace Go.Proofs.YtjpfdhhiofjpbaaGreatDoor
open Go.RowKit Go.Sort
attribute [local go_sem ↓] neqRock9
theorem sameInts_t (A B : Option Addr) (n c c' : Nat) (f : Nat → Int) (w : World) (hn : n ≤ 9223372036854775807) (hf : IntsAt w A n f) (hg : IntsAt w B n f) :
    Calls Tryz.prog 32 #[.slice A n c, .slice B n c'] w fun e w' => e = .returned (.bool true) ∧ Below w.heap.size w w' := by
  have := sameInts_any A B n n c c' f f w hn hn hf hg
  rw [show (decide (n = n) && !anyB (fun i => f i != f i) n) = true by rw [anyB_false.2 fun i _ => by simp]; simp] at this
  exact this
set_option maxHeartbeats 4000000 in
set_option maxRecDepth 100000 in
theorem sameSh_any (Ar Af Ar' Af' : Option Addr) (cr cf cr' cf' : Nat) (S : Sh) (w : World) (hr : S.nr ≤ 9223372036854775807) (hf : S.nf ≤ 9223372036854775807) (hS : ShAt w Ar Af S) (hS' : ShAt w Ar' Af' S) :
    Calls Tryz.prog 154 #[.agg #[.slice Ar S.nr cr, .slice Af S.nf cf, .int .i64 S.deep, .int .i64 S.haul, .int .i64 S.rest], .agg #[.slice Ar' S.nr cr', .slice Af' S.nf cf', .int .i64 S.deep, .int .i64 S.haul, .int .i64 S.rest]] w fun e w' => e = .returned (.bool true) ∧ Below w.heap.size w w' := by
  have hb0 := bAlloc (bAlloc (Below.refl w.heap.size w) (.cells #[.slice Ar S.nr cr, .slice Af S.nf cf, .int .i64 S.deep, .int .i64 S.haul, .int .i64 S.rest] 57)) (.cells #[.slice Ar' S.nr cr', .slice Af' S.nf cf', .int .i64 S.deep, .int .i64 S.haul, .int .i64 S.rest] 57)
  have HS := Lib.hid (hS.mono hb0)
  have HS' := Lib.hid (hS'.mono hb0)
  have HB := Lib.hid hb0
  clear hS hS' hb0
  go_enter Tryz.func154, Tryz.ntmps154
  go_wp2_with (go_at_call 32; refine (sameInts_t _ _ _ _ _ S.foot _ (by omega) HS.out.feet HS'.out.feet).mono ?_; rintro e w1 ⟨rfl, hb1⟩)
  have HS1 := Lib.hid (HS.out.mono hb1)
  have HS1' := Lib.hid (HS'.out.mono hb1)
  have HB1 := Lib.hid (bTrans HB.out hb1)
  have HBX := Lib.hid hb1
  clear hb1
  go_loopw [5] (fun i wr => ∃ k : Nat, k ≤ S.nr ∧ i = .int .i64 k ∧ Below w1.heap.size w1 wr) (fun i _ => S.nr - (intOf i).toNat)
  case atStart => exact ⟨0, Nat.zero_le _, rfl, Below.refl _ _⟩
  case round =>
    obtain ⟨k, hk, rfl, hbel⟩ := hrel
    obtain ⟨bc, bf⟩ := bcell (bTrans HBX.out hbel)
    have hz := hbel.size
    have hz1 := HBX.out.size
    simp only [World.size_alloc] at hz1
    have hy : w.heap.size < wr.heap.size := by omega
    have hy1 : w.heap.size + 1 < wr.heap.size := by omega
    by_cases hlt : k < S.nr
    · rcases (HS1.out.mono hbel).rocks with h0 | ⟨b, o, hA, hb, hcell⟩
      · omega
      obtain ⟨c0, c1, c2, c3⟩ := hcell k hlt
      clear hcell
      subst hA
      rcases (HS1'.out.mono hbel).rocks with h0 | ⟨b', o', hA', hb', hcell⟩
      · omega
      obtain ⟨d0, d1, d2, d3⟩ := hcell k hlt
      clear hcell
      subst hA'
      go_wp2_with fail
      refine wp_region_quiet_below (by kernel_rfl) (by kernel_rfl) ?_
      repeat (go_big_quiet_step ((fail)))
      refine wpQuiet_nil ?_
      intro w3 hw3
      have hb3 := below_of_regrown hw3
      clear hw3
      go_wp2_with fail
      go_roundw
      case rel => exact ⟨k + 1, by omega, by go_num, bTrans hbel hb3⟩
      case measure => simp [intOf]; omega
    · obtain rfl : k = S.nr := by omega
      go_wp2_with fail
      go_ret
      exact ⟨rfl, bTrans HB1.out hbel⟩
set_option maxHeartbeats 8000000 in
set_option maxRecDepth 100000 in
theorem sameSpots9_any (A B : Option Addr) (n c c' : Nat) (f : Nat → Spot) (w : World) (hn : n ≤ 9223372036854775807) (hs : ∀ i, i < n → (f i).Small) (hA : SpotsAt w A n f) (hB : SpotsAt w B n f) :
    Calls Tryz.prog 93 #[.slice A n c, .slice B n c'] w fun e w' => e = .returned (.bool true) ∧ Below w.heap.size w w' := by
  have HA := Lib.hid hA
  have HB := Lib.hid hB
  have HS := Lib.hid hs
  clear hA hB hs
  go_enter Tryz.func93, Tryz.ntmps93
  go_wp2_with fail
  go_loopw [5] (fun s wr => ∃ k : Nat, k ≤ n ∧ s = .int .i64 k ∧ Below w.heap.size w wr) (fun s _ => n - (intOf s).toNat)
  case atStart => exact ⟨0, Nat.zero_le _, rfl, Below.refl _ _⟩
  case round =>
    obtain ⟨k, hk, rfl, hbel⟩ := hrel
    have HL := Lib.hid hbel
    clear hbel
    by_cases hlt : k < n
    · have k1 : (k : Int) < (n : Int) := by omega
      have k0 : (0 : Int) ≤ (k : Int) := by omega
      obtain ⟨b, o, Ar, Ar2, Ax, cr, cr2, cx, e1, hlb, hsh, hrw, _, c0, c1, c2, c3, c4, c5, c6⟩ := spots_at (HA.out.mono HL.out) hlt
      subst e1
      obtain ⟨b2, o2, Br, Br2, Bx, dr, dr2, dx, e2, hlb2, hsh2, hrw2, _, d0, d1, d2, d3, d4, d5, d6⟩ := spots_at (HB.out.mono HL.out) hlt
      subst e2
      have hsm := HS.out k hlt
      obtain ⟨y, hy⟩ : ∃ y, f k = y := ⟨_, rfl⟩
      rw [hy] at hsm hsh hrw c0 c1 c2 c3 c4 c5 c6 hsh2 hrw2 d0 d1 d2 d3 d4 d5 d6
      have HSM := Lib.hid hsm
      have HR1 := Lib.hid hrw
      have HR2 := Lib.hid hrw2
      have HSS := Lib.hid (fun (w' : World) (hb : Below wr.heap.size wr w') => (sameSh_any Ar Ar2 Br Br2 cr cr2 dr dr2 y.sh w' hsm.nr hsm.nf (hsh.mono hb) (hsh2.mono hb)))
      have hyn := hsm.n
      clear hsm hsh hrw hsh2 hrw2 hy
      go_wp2_with fail
      refine wp_region_quiet_below (by kernel_rfl) (by kernel_rfl) ?_
      repeat (go_big_quiet_step (((go_at_call 154; with_reducible exact Calls.regrown_of (HSS.out _ (below_regrown _ _ _))))))
      refine wpQuiet_nil ?_
      intro w9 hw9
      have hb9 := below_of_regrown hw9
      have HX9 := Lib.hid (bTrans HL.out hb9)
      have HD9 := Lib.hid hb9
      have e0 := (hb9.cell (p := ⟨b, o + k * 7 + 6, none⟩) hlb).trans c6
      have e1 := (hb9.cell (p := ⟨b2, o2 + k * 7 + 6, none⟩) hlb2).trans d6
      have hb' := Nat.lt_of_lt_of_le hlb hb9.size
      have hb2' := Nat.lt_of_lt_of_le hlb2 hb9.size
      have HE0 := Lib.hid e0
      have HE1 := Lib.hid e1
      clear hw9 hb9 c0 c1 c2 c3 c4 c5 c6 d0 d1 d2 d3 d4 d5 d6 hlb hlb2 HSS
      go_wp2_with fail
      clear e0 e1
      go_loopw [6] (fun s wy => ∃ j : Nat, j ≤ y.fl.n ∧ s = .int .i64 j ∧ Below w9.heap.size w9 wy) (fun s _ => y.fl.n - (intOf s).toNat)
      case atStart => exact ⟨0, Nat.zero_le _, rfl, Below.refl _ _⟩
      case round =>
        obtain ⟨j, hj, rfl, hbel⟩ := hrel
        have HYB := Lib.hid (bTrans HX9.out hbel)
        have HYD := Lib.hid (bTrans HD9.out hbel)
        have c0 := (hbel.cell (p := ⟨b, o + k * 7 + 6, none⟩) hb').trans HE0.out
        have d0 := (hbel.cell (p := ⟨b2, o2 + k * 7 + 6, none⟩) hb2').trans HE1.out
        have hbb := Nat.lt_of_lt_of_le hb' hbel.size
        have hbb2 := Nat.lt_of_lt_of_le hb2' hbel.size
        have HY := Lib.hid hbel
        clear hbel
        by_cases hlj : j < y.fl.n
        · have j1 : (j : Int) < (y.fl.n : Int) := by omega
          have j0 : (0 : Int) ≤ (j : Int) := by omega
          rcases HR1.out.mono HYD.out with h0 | ⟨b3, o3, e3, hb3, hc3⟩
          · omega
          obtain ⟨A3, a3, c3, hi3, hl3⟩ := hc3 j hlj
          subst e3
          rcases HR2.out.mono HYD.out with h0 | ⟨b4, o4, e4, hb4, hc4⟩
          · omega
          obtain ⟨A4, a4, c4, hi4, _⟩ := hc4 j hlj
          subst e4
          have HSI := Lib.hid (fun (w' : World) (hb : Below wr.heap.size wr w') => sameInts_t A3 A4 (y.fl.len j) a3 a4 (y.fl.fall j) w' hl3 (hi3.mono hb) (hi4.mono hb))
          clear hc3 hc4 hi3 hi4
          go_wp2_with fail
          refine wp_region_quiet_below (by kernel_rfl) (by kernel_rfl) ?_
          repeat (go_big_quiet_step (((go_at_call 32; with_reducible exact Calls.regrown_of (HSI.out _ (below_regrown _ _ _))))))
          refine wpQuiet_nil ?_
          intro w8 hw8
          have HY8 := Lib.hid (HY.out.trans ((below_of_regrown hw8).mono HY.out.size))
          clear hw8
          go_wp2_with fail
          go_roundw
          case rel =>
            refine ⟨j + 1, by omega, ?_, HY8.out⟩
            go_num
          case measure => simp [intOf]; omega
        · obtain rfl : j = y.fl.n := by omega
          have hk1 : ¬ ((y.fl.n : Int) < (y.fl.n : Int)) := by omega
          go_wp2_with fail
          go_roundw
          case rel =>
            refine ⟨k + 1, by omega, ?_, HYB.out⟩
            go_num
          case measure => simp [intOf]; omega
    · obtain rfl : k = n := by omega
      have hk1 : ¬ ((k : Int) < (k : Int)) := by omega
      go_wp2_with fail
      go_ret
      exact ⟨rfl, HL.out⟩
end Go.Proofs.YtjpfdhhiofjpbaaGreatDoor

namespace Go.Proofs.YtjpfdhhiofjpbaaGreatDoor
open Go.RowKit Go.Sort
set_option maxHeartbeats 8000000 in
set_option maxRecDepth 100000 in
theorem same9_any (Aw Af Ao Ap As : Option Addr) (cw cf co cp cs : Nat) (t : Pt) (Bw Bf Bo Bp Bs : Option Addr) (dw df do_ dp ds : Nat) (w : World) (hs : t.Small) (hT : PAt w Aw Af Ao Ap As t) (hU : PAt w Bw Bf Bo Bp Bs t) :
    Calls Tryz.prog 27 #[.agg #[.int .i64 t.q.wells, .slice Aw t.q.nw cw, .slice Af t.q.nf cf, .slice Ao t.no co, .slice Ap t.np cp, .slice As t.ns cs, .int .i64 t.far, .int .i64 t.harm, .int .i64 t.many], .agg #[.int .i64 t.q.wells, .slice Bw t.q.nw dw, .slice Bf t.q.nf df, .slice Bo t.no do_, .slice Bp t.np dp, .slice Bs t.ns ds, .int .i64 t.far, .int .i64 t.harm, .int .i64 t.many]] w fun e w' => e = .returned (.bool true) ∧ Below w.heap.size w w' := by
  have HD0 := Lib.hid (Below.refl w.heap.size w)
  have HSM := Lib.hid hs
  have HT0 := Lib.hid hT
  have HU0 := Lib.hid hU
  clear hs hT hU
  go_enter Tryz.func27, Tryz.ntmps27
  go_wp2_with fail
  refine (same5_any Aw Af Bw Bf cw cf dw df t.q _ HSM.out.q (HT0.out.mono (bAlloc (bAlloc (Below.refl _ _) (.cells #[.int .i64 t.q.wells, .slice Aw t.q.nw cw, .slice Af t.q.nf cf, .slice Ao t.no co, .slice Ap t.np cp, .slice As t.ns cs, .int .i64 t.far, .int .i64 t.harm, .int .i64 t.many] 29)) (.cells #[.int .i64 t.q.wells, .slice Bw t.q.nw dw, .slice Bf t.q.nf df, .slice Bo t.no do_, .slice Bp t.np dp, .slice Bs t.ns ds, .int .i64 t.far, .int .i64 t.harm, .int .i64 t.many] 29))).q (HU0.out.mono (bAlloc (bAlloc (Below.refl _ _) (.cells #[.int .i64 t.q.wells, .slice Aw t.q.nw cw, .slice Af t.q.nf cf, .slice Ao t.no co, .slice Ap t.np cp, .slice As t.ns cs, .int .i64 t.far, .int .i64 t.harm, .int .i64 t.many] 29)) (.cells #[.int .i64 t.q.wells, .slice Bw t.q.nw dw, .slice Bf t.q.nf df, .slice Bo t.no do_, .slice Bp t.np dp, .slice Bs t.ns ds, .int .i64 t.far, .int .i64 t.harm, .int .i64 t.many] 29))).q).mono ?_
  rintro e w1 ⟨rfl, hb⟩
  have hB1 : Below w.heap.size w w1 := bTrans (bAlloc (bAlloc (Below.refl _ _) (.cells #[.int .i64 t.q.wells, .slice Aw t.q.nw cw, .slice Af t.q.nf cf, .slice Ao t.no co, .slice Ap t.np cp, .slice As t.ns cs, .int .i64 t.far, .int .i64 t.harm, .int .i64 t.many] 29)) (.cells #[.int .i64 t.q.wells, .slice Bw t.q.nw dw, .slice Bf t.q.nf df, .slice Bo t.no do_, .slice Bp t.np dp, .slice Bs t.ns ds, .int .i64 t.far, .int .i64 t.harm, .int .i64 t.many] 29)) hb
  have HD1 := Lib.hid (bTrans HD0.out hB1)
  have HT1 := Lib.hid (HT0.out.mono hB1)
  have HU1 := Lib.hid (HU0.out.mono hB1)
  have T1 := Lib.hid (show TBox w1 w.heap.size 29 #[.int .i64 t.q.wells, .slice Aw t.q.nw cw, .slice Af t.q.nf cf, .slice Ao t.no co, .slice Ap t.np cp, .slice As t.ns cs, .int .i64 t.far, .int .i64 t.harm, .int .i64 t.many] from by have := ((TBox.new w #[.int .i64 t.q.wells, .slice Aw t.q.nw cw, .slice Af t.q.nf cf, .slice Ao t.no co, .slice Ap t.np cp, .slice As t.ns cs, .int .i64 t.far, .int .i64 t.harm, .int .i64 t.many] 29).mono (bAlloc (Below.refl _ _) (.cells #[.int .i64 t.q.wells, .slice Bw t.q.nw dw, .slice Bf t.q.nf df, .slice Bo t.no do_, .slice Bp t.np dp, .slice Bs t.ns ds, .int .i64 t.far, .int .i64 t.harm, .int .i64 t.many] 29))).mono hb; simpa using this)
  have U1 := Lib.hid (show TBox w1 (w.heap.size + 1) 29 #[.int .i64 t.q.wells, .slice Bw t.q.nw dw, .slice Bf t.q.nf df, .slice Bo t.no do_, .slice Bp t.np dp, .slice Bs t.ns ds, .int .i64 t.far, .int .i64 t.harm, .int .i64 t.many] from by have := ((TBox.new (w.alloc (.cells #[.int .i64 t.q.wells, .slice Aw t.q.nw cw, .slice Af t.q.nf cf, .slice Ao t.no co, .slice Ap t.np cp, .slice As t.ns cs, .int .i64 t.far, .int .i64 t.harm, .int .i64 t.many] 29)) #[.int .i64 t.q.wells, .slice Bw t.q.nw dw, .slice Bf t.q.nf df, .slice Bo t.no do_, .slice Bp t.np dp, .slice Bs t.ns ds, .int .i64 t.far, .int .i64 t.harm, .int .i64 t.many] 29).mono (Below.refl _ _)).mono hb; simpa using this)
  clear hb hB1 HD0 HT0 HU0
  obtain ⟨T_0, T_1, T_2, T_3, T_4, T_5, T_6, T_7, T_8, T_l⟩ := T1.out.c9
  obtain ⟨U_0, U_1, U_2, U_3, U_4, U_5, U_6, U_7, U_8, U_l⟩ := U1.out.c9
  go_wp2_with fail
  refine (sameInts_t Ao Bo t.no co do_ t.old _ HSM.out.no HT1.out.old HU1.out.old).mono ?_
  rintro e w2 ⟨rfl, hb⟩
  have hB2 : Below w1.heap.size w1 w2 := bTrans (Below.refl _ _) hb
  have HD2 := Lib.hid (bTrans HD1.out hB2)
  have HT2 := Lib.hid (HT1.out.mono hB2)
  have HU2 := Lib.hid (HU1.out.mono hB2)
  have T2 := Lib.hid (T1.out.mono hB2)
  have U2 := Lib.hid (U1.out.mono hB2)
  clear hb hB2 HD1 HT1 HU1 T1 T_0 T_1 T_2 T_3 T_4 T_5 T_6 T_7 T_8 T_l U1 U_0 U_1 U_2 U_3 U_4 U_5 U_6 U_7 U_8 U_l
  obtain ⟨T_0, T_1, T_2, T_3, T_4, T_5, T_6, T_7, T_8, T_l⟩ := T2.out.c9
  obtain ⟨U_0, U_1, U_2, U_3, U_4, U_5, U_6, U_7, U_8, U_l⟩ := U2.out.c9
  go_wp2_with fail
  refine (sameInts_t Ap Bp t.np cp dp t.pence _ HSM.out.np HT2.out.pence HU2.out.pence).mono ?_
  rintro e w3 ⟨rfl, hb⟩
  have hB3 : Below w2.heap.size w2 w3 := bTrans (Below.refl _ _) hb
  have HD3 := Lib.hid (bTrans HD2.out hB3)
  have HT3 := Lib.hid (HT2.out.mono hB3)
  have HU3 := Lib.hid (HU2.out.mono hB3)
  have T3 := Lib.hid (T2.out.mono hB3)
  have U3 := Lib.hid (U2.out.mono hB3)
  clear hb hB3 HD2 HT2 HU2 T2 T_0 T_1 T_2 T_3 T_4 T_5 T_6 T_7 T_8 T_l U2 U_0 U_1 U_2 U_3 U_4 U_5 U_6 U_7 U_8 U_l
  obtain ⟨T_0, T_1, T_2, T_3, T_4, T_5, T_6, T_7, T_8, T_l⟩ := T3.out.c9
  obtain ⟨U_0, U_1, U_2, U_3, U_4, U_5, U_6, U_7, U_8, U_l⟩ := U3.out.c9
  go_wp2_with fail
  refine (sameSpots9_any As Bs t.ns cs ds t.spot _ HSM.out.ns HSM.out.spot HT3.out.spots HU3.out.spots).mono ?_
  rintro e w4 ⟨rfl, hb⟩
  have hB4 : Below w3.heap.size w3 w4 := bTrans (Below.refl _ _) hb
  have HD4 := Lib.hid (bTrans HD3.out hB4)
  have HT4 := Lib.hid (HT3.out.mono hB4)
  have HU4 := Lib.hid (HU3.out.mono hB4)
  have T4 := Lib.hid (T3.out.mono hB4)
  have U4 := Lib.hid (U3.out.mono hB4)
  clear hb hB4 HD3 HT3 HU3 T3 T_0 T_1 T_2 T_3 T_4 T_5 T_6 T_7 T_8 T_l U3 U_0 U_1 U_2 U_3 U_4 U_5 U_6 U_7 U_8 U_l
  obtain ⟨T_0, T_1, T_2, T_3, T_4, T_5, T_6, T_7, T_8, T_l⟩ := T4.out.c9
  obtain ⟨U_0, U_1, U_2, U_3, U_4, U_5, U_6, U_7, U_8, U_l⟩ := U4.out.c9
  go_wp2_with fail
  go_ret
  exact ⟨rfl, HD4.out⟩
end Go.Proofs.YtjpfdhhiofjpbaaGreatDoor

namespace Go.Proofs.YtjpfdhhiofjpbaaGreatDoor
open Go.RowKit Go.Sort
theorem dst_comm (a b : Int) : dst a b = dst b a := by unfold dst; omega
/-! ### errors -/
/-! ### what each function returns -/
end Go.Proofs.YtjpfdhhiofjpbaaGreatDoor

namespace Go.Proofs.YtjpfdhhiofjpbaaGreatDoor
open Go.RowKit Go.Sort
theorem Pt.m_no {t : Pt} (ok : t.Ok) : t.m = t.no := by have := ok.no; unfold Pt.m; omega
/-! ### towns in which less is forbidden -/
section
variable {o t : Pt} (h : Looser o t)
include h
end
/-! ### towns that are alike -/
section
variable {o t : Pt} (h : Twin o t)
include h
end
/-! ### pairs -/
end Go.Proofs.YtjpfdhhiofjpbaaGreatDoor

namespace Go.Proofs.YtjpfdhhiofjpbaaGreatDoor
open Go.RowKit Go.Sort
theorem dist9_any (a b : Int) (w : World) (ha : 0 ≤ a ∧ a ≤ 99) (hb : 0 ≤ b ∧ b ≤ 99) : Calls Tryz.prog 58 #[.int .i64 a, .int .i64 b] w fun e w' => e = .returned (.int .i64 (dst a b)) ∧ Below w.heap.size w w' := by
  have h1 : IntKind.i64.wrap (a - b) = a - b := IntWalk.i64_in _ (by omega)
  have h2 : IntKind.i64.wrap (b - a) = b - a := IntWalk.i64_in _ (by omega)
  obtain ⟨u, hu⟩ : ∃ u, (if a - b < b - a then b - a else a - b) = u := ⟨_, rfl⟩
  have HU := Lib.hid (show dst a b = u by rw [← hu]; unfold dst; split <;> omega)
  clear ha hb
  go_enter Tryz.func58, Tryz.ntmps58
  go_wp2_with fail
  go_ret
  exact ⟨by rw [HU.out]; rfl, Below.refl _ _⟩
set_option maxHeartbeats 4000000 in
set_option maxRecDepth 100000 in
theorem isSpotN9_any (Aw Af Ao Ap As : Option Addr) (cw cf co cp cs : Nat) (t : Pt) (n : Int) (w : World) (hs : t.ns ≤ 9223372036854775807) :
    Calls Tryz.prog 40 #[.agg #[.int .i64 t.q.wells, .slice Aw t.q.nw cw, .slice Af t.q.nf cf, .slice Ao t.no co, .slice Ap t.np cp, .slice As t.ns cs, .int .i64 t.far, .int .i64 t.harm, .int .i64 t.many], .int .i64 n] w fun e w' => e = .returned (.bool (t.hasB n)) ∧ Below w.heap.size w w' := by
  have hw1 : IntKind.i64.wrap ((t.ns : Int) - 1) = (t.ns : Int) - 1 := IntWalk.i64_in _ (by omega)
  have HN := Lib.hid (show inR n 0 ((t.ns : Int) - 1) = t.hasB n from rfl)
  clear hs
  have HD0 := Lib.hid (Below.refl w.heap.size w)
  go_enter Tryz.func40, Tryz.ntmps40
  go_wp2_with fail
  refine (within9_b _ _ _ _ _ HN.out).mono ?_
  rintro e w0 ⟨rfl, rfl⟩
  go_wp2_with fail
  go_ret
  exact ⟨rfl, (bTrans HD0.out (bAlloc (Below.refl _ _) (.cells #[.int .i64 t.q.wells, .slice Aw t.q.nw cw, .slice Af t.q.nf cf, .slice Ao t.no co, .slice Ap t.np cp, .slice As t.ns cs, .int .i64 t.far, .int .i64 t.harm, .int .i64 t.many] 29)))⟩
set_option maxHeartbeats 4000000 in
set_option maxRecDepth 100000 in
theorem isWell9_any (Aw Af Ao Ap As : Option Addr) (cw cf co cp cs : Nat) (t : Pt) (n : Int) (w : World) :
    Calls Tryz.prog 98 #[.agg #[.int .i64 t.q.wells, .slice Aw t.q.nw cw, .slice Af t.q.nf cf, .slice Ao t.no co, .slice Ap t.np cp, .slice As t.ns cs, .int .i64 t.far, .int .i64 t.harm, .int .i64 t.many], .int .i64 n] w fun e w' => e = .returned (.bool (t.oldB n)) ∧ Below w.heap.size w w' := by
  have HD0 := Lib.hid (Below.refl w.heap.size w)
  go_enter Tryz.func98, Tryz.ntmps98
  go_wp2_with fail
  refine (isWell5_any Aw Af cw cf t.q n _).mono ?_
  rintro e w1 ⟨rfl, hb⟩
  have hB1 : Below w.heap.size w w1 := bTrans (bAlloc (Below.refl _ _) (.cells #[.int .i64 t.q.wells, .slice Aw t.q.nw cw, .slice Af t.q.nf cf, .slice Ao t.no co, .slice Ap t.np cp, .slice As t.ns cs, .int .i64 t.far, .int .i64 t.harm, .int .i64 t.many] 29)) hb
  have HD1 := Lib.hid (bTrans HD0.out hB1)
  have T1 := Lib.hid (show TBox w1 w.heap.size 29 #[.int .i64 t.q.wells, .slice Aw t.q.nw cw, .slice Af t.q.nf cf, .slice Ao t.no co, .slice Ap t.np cp, .slice As t.ns cs, .int .i64 t.far, .int .i64 t.harm, .int .i64 t.many] from by have := ((TBox.new w #[.int .i64 t.q.wells, .slice Aw t.q.nw cw, .slice Af t.q.nf cf, .slice Ao t.no co, .slice Ap t.np cp, .slice As t.ns cs, .int .i64 t.far, .int .i64 t.harm, .int .i64 t.many] 29).mono (Below.refl _ _)).mono hb; simpa using this)
  clear hb hB1 HD0
  obtain ⟨T_0, T_1, T_2, T_3, T_4, T_5, T_6, T_7, T_8, T_l⟩ := T1.out.c9
  go_wp2_with fail
  go_ret
  exact ⟨rfl, HD1.out⟩
set_option maxHeartbeats 4000000 in
set_option maxRecDepth 100000 in
theorem ask9_any (Aw Af Ao Ap As : Option Addr) (cw cf co cp cs : Nat) (t : Pt) (is : Bool) (w : World) (hs : t.Small) (hT : PAt w Aw Af Ao Ap As t) :
    Calls Tryz.prog 89 #[.agg #[.int .i64 t.q.wells, .slice Aw t.q.nw cw, .slice Af t.q.nf cf, .slice Ao t.no co, .slice Ap t.np cp, .slice As t.ns cs, .int .i64 t.far, .int .i64 t.harm, .int .i64 t.many], .bool is] w fun e w' => e = .returned (.int .i64 (t.askErr is)) ∧ Below w.heap.size w w' := by
  have HD0 := Lib.hid (Below.refl w.heap.size w)
  have HSM := Lib.hid hs
  have HT0 := Lib.hid hT
  clear hs hT
  go_enter Tryz.func89, Tryz.ntmps89
  go_wp2_with fail
  refine (check9_any Aw Af Ao Ap As cw cf co cp cs t _ HSM.out (HT0.out.mono (bAlloc (Below.refl _ _) (.cells #[.int .i64 t.q.wells, .slice Aw t.q.nw cw, .slice Af t.q.nf cf, .slice Ao t.no co, .slice Ap t.np cp, .slice As t.ns cs, .int .i64 t.far, .int .i64 t.harm, .int .i64 t.many] 29)))).mono ?_
  rintro e w1 ⟨rfl, hb⟩
  have hB1 : Below w.heap.size w w1 := bTrans (bAlloc (Below.refl _ _) (.cells #[.int .i64 t.q.wells, .slice Aw t.q.nw cw, .slice Af t.q.nf cf, .slice Ao t.no co, .slice Ap t.np cp, .slice As t.ns cs, .int .i64 t.far, .int .i64 t.harm, .int .i64 t.many] 29)) hb
  have HD1 := Lib.hid (bTrans HD0.out hB1)
  have HT1 := Lib.hid (HT0.out.mono hB1)
  have T1 := Lib.hid (show TBox w1 w.heap.size 29 #[.int .i64 t.q.wells, .slice Aw t.q.nw cw, .slice Af t.q.nf cf, .slice Ao t.no co, .slice Ap t.np cp, .slice As t.ns cs, .int .i64 t.far, .int .i64 t.harm, .int .i64 t.many] from by have := ((TBox.new w #[.int .i64 t.q.wells, .slice Aw t.q.nw cw, .slice Af t.q.nf cf, .slice Ao t.no co, .slice Ap t.np cp, .slice As t.ns cs, .int .i64 t.far, .int .i64 t.harm, .int .i64 t.many] 29).mono (Below.refl _ _)).mono hb; simpa using this)
  clear hb hB1 HD0 HT0
  obtain ⟨T_0, T_1, T_2, T_3, T_4, T_5, T_6, T_7, T_8, T_l⟩ := T1.out.c9
  by_cases hok : t.Ok
  case neg =>
    have HE := Lib.hid (Pt.askErr_bad hok is)
    rw [Pt.err_bad hok]
    clear hok
    go_wp2_with fail
    go_ret
    exact ⟨by rw [HE.out]; rfl, HD1.out⟩
  rw [Pt.err_ok hok]
  have HOK := Lib.hid hok
  clear hok
  cases is
  · skip
    have HE := Lib.hid (Pt.askErr_arg HOK.out)
    go_wp2_with fail
    go_ret
    exact ⟨by rw [HE.out]; rfl, HD1.out⟩
  · skip
    have HE := Lib.hid (Pt.askErr_ok HOK.out)
    go_wp2_with fail
    go_ret
    exact ⟨by rw [HE.out]; rfl, HD1.out⟩
end Go.Proofs.YtjpfdhhiofjpbaaGreatDoor

namespace Go.Proofs.YtjpfdhhiofjpbaaGreatDoor
open Go.RowKit Go.Sort
set_option maxHeartbeats 8000000 in
set_option maxRecDepth 100000 in
theorem isForb9_any (Aw Af Ao Ap As : Option Addr) (cw cf co cp cs : Nat) (t : Pt) (a i v : Nat) (w : World) (ok : t.Ok) (hT : PAt w Aw Af Ao Ap As t) (hi : i < t.ns) (hv : (v : Int) < t.q.wells) (ha : a < t.q.nw) :
    Calls Tryz.prog 44 #[.agg #[.int .i64 t.q.wells, .slice Aw t.q.nw cw, .slice Af t.q.nf cf, .slice Ao t.no co, .slice Ap t.np cp, .slice As t.ns cs, .int .i64 t.far, .int .i64 t.harm, .int .i64 t.many], .int .i64 (a : Int), .int .i64 (i : Int), .int .i64 (v : Int)] w fun e w' => e = .returned (.bool (t.forb i v (a : Int))) ∧ Below w.heap.size w w' := by
  obtain ⟨b, o, Ar, Af2, Ax, cr, cf2, cx, hA, hb7, hsh, hrow, s0, s1, s2, s3, s4, s5, s6⟩ := hT.spots.get hi
  have hxs := ok.spot i hi
  have hi1 : (i : Int) < (t.ns : Int) := by omega
  have hi0 : (0 : Int) ≤ (i : Int) := by omega
  obtain ⟨x, hxx⟩ : ∃ x, t.spot i = x := ⟨_, rfl⟩
  rw [hxx] at s0 s1 s2 s3 s4 s5 s6 hsh hrow hxs
  subst hA
  have hvn : v < t.no := by have := ok.no; omega
  obtain ⟨bo, oo, hO, hbo, co0⟩ := hT.old.get hvn
  obtain ⟨br, or_, bq, oq, cq, hR, hbr, r0, hbq, r1⟩ := hrow.get (k := a) (j := v) (by rw [hxs.n]; exact ha) (by have := hxs.len a (by rw [hxs.n]; exact ha); omega)
  have hxa := And.intro hxs.a0 hxs.a1
  have hol := ok.old v hvn
  have hfa := hxs.fall a (by rw [hxs.n]; exact ha) v (by have := hxs.len a (by rw [hxs.n]; exact ha); omega)
  have hmm := ok.many
  have hln : (v : Int) < (x.fl.len a : Int) := by have := hxs.len a (by rw [hxs.n]; exact ha); omega
  have han : (a : Int) < (x.fl.n : Int) := by have := hxs.n; omega
  have hvo : (v : Int) < (t.no : Int) := by omega
  obtain ⟨fa, hfx⟩ : ∃ f, x.fl.fall a v = f := ⟨_, rfl⟩
  obtain ⟨u, hu⟩ : ∃ u, t.old v = u := ⟨_, rfl⟩
  rw [hfx] at r1 hfa
  rw [hu] at co0 hol
  obtain ⟨d, hd⟩ : ∃ d, dst x.at_ u = d := ⟨_, rfl⟩
  have hwr : IntKind.i64.wrap (fa * t.many) = fa * t.many := IntWalk.i64_in _ (by
    have h1 : 0 ≤ fa * t.many := Int.mul_nonneg hfa.1 hmm.1
    have h2 : fa * t.many ≤ 9 * 9 := Int.mul_le_mul hfa.2 hmm.2 hmm.1 (by decide)
    omega)
  have HF := Lib.hid (show t.forb i v (a : Int) = (decide (d < t.far) || decide (t.harm < fa * t.many)) by unfold Pt.forb; rw [Int.toNat_natCast, hxx, hu, dst_comm, hd, ← hfx])
  have HDI := Lib.hid (fun w' => hd ▸ dist9_any x.at_ u w' hxa hol : ∀ w' : World, Calls Tryz.prog 58 #[.int .i64 x.at_, .int .i64 u] w' fun e w'' => e = .returned (.int .i64 d) ∧ Below w'.heap.size w' w'')
  subst hO hR
  rw [HF.out]
  clear hvn hsh hrow hxs hxx hi hxa hol hfa hmm hd hfx hu HF ha hv ok
  have HD0 := Lib.hid (Below.refl w.heap.size w)
  go_enter Tryz.func44, Tryz.ntmps44
  go_wp2_with fail
  by_cases hdf : d < t.far
  case pos =>
    have hdd : decide (d < t.far) = true := by simpa using hdf
    refine wp_region_quiet_below (by kernel_rfl) (by kernel_rfl) ?_
    repeat (go_big_quiet_step ((go_at_call 58; exact Calls.regrown_of (HDI.out _))))
    refine wpQuiet_nil ?_
    intro w1 hw9
    have hb := below_of_regrown hw9
    clear hw9
    have hB1 : Below w.heap.size w w1 := bTrans (bAlloc (Below.refl _ _) (.cells #[.int .i64 t.q.wells, .slice Aw t.q.nw cw, .slice Af t.q.nf cf, .slice (some ⟨bo, oo, none⟩) t.no co, .slice Ap t.np cp, .slice (some ⟨b, o, none⟩) t.ns cs, .int .i64 t.far, .int .i64 t.harm, .int .i64 t.many] 29)) hb
    have HD1 := Lib.hid (bTrans HD0.out hB1)
    have T1 := Lib.hid (show TBox w1 w.heap.size 29 #[.int .i64 t.q.wells, .slice Aw t.q.nw cw, .slice Af t.q.nf cf, .slice (some ⟨bo, oo, none⟩) t.no co, .slice Ap t.np cp, .slice (some ⟨b, o, none⟩) t.ns cs, .int .i64 t.far, .int .i64 t.harm, .int .i64 t.many] from by have := ((TBox.new w #[.int .i64 t.q.wells, .slice Aw t.q.nw cw, .slice Af t.q.nf cf, .slice (some ⟨bo, oo, none⟩) t.no co, .slice Ap t.np cp, .slice (some ⟨b, o, none⟩) t.ns cs, .int .i64 t.far, .int .i64 t.harm, .int .i64 t.many] 29).mono (Below.refl _ _)).mono hb; simpa using this)
    clear hb hB1 HD0
    obtain ⟨T_0, T_1, T_2, T_3, T_4, T_5, T_6, T_7, T_8, T_l⟩ := T1.out.c9
    go_wp2_with fail
    go_ret
    exact ⟨by simp [hdd], HD1.out⟩
  have hdd : decide (d < t.far) = false := by simpa using hdf
  cases hbh : decide (t.harm < fa * t.many)
  · skip
    refine wp_region_quiet_below (by kernel_rfl) (by kernel_rfl) ?_
    repeat (go_big_quiet_step ((go_at_call 58; exact Calls.regrown_of (HDI.out _))))
    refine wpQuiet_nil ?_
    intro w1 hw9
    have hb := below_of_regrown hw9
    clear hw9
    have hB1 : Below w.heap.size w w1 := bTrans (bAlloc (Below.refl _ _) (.cells #[.int .i64 t.q.wells, .slice Aw t.q.nw cw, .slice Af t.q.nf cf, .slice (some ⟨bo, oo, none⟩) t.no co, .slice Ap t.np cp, .slice (some ⟨b, o, none⟩) t.ns cs, .int .i64 t.far, .int .i64 t.harm, .int .i64 t.many] 29)) hb
    have HD1 := Lib.hid (bTrans HD0.out hB1)
    have T1 := Lib.hid (show TBox w1 w.heap.size 29 #[.int .i64 t.q.wells, .slice Aw t.q.nw cw, .slice Af t.q.nf cf, .slice (some ⟨bo, oo, none⟩) t.no co, .slice Ap t.np cp, .slice (some ⟨b, o, none⟩) t.ns cs, .int .i64 t.far, .int .i64 t.harm, .int .i64 t.many] from by have := ((TBox.new w #[.int .i64 t.q.wells, .slice Aw t.q.nw cw, .slice Af t.q.nf cf, .slice (some ⟨bo, oo, none⟩) t.no co, .slice Ap t.np cp, .slice (some ⟨b, o, none⟩) t.ns cs, .int .i64 t.far, .int .i64 t.harm, .int .i64 t.many] 29).mono (Below.refl _ _)).mono hb; simpa using this)
    clear hb hB1 HD0
    obtain ⟨T_0, T_1, T_2, T_3, T_4, T_5, T_6, T_7, T_8, T_l⟩ := T1.out.c9
    go_wp2_with fail
    go_ret
    exact ⟨by simp [hdd, hbh], HD1.out⟩
  · skip
    refine wp_region_quiet_below (by kernel_rfl) (by kernel_rfl) ?_
    repeat (go_big_quiet_step ((go_at_call 58; exact Calls.regrown_of (HDI.out _))))
    refine wpQuiet_nil ?_
    intro w1 hw9
    have hb := below_of_regrown hw9
    clear hw9
    have hB1 : Below w.heap.size w w1 := bTrans (bAlloc (Below.refl _ _) (.cells #[.int .i64 t.q.wells, .slice Aw t.q.nw cw, .slice Af t.q.nf cf, .slice (some ⟨bo, oo, none⟩) t.no co, .slice Ap t.np cp, .slice (some ⟨b, o, none⟩) t.ns cs, .int .i64 t.far, .int .i64 t.harm, .int .i64 t.many] 29)) hb
    have HD1 := Lib.hid (bTrans HD0.out hB1)
    have T1 := Lib.hid (show TBox w1 w.heap.size 29 #[.int .i64 t.q.wells, .slice Aw t.q.nw cw, .slice Af t.q.nf cf, .slice (some ⟨bo, oo, none⟩) t.no co, .slice Ap t.np cp, .slice (some ⟨b, o, none⟩) t.ns cs, .int .i64 t.far, .int .i64 t.harm, .int .i64 t.many] from by have := ((TBox.new w #[.int .i64 t.q.wells, .slice Aw t.q.nw cw, .slice Af t.q.nf cf, .slice (some ⟨bo, oo, none⟩) t.no co, .slice Ap t.np cp, .slice (some ⟨b, o, none⟩) t.ns cs, .int .i64 t.far, .int .i64 t.harm, .int .i64 t.many] 29).mono (Below.refl _ _)).mono hb; simpa using this)
    clear hb hB1 HD0
    obtain ⟨T_0, T_1, T_2, T_3, T_4, T_5, T_6, T_7, T_8, T_l⟩ := T1.out.c9
    go_wp2_with fail
    go_ret
    exact ⟨by simp [hdd, hbh], HD1.out⟩
end Go.Proofs.YtjpfdhhiofjpbaaGreatDoor

namespace Go.Proofs.YtjpfdhhiofjpbaaGreatDoor
open Go.RowKit Go.Sort
/-- what known hands back -/
def Kn9 (w : World) (t : Pt) (er : Int) (e : Ending) : Prop := (er ≠ 0 → e = .returned (.tuple #[.slice none 0 0, .int .i64 er])) ∧ (er = 0 → ∃ A c, e = .returned (.tuple #[.slice A t.q.leftL.length c, .int .i64 0]) ∧ IntsAt w A t.q.leftL.length (intL0 t.q.leftL))
theorem Kn9.ret {w : World} {t : Pt} {er : Int} {e : Ending} (h : Kn9 w t er e) : ∃ v, e = .returned v := by
  by_cases h0 : er = 0
  · obtain ⟨A, c, h1, _⟩ := h.2 h0
    exact ⟨_, h1⟩
  · exact ⟨_, h.1 h0⟩
theorem left_get {t : Pt} {w : World} {A : Option Addr} (hL : IntsAt w A t.q.leftL.length (intL0 t.q.leftL)) {k : Nat} (hk : k < t.q.leftL.length) : ∃ (b o i : Nat), A = some ⟨b, o, none⟩ ∧ b < w.heap.size ∧ w.cell? ⟨b, o + k, none⟩ = some (.int .i64 (i : Int)) ∧ intL0 t.q.leftL k = (i : Int) ∧ i < t.q.nw := by
  obtain ⟨i, h1, h2, _⟩ := left_at hk
  obtain ⟨b, o, h3, h4, h5⟩ := hL.get hk
  rw [h1] at h5
  exact ⟨b, o, i, h3, h4, h5, h1, h2⟩
set_option maxHeartbeats 4000000 in
set_option maxRecDepth 100000 in
theorem leftOf9_any (Aw Af Ao Ap As : Option Addr) (cw cf co cp cs : Nat) (t : Pt) (w : World) (ok : t.Ok) (hT : PAt w Aw Af Ao Ap As t) :
    Calls Tryz.prog 42 #[.agg #[.int .i64 t.q.wells, .slice Aw t.q.nw cw, .slice Af t.q.nf cf, .slice Ao t.no co, .slice Ap t.np cp, .slice As t.ns cs, .int .i64 t.far, .int .i64 t.harm, .int .i64 t.many]] w fun e w' => (∃ A c, e = .returned (.slice A t.q.leftL.length c) ∧ IntsAt w' A t.q.leftL.length (intL0 t.q.leftL)) ∧ Below w.heap.size w w' := by
  have HD0 := Lib.hid (Below.refl w.heap.size w)
  have HOK := Lib.hid ok
  have HT0 := Lib.hid hT
  clear ok hT
  go_enter Tryz.func42, Tryz.ntmps42
  go_wp2_with fail
  refine (refLeftOf Aw Af cw cf t.q _ HOK.out.q (HT0.out.mono (bAlloc (Below.refl _ _) (.cells #[.int .i64 t.q.wells, .slice Aw t.q.nw cw, .slice Af t.q.nf cf, .slice Ao t.no co, .slice Ap t.np cp, .slice As t.ns cs, .int .i64 t.far, .int .i64 t.harm, .int .i64 t.many] 29))).q).mono ?_
  rintro e w1 ⟨⟨v, rfl, hv⟩, hb⟩
  obtain ⟨A4, c4, rfl, hi4, _⟩ := left_base hv
  have hB1 : Below w.heap.size w w1 := bTrans (bAlloc (Below.refl _ _) (.cells #[.int .i64 t.q.wells, .slice Aw t.q.nw cw, .slice Af t.q.nf cf, .slice Ao t.no co, .slice Ap t.np cp, .slice As t.ns cs, .int .i64 t.far, .int .i64 t.harm, .int .i64 t.many] 29)) hb
  have HD1 := Lib.hid (bTrans HD0.out hB1)
  have HT1 := Lib.hid (HT0.out.mono hB1)
  have HI41 := Lib.hid (hi4)
  have T1 := Lib.hid (show TBox w1 w.heap.size 29 #[.int .i64 t.q.wells, .slice Aw t.q.nw cw, .slice Af t.q.nf cf, .slice Ao t.no co, .slice Ap t.np cp, .slice As t.ns cs, .int .i64 t.far, .int .i64 t.harm, .int .i64 t.many] from by have := ((TBox.new w #[.int .i64 t.q.wells, .slice Aw t.q.nw cw, .slice Af t.q.nf cf, .slice Ao t.no co, .slice Ap t.np cp, .slice As t.ns cs, .int .i64 t.far, .int .i64 t.harm, .int .i64 t.many] 29).mono (Below.refl _ _)).mono hb; simpa using this)
  clear hb hB1 HD0 HT0
  obtain ⟨T_0, T_1, T_2, T_3, T_4, T_5, T_6, T_7, T_8, T_l⟩ := T1.out.c9
  clear hv hi4
  go_wp2_with fail
  go_ret
  exact ⟨⟨A4, c4, rfl, HI41.out⟩, HD1.out⟩
set_option maxHeartbeats 4000000 in
set_option maxRecDepth 100000 in
theorem known9_any (Aw Af Ao Ap As : Option Addr) (cw cf co cp cs : Nat) (t : Pt) (is : Bool) (w : World) (hs : t.Small) (hT : PAt w Aw Af Ao Ap As t) :
    Calls Tryz.prog 97 #[.agg #[.int .i64 t.q.wells, .slice Aw t.q.nw cw, .slice Af t.q.nf cf, .slice Ao t.no co, .slice Ap t.np cp, .slice As t.ns cs, .int .i64 t.far, .int .i64 t.harm, .int .i64 t.many], .bool is] w fun e w' => Kn9 w' t (t.knowErr is) e ∧ Below w.heap.size w w' := by
  have HD0 := Lib.hid (Below.refl w.heap.size w)
  have HSM := Lib.hid hs
  have HT0 := Lib.hid hT
  clear hs hT
  go_enter Tryz.func97, Tryz.ntmps97
  go_wp2_with fail
  refine (ask9_any Aw Af Ao Ap As cw cf co cp cs t is _ HSM.out (HT0.out.mono (bAlloc (Below.refl _ _) (.cells #[.int .i64 t.q.wells, .slice Aw t.q.nw cw, .slice Af t.q.nf cf, .slice Ao t.no co, .slice Ap t.np cp, .slice As t.ns cs, .int .i64 t.far, .int .i64 t.harm, .int .i64 t.many] 29)))).mono ?_
  rintro e w1 ⟨rfl, hb⟩
  have hB1 : Below w.heap.size w w1 := bTrans (bAlloc (Below.refl _ _) (.cells #[.int .i64 t.q.wells, .slice Aw t.q.nw cw, .slice Af t.q.nf cf, .slice Ao t.no co, .slice Ap t.np cp, .slice As t.ns cs, .int .i64 t.far, .int .i64 t.harm, .int .i64 t.many] 29)) hb
  have HD1 := Lib.hid (bTrans HD0.out hB1)
  have HT1 := Lib.hid (HT0.out.mono hB1)
  have T1 := Lib.hid (show TBox w1 w.heap.size 29 #[.int .i64 t.q.wells, .slice Aw t.q.nw cw, .slice Af t.q.nf cf, .slice Ao t.no co, .slice Ap t.np cp, .slice As t.ns cs, .int .i64 t.far, .int .i64 t.harm, .int .i64 t.many] from by have := ((TBox.new w #[.int .i64 t.q.wells, .slice Aw t.q.nw cw, .slice Af t.q.nf cf, .slice Ao t.no co, .slice Ap t.np cp, .slice As t.ns cs, .int .i64 t.far, .int .i64 t.harm, .int .i64 t.many] 29).mono (Below.refl _ _)).mono hb; simpa using this)
  clear hb hB1 HD0 HT0
  obtain ⟨T_0, T_1, T_2, T_3, T_4, T_5, T_6, T_7, T_8, T_l⟩ := T1.out.c9
  obtain ⟨ae, hae⟩ : ∃ v, t.askErr is = v := ⟨_, rfl⟩
  rw [hae]
  have HAE := Lib.hid hae
  clear hae
  by_cases h0 : ae = 0
  case neg =>
    have g0 : (ae != 0) = true := by simp [h0]
    have HE := Lib.hid (show t.knowErr is = ae by unfold Pt.knowErr; rw [HAE.out, if_neg h0])
    have HZ := Lib.hid h0
    clear h0
    go_wp2_with fail
    go_ret2
    exact ⟨⟨fun _ => by rw [HE.out]; rfl, fun h => by rw [HE.out] at h; exact absurd h HZ.out⟩, HD1.out⟩
  subst h0
  obtain ⟨ok, rfl⟩ := Pt.askErr_zero HAE.out
  have HOK := Lib.hid ok
  clear ok
  go_wp2_with fail
  refine (leftOf9_any Aw Af Ao Ap As cw cf co cp cs t _ HOK.out HT1.out).mono ?_
  rintro e w2 ⟨⟨A4, c4, rfl, hi4⟩, hb⟩
  have hB2 : Below w1.heap.size w1 w2 := bTrans (Below.refl _ _) hb
  have HD2 := Lib.hid (bTrans HD1.out hB2)
  have HT2 := Lib.hid (HT1.out.mono hB2)
  have HI42 := Lib.hid (hi4)
  have T2 := Lib.hid (T1.out.mono hB2)
  clear hb hB2 HD1 HT1 T1 T_0 T_1 T_2 T_3 T_4 T_5 T_6 T_7 T_8 T_l
  obtain ⟨T_0, T_1, T_2, T_3, T_4, T_5, T_6, T_7, T_8, T_l⟩ := T2.out.c9
  clear hi4
  obtain ⟨n, hn⟩ : ∃ n, t.q.leftL.length = n := ⟨_, rfl⟩
  have HN := Lib.hid hn
  rw [hn]
  by_cases hz : n = 0
  case pos =>
    have HE := Lib.hid (Pt.knowErr_none HOK.out (List.eq_nil_of_length_eq_zero (hn.trans hz)))
    have g0 : ((n : Int) == 0) = true := by simp [hz]
    have g1 : (n == 0) = true := by simp [hz]
    clear hn hz
    go_wp2_with fail
    go_ret2
    exact ⟨⟨fun _ => by rw [HE.out]; rfl, fun h => by rw [HE.out] at h; exact absurd h (by decide)⟩, HD2.out⟩
  have HE := Lib.hid (Pt.knowErr_ok HOK.out (fun e => hz (by rw [← hn, e]; rfl)))
  have g0 : ((n : Int) == 0) = false := by simp [hz]
  have g1 : (n == 0) = false := by simp [hz]
  clear hn hz
  go_wp2_with fail
  go_ret2
  exact ⟨⟨fun h => absurd HE.out h, fun _ => ⟨A4, c4, by rw [HN.out]; rfl, HI42.out⟩⟩, HD2.out⟩
set_option maxHeartbeats 4000000 in
set_option maxRecDepth 100000 in
theorem forbs9_any (Aw Af Ao Ap As : Option Addr) (cw cf co cp cs : Nat) (t : Pt) (Al : Option Addr) (cl i v : Nat) (w : World) (ok : t.Ok) (hT : PAt w Aw Af Ao Ap As t) (hL : IntsAt w Al t.q.leftL.length (intL0 t.q.leftL)) (hi : i < t.ns) (hv : (v : Int) < t.q.wells) :
    Calls Tryz.prog 100 #[.agg #[.int .i64 t.q.wells, .slice Aw t.q.nw cw, .slice Af t.q.nf cf, .slice Ao t.no co, .slice Ap t.np cp, .slice As t.ns cs, .int .i64 t.far, .int .i64 t.harm, .int .i64 t.many], .slice Al t.q.leftL.length cl, .int .i64 (i : Int), .int .i64 (v : Int)] w fun e w' => e = .returned (.int .i64 ((t.inN i v : Int))) ∧ Below w.heap.size w w' := by
  have hl6 := left_len ok.q
  obtain ⟨n, hn⟩ : ∃ n, t.q.leftL.length = n := ⟨_, rfl⟩
  have HN := Lib.hid hn
  have HIN := Lib.hid (show t.inN i v = t.inTo i v n by unfold Pt.inN; rw [hn])
  have hL := (hn ▸ hL : IntsAt w Al n (intL0 t.q.leftL))
  rw [hn] at hl6
  rw [hn, HIN.out]
  clear hn
  have HD0 := Lib.hid (Below.refl w.heap.size w)
  have HOK := Lib.hid ok
  have HT0 := Lib.hid hT
  have HL0 := Lib.hid hL
  have HI := Lib.hid hi
  have HV := Lib.hid hv
  clear ok hT hL hi hv
  go_enter Tryz.func100, Tryz.ntmps100
  go_wp2_with fail
  go_loopw [9, 10] (fun s9 s10 wr => ∃ k : Nat, k ≤ n ∧ s9 = .int .i64 (t.inTo i v k : Int) ∧ s10 = .int .i64 (k : Int) ∧ Below (w.alloc (.cells #[.int .i64 t.q.wells, .slice Aw t.q.nw cw, .slice Af t.q.nf cf, .slice Ao t.no co, .slice Ap t.np cp, .slice As t.ns cs, .int .i64 t.far, .int .i64 t.harm, .int .i64 t.many] 29)).heap.size (w.alloc (.cells #[.int .i64 t.q.wells, .slice Aw t.q.nw cw, .slice Af t.q.nf cf, .slice Ao t.no co, .slice Ap t.np cp, .slice As t.ns cs, .int .i64 t.far, .int .i64 t.harm, .int .i64 t.many] 29)) wr) (fun _ s10 _ => n - (intOf s10).toNat)
  case atStart => exact ⟨0, Nat.zero_le _, rfl, rfl, Below.refl _ _⟩
  case round =>
    obtain ⟨k, hk_k, rfl, rfl, hb⟩ := hrel
    have HBk := Lib.hid hb
    have hB1 : Below w.heap.size w wr := bTrans (bAlloc (Below.refl _ _) (.cells #[.int .i64 t.q.wells, .slice Aw t.q.nw cw, .slice Af t.q.nf cf, .slice Ao t.no co, .slice Ap t.np cp, .slice As t.ns cs, .int .i64 t.far, .int .i64 t.harm, .int .i64 t.many] 29)) hb
    have HD1 := Lib.hid (bTrans HD0.out hB1)
    have HT1 := Lib.hid (HT0.out.mono hB1)
    have HL1 := Lib.hid (HL0.out.mono hB1)
    have HU_k1 := Lib.hid ((show Upto (w.alloc (.cells #[.int .i64 t.q.wells, .slice Aw t.q.nw cw, .slice Af t.q.nf cf, .slice Ao t.no co, .slice Ap t.np cp, .slice As t.ns cs, .int .i64 t.far, .int .i64 t.harm, .int .i64 t.many] 29)) wr from HBk.out))
    have T1 := Lib.hid (show TBox wr w.heap.size 29 #[.int .i64 t.q.wells, .slice Aw t.q.nw cw, .slice Af t.q.nf cf, .slice Ao t.no co, .slice Ap t.np cp, .slice As t.ns cs, .int .i64 t.far, .int .i64 t.harm, .int .i64 t.many] from by have := ((TBox.new w #[.int .i64 t.q.wells, .slice Aw t.q.nw cw, .slice Af t.q.nf cf, .slice Ao t.no co, .slice Ap t.np cp, .slice As t.ns cs, .int .i64 t.far, .int .i64 t.harm, .int .i64 t.many] 29).mono (Below.refl _ _)).mono hb; simpa using this)
    clear hb hB1
    obtain ⟨T_0, T_1, T_2, T_3, T_4, T_5, T_6, T_7, T_8, T_l⟩ := T1.out.c9
    by_cases hlt_k : k < n
    case pos =>
      have h1_k : (k : Int) < (n : Int) := by omega
      have h0_k : (0 : Int) ≤ (k : Int) := by omega
      obtain ⟨m, hm⟩ : ∃ m, t.inTo i v k = m := ⟨_, rfl⟩
      have HM := Lib.hid hm
      have hm6 : m ≤ 6 := by rw [← hm]; have := cntB_le (fun j => t.forb i v (intL0 t.q.leftL j)) k; unfold Pt.inTo; omega
      rw [hm]
      clear hm
      obtain ⟨bl, ol, j, hA, hbl, cl0, hj, hjw⟩ := left_get (t := t) (HN.out.symm ▸ HL1.out) (by rw [HN.out]; exact hlt_k : k < t.q.leftL.length)
      have HJ := Lib.hid hj
      have HJW := Lib.hid hjw
      have hwm : IntKind.i64.wrap ((m : Int) + 1) = ((m + 1 : Nat) : Int) := IntWalk.i64_in _ (by omega)
      obtain ⟨bf, hbf⟩ : ∃ b, t.forb i v (j : Int) = b := ⟨_, rfl⟩
      have HF := Lib.hid hbf
      subst hA
      clear hj hjw hbf
      have HFB := Lib.hid (fun (w' : World) (hb : Below wr.heap.size wr w') => (HF.out ▸ isForb9_any Aw Af Ao Ap As cw cf co cp cs t j i v w' HOK.out (HT1.out.mono hb) HI.out HV.out HJW.out : Calls Tryz.prog 44 #[.agg #[.int .i64 t.q.wells, .slice Aw t.q.nw cw, .slice Af t.q.nf cf, .slice Ao t.no co, .slice Ap t.np cp, .slice As t.ns cs, .int .i64 t.far, .int .i64 t.harm, .int .i64 t.many], .int .i64 (j : Int), .int .i64 (i : Int), .int .i64 (v : Int)] w' fun e w'' => e = .returned (.bool bf) ∧ Below w'.heap.size w' w''))
      go_wp2_with fail
      refine wp_region_quiet_below (by kernel_rfl) (by kernel_rfl) ?_
      repeat (go_big_quiet_step (((go_at_call 44; with_reducible exact Calls.regrown_of (HFB.out _ (below_regrown _ _ _))))))
      refine wpQuiet_nil ?_
      intro w2 hw9
      have hb := below_of_regrown hw9
      clear hw9
      clear cl0 hbl HFB
      have hB2 : Below wr.heap.size wr w2 := bTrans (Below.refl _ _) hb
      have HD2 := Lib.hid (bTrans HD1.out hB2)
      have HT2 := Lib.hid (HT1.out.mono hB2)
      have HL2 := Lib.hid (HL1.out.mono hB2)
      have HU_k2 := Lib.hid (HU_k1.out.mono hB2)
      have T2 := Lib.hid (T1.out.mono hB2)
      clear hb hB2 HD1 HT1 HL1 HU_k1 T1 T_0 T_1 T_2 T_3 T_4 T_5 T_6 T_7 T_8 T_l
      obtain ⟨T_0, T_1, T_2, T_3, T_4, T_5, T_6, T_7, T_8, T_l⟩ := T2.out.c9
      cases bf
      · skip
        have HR := Lib.hid (show t.inTo i v (k + 1) = m by unfold Pt.inTo cntB; rw [HJ.out, HF.out]; exact HM.out)
        go_wp2_with fail
        go_roundw
        case rel =>
          first
          | exact ⟨k + 1, by omega, by rw [HR.out], by go_num, HU_k2.out⟩
          | ((repeat apply Exists.intro)
             refine ⟨⟨k + 1, by omega, by rw [HR.out], ?_, HU_k2.out⟩, rfl⟩
             go_num)
        case measure => simp [intOf]; omega
      · skip
        have HR := Lib.hid (show t.inTo i v (k + 1) = m + 1 by unfold Pt.inTo cntB; rw [HJ.out, HF.out]; exact congrArg (· + 1) HM.out)
        go_wp2_with fail
        go_roundw
        case rel =>
          first
          | exact ⟨k + 1, by omega, by rw [HR.out]; rfl, by go_num, HU_k2.out⟩
          | ((repeat apply Exists.intro)
             refine ⟨⟨k + 1, by omega, by rw [HR.out]; rfl, ?_, HU_k2.out⟩, rfl⟩
             go_num)
        case measure => simp [intOf]; omega
    have he_k : k = n := by omega
    have hk9 : ¬ (k : Int) < (n : Int) := by omega
    have hk8 : ¬ k < n := by omega
    have HR := Lib.hid (show t.inTo i v n = t.inTo i v k by rw [he_k])
    clear he_k
    go_wp2_with fail
    go_ret
    exact ⟨by rw [HR.out]; rfl, HD1.out⟩
set_option maxHeartbeats 4000000 in
set_option maxRecDepth 100000 in
theorem forbidsE9_any (Aw Af Ao Ap As : Option Addr) (cw cf co cp cs : Nat) (t : Pt) (n v : Int) (w : World) (hs : t.Small) (hT : PAt w Aw Af Ao Ap As t) :
    Calls Tryz.prog 29 #[.agg #[.int .i64 t.q.wells, .slice Aw t.q.nw cw, .slice Af t.q.nf cf, .slice Ao t.no co, .slice Ap t.np cp, .slice As t.ns cs, .int .i64 t.far, .int .i64 t.harm, .int .i64 t.many], .int .i64 n, .int .i64 v] w fun e w' => e = .returned (.tuple #[.int .i64 (t.forbidsOut n v).1, .int .i64 (t.forbidsOut n v).2]) ∧ Below w.heap.size w w' := by
  obtain ⟨b1, h1⟩ : ∃ b, t.hasB n = b := ⟨_, rfl⟩
  obtain ⟨b2, h2⟩ : ∃ b, t.oldB v = b := ⟨_, rfl⟩
  obtain ⟨bb, hbb⟩ : ∃ bb, (b1 && b2) = bb := ⟨_, rfl⟩
  obtain ⟨er, her⟩ : ∃ v, t.knowErr bb = v := ⟨_, rfl⟩
  have HC1 := Lib.hid (fun w => h1 ▸ isSpotN9_any Aw Af Ao Ap As cw cf co cp cs t n w hs.ns : ∀ w : World, Calls Tryz.prog 40 #[.agg #[.int .i64 t.q.wells, .slice Aw t.q.nw cw, .slice Af t.q.nf cf, .slice Ao t.no co, .slice Ap t.np cp, .slice As t.ns cs, .int .i64 t.far, .int .i64 t.harm, .int .i64 t.many], .int .i64 n] w fun e w' => e = .returned (.bool b1) ∧ Below w.heap.size w w')
  have HC2 := Lib.hid (fun w => h2 ▸ isWell9_any Aw Af Ao Ap As cw cf co cp cs t v w : ∀ w : World, Calls Tryz.prog 98 #[.agg #[.int .i64 t.q.wells, .slice Aw t.q.nw cw, .slice Af t.q.nf cf, .slice Ao t.no co, .slice Ap t.np cp, .slice As t.ns cs, .int .i64 t.far, .int .i64 t.harm, .int .i64 t.many], .int .i64 v] w fun e w' => e = .returned (.bool b2) ∧ Below w.heap.size w w')
  have HE := Lib.hid (show t.forbidsOut n v = if er = 0 then (knownK (t.inN n.toNat v.toNat) t.q.leftL.length, 0) else (0, er) by unfold Pt.forbidsOut; rw [h1, h2, hbb, her])
  have HER := Lib.hid her
  have HG := Lib.hid hbb
  have HW1 := Lib.hid h1
  have HW2 := Lib.hid h2
  clear h1 h2 her hbb
  have HD0 := Lib.hid (Below.refl w.heap.size w)
  have HSM := Lib.hid hs
  have HT0 := Lib.hid hT
  clear hs hT
  go_enter Tryz.func29, Tryz.ntmps29
  by_cases he : er = 0
  case neg =>
    have g0 : (er != 0) = true := by simp [he]
    have HNZ := Lib.hid he
    rw [HE.out, if_neg he]
    clear he
    rcases two_ways b1 b2 with rfl | ⟨rfl, rfl⟩ | ⟨rfl, rfl⟩
    all_goals
      obtain rfl := HG.out
      go_wp2_with fail
      have HCO := Lib.hid (fun (w' : World) (hb : Below (w.alloc (.cells #[.int .i64 t.q.wells, .slice Aw t.q.nw cw, .slice Af t.q.nf cf, .slice Ao t.no co, .slice Ap t.np cp, .slice As t.ns cs, .int .i64 t.far, .int .i64 t.harm, .int .i64 t.many] 29)).heap.size (w.alloc (.cells #[.int .i64 t.q.wells, .slice Aw t.q.nw cw, .slice Af t.q.nf cf, .slice Ao t.no co, .slice Ap t.np cp, .slice As t.ns cs, .int .i64 t.far, .int .i64 t.harm, .int .i64 t.many] 29)) w') => ((known9_any Aw Af Ao Ap As cw cf co cp cs t _ w' HSM.out ((HT0.out.mono (bAlloc (Below.refl _ _) (.cells #[.int .i64 t.q.wells, .slice Aw t.q.nw cw, .slice Af t.q.nf cf, .slice Ao t.no co, .slice Ap t.np cp, .slice As t.ns cs, .int .i64 t.far, .int .i64 t.harm, .int .i64 t.many] 29))).mono hb)).mono fun e w'' h => ⟨HER.out ▸ h.1, h.2⟩ : Calls Tryz.prog 97 #[.agg #[.int .i64 t.q.wells, .slice Aw t.q.nw cw, .slice Af t.q.nf cf, .slice Ao t.no co, .slice Ap t.np cp, .slice As t.ns cs, .int .i64 t.far, .int .i64 t.harm, .int .i64 t.many], .bool _] w' fun e w'' => Kn9 w'' t er e ∧ Below w'.heap.size w' w''))
      refine wp_region_call 9 (fun v w2 => Kn9 w2 t er (.returned v) ∧ Below (w.alloc (.cells #[.int .i64 t.q.wells, .slice Aw t.q.nw cw, .slice Af t.q.nf cf, .slice Ao t.no co, .slice Ap t.np cp, .slice As t.ns cs, .int .i64 t.far, .int .i64 t.harm, .int .i64 t.many] 29)).heap.size (w.alloc (.cells #[.int .i64 t.q.wells, .slice Aw t.q.nw cw, .slice Af t.q.nf cf, .slice Ao t.no co, .slice Ap t.np cp, .slice As t.ns cs, .int .i64 t.far, .int .i64 t.harm, .int .i64 t.many] 29)) w2) (by kernel_rfl) (by decide +kernel) rfl ?_
      apply Exists.intro
      refine ⟨fun K hK => ?_, ?_, fun w1 hb1 K Q' hK => ?_, ?_⟩
      · skip
        repeat (first | (refine wpCalm_skip rfl ?_) | (refine wpCalm_step rfl (fun K hK => ?_); go_simp; (first | (refine hK _ ?_; clear hK K) | (apply Exists.intro; refine ⟨fun _ => ?_, hK _ ?_⟩; ((first | (go_at_call 40; with_reducible exact newer_of (HC1.out _)) | (go_at_call 98; with_reducible exact newer_of (HC2.out _)))); clear hK K))))
        refine wpCalm_nil ?_
        exact hK
      · rfl
      · go_simp
        refine (HCO.out w1 hb1).mono ?_
        rintro e w2 ⟨ho, hb2⟩
        obtain ⟨v, rfl⟩ := Kn9.ret ho
        exact hK v w2 ⟨ho, bTrans hb1 hb2⟩
      clear HCO
      rintro v w2 ⟨ho, hb2⟩
      obtain rfl := Ending.returned.inj (ho.1 HNZ.out)
      clear ho
      apply Exists.intro
      refine ⟨fun K hK => ?_, fun w1 hb3 => ?_⟩
      · skip
        repeat (first | (refine wpCalm_skip rfl ?_) | (refine wpCalm_step rfl (fun K hK => ?_); go_simp; (first | (refine hK _ ?_; clear hK K) | (apply Exists.intro; refine ⟨fun _ => ?_, hK _ ?_⟩; (fail); clear hK K))))
        refine wpCalm_nil ?_
        exact hK
      have hb := bTrans hb2 hb3
      clear hb2 hb3
      have hB1 : Below w.heap.size w w1 := bTrans (bAlloc (Below.refl _ _) (.cells #[.int .i64 t.q.wells, .slice Aw t.q.nw cw, .slice Af t.q.nf cf, .slice Ao t.no co, .slice Ap t.np cp, .slice As t.ns cs, .int .i64 t.far, .int .i64 t.harm, .int .i64 t.many] 29)) hb
      have HD1 := Lib.hid (bTrans HD0.out hB1)
      have HT1 := Lib.hid (HT0.out.mono hB1)
      have T1 := Lib.hid (show TBox w1 w.heap.size 29 #[.int .i64 t.q.wells, .slice Aw t.q.nw cw, .slice Af t.q.nf cf, .slice Ao t.no co, .slice Ap t.np cp, .slice As t.ns cs, .int .i64 t.far, .int .i64 t.harm, .int .i64 t.many] from by have := ((TBox.new w #[.int .i64 t.q.wells, .slice Aw t.q.nw cw, .slice Af t.q.nf cf, .slice Ao t.no co, .slice Ap t.np cp, .slice As t.ns cs, .int .i64 t.far, .int .i64 t.harm, .int .i64 t.many] 29).mono (Below.refl _ _)).mono hb; simpa using this)
      clear hb hB1 HD0 HT0
      obtain ⟨T_0, T_1, T_2, T_3, T_4, T_5, T_6, T_7, T_8, T_l⟩ := T1.out.c9
      go_wp2_with fail
      go_ret2
      exact ⟨rfl, HD1.out⟩
  subst he
  obtain ⟨ok, rfl, hne⟩ := Pt.knowErr_zero HER.out
  have HOK := Lib.hid ok
  have hg := HG.out
  simp only [Bool.and_eq_true] at hg
  obtain ⟨rfl, rfl⟩ := hg
  have hn := hasB_iff.1 HW1.out
  have hv := inR_iff.1 ((wellB_ok ok.q v).symm.trans HW2.out)
  obtain ⟨i, rfl⟩ : ∃ i : Nat, n = (i : Int) := ⟨n.toNat, by omega⟩
  obtain ⟨j, rfl⟩ : ∃ j : Nat, v = (j : Int) := ⟨v.toNat, by omega⟩
  have HI := Lib.hid (show i < t.ns by omega)
  have HJ := Lib.hid (show (j : Int) < t.q.wells by omega)
  rw [HE.out, if_pos rfl, Int.toNat_natCast, Int.toNat_natCast]
  obtain ⟨kk, hkk⟩ : ∃ kk, knownK (t.inN i j : Int) (t.q.leftL.length : Int) = kk := ⟨_, rfl⟩
  rw [hkk]
  have HKK := Lib.hid hkk
  clear ok hn hv hne hkk
  go_wp2_with fail
  have HCO := Lib.hid (fun (w' : World) (hb : Below (w.alloc (.cells #[.int .i64 t.q.wells, .slice Aw t.q.nw cw, .slice Af t.q.nf cf, .slice Ao t.no co, .slice Ap t.np cp, .slice As t.ns cs, .int .i64 t.far, .int .i64 t.harm, .int .i64 t.many] 29)).heap.size (w.alloc (.cells #[.int .i64 t.q.wells, .slice Aw t.q.nw cw, .slice Af t.q.nf cf, .slice Ao t.no co, .slice Ap t.np cp, .slice As t.ns cs, .int .i64 t.far, .int .i64 t.harm, .int .i64 t.many] 29)) w') => ((known9_any Aw Af Ao Ap As cw cf co cp cs t true w' HSM.out ((HT0.out.mono (bAlloc (Below.refl _ _) (.cells #[.int .i64 t.q.wells, .slice Aw t.q.nw cw, .slice Af t.q.nf cf, .slice Ao t.no co, .slice Ap t.np cp, .slice As t.ns cs, .int .i64 t.far, .int .i64 t.harm, .int .i64 t.many] 29))).mono hb)).mono fun e w'' h => ⟨HER.out ▸ h.1, h.2⟩ : Calls Tryz.prog 97 #[.agg #[.int .i64 t.q.wells, .slice Aw t.q.nw cw, .slice Af t.q.nf cf, .slice Ao t.no co, .slice Ap t.np cp, .slice As t.ns cs, .int .i64 t.far, .int .i64 t.harm, .int .i64 t.many], .bool true] w' fun e w'' => Kn9 w'' t 0 e ∧ Below w'.heap.size w' w''))
  refine wp_region_call 9 (fun v w2 => Kn9 w2 t 0 (.returned v) ∧ Below (w.alloc (.cells #[.int .i64 t.q.wells, .slice Aw t.q.nw cw, .slice Af t.q.nf cf, .slice Ao t.no co, .slice Ap t.np cp, .slice As t.ns cs, .int .i64 t.far, .int .i64 t.harm, .int .i64 t.many] 29)).heap.size (w.alloc (.cells #[.int .i64 t.q.wells, .slice Aw t.q.nw cw, .slice Af t.q.nf cf, .slice Ao t.no co, .slice Ap t.np cp, .slice As t.ns cs, .int .i64 t.far, .int .i64 t.harm, .int .i64 t.many] 29)) w2) (by kernel_rfl) (by decide +kernel) rfl ?_
  apply Exists.intro
  refine ⟨fun K hK => ?_, ?_, fun w1 hb1 K Q' hK => ?_, ?_⟩
  · skip
    repeat (first | (refine wpCalm_skip rfl ?_) | (refine wpCalm_step rfl (fun K hK => ?_); go_simp; (first | (refine hK _ ?_; clear hK K) | (apply Exists.intro; refine ⟨fun _ => ?_, hK _ ?_⟩; ((first | (go_at_call 40; with_reducible exact newer_of (HC1.out _)) | (go_at_call 98; with_reducible exact newer_of (HC2.out _)))); clear hK K))))
    refine wpCalm_nil ?_
    exact hK
  · rfl
  · go_simp
    refine (HCO.out w1 hb1).mono ?_
    rintro e w2 ⟨ho, hb2⟩
    obtain ⟨v, rfl⟩ := Kn9.ret ho
    exact hK v w2 ⟨ho, bTrans hb1 hb2⟩
  clear HCO
  rintro v w2 ⟨ho, hb2⟩
  obtain ⟨A4, c4, e1, hL⟩ := ho.2 rfl
  obtain rfl := Ending.returned.inj e1
  clear ho e1
  apply Exists.intro
  refine ⟨fun K hK => ?_, fun w1 hb3 => ?_⟩
  · skip
    repeat (first | (refine wpCalm_skip rfl ?_) | (refine wpCalm_step rfl (fun K hK => ?_); go_simp; (first | (refine hK _ ?_; clear hK K) | (apply Exists.intro; refine ⟨fun _ => ?_, hK _ ?_⟩; (fail); clear hK K))))
    refine wpCalm_nil ?_
    exact hK
  have hL := hL.mono hb3
  have hb := bTrans hb2 hb3
  clear hb2 hb3
  have hB1 : Below w.heap.size w w1 := bTrans (bAlloc (Below.refl _ _) (.cells #[.int .i64 t.q.wells, .slice Aw t.q.nw cw, .slice Af t.q.nf cf, .slice Ao t.no co, .slice Ap t.np cp, .slice As t.ns cs, .int .i64 t.far, .int .i64 t.harm, .int .i64 t.many] 29)) hb
  have HD1 := Lib.hid (bTrans HD0.out hB1)
  have HT1 := Lib.hid (HT0.out.mono hB1)
  have HL1 := Lib.hid (hL)
  have T1 := Lib.hid (show TBox w1 w.heap.size 29 #[.int .i64 t.q.wells, .slice Aw t.q.nw cw, .slice Af t.q.nf cf, .slice Ao t.no co, .slice Ap t.np cp, .slice As t.ns cs, .int .i64 t.far, .int .i64 t.harm, .int .i64 t.many] from by have := ((TBox.new w #[.int .i64 t.q.wells, .slice Aw t.q.nw cw, .slice Af t.q.nf cf, .slice Ao t.no co, .slice Ap t.np cp, .slice As t.ns cs, .int .i64 t.far, .int .i64 t.harm, .int .i64 t.many] 29).mono (Below.refl _ _)).mono hb; simpa using this)
  clear hb hB1 HD0 HT0
  obtain ⟨T_0, T_1, T_2, T_3, T_4, T_5, T_6, T_7, T_8, T_l⟩ := T1.out.c9
  clear hL
  go_wp2_with fail
  refine (forbs9_any Aw Af Ao Ap As cw cf co cp cs t A4 c4 i j _ HOK.out HT1.out HL1.out HI.out HJ.out).mono ?_
  rintro e w2 ⟨rfl, hb⟩
  have hB2 : Below w1.heap.size w1 w2 := bTrans (Below.refl _ _) hb
  have HD2 := Lib.hid (bTrans HD1.out hB2)
  have HT2 := Lib.hid (HT1.out.mono hB2)
  have HL2 := Lib.hid (HL1.out.mono hB2)
  have T2 := Lib.hid (T1.out.mono hB2)
  clear hb hB2 HD1 HT1 HL1 T1 T_0 T_1 T_2 T_3 T_4 T_5 T_6 T_7 T_8 T_l
  obtain ⟨T_0, T_1, T_2, T_3, T_4, T_5, T_6, T_7, T_8, T_l⟩ := T2.out.c9
  go_wp2_with fail
  refine (known1_any _ _ _).mono ?_
  rintro e w3 ⟨rfl, hb⟩
  rw [HKK.out]
  have hB3 : Below w2.heap.size w2 w3 := bTrans (Below.refl _ _) hb
  have HD3 := Lib.hid (bTrans HD2.out hB3)
  have HT3 := Lib.hid (HT2.out.mono hB3)
  have HL3 := Lib.hid (HL2.out.mono hB3)
  have T3 := Lib.hid (T2.out.mono hB3)
  clear hb hB3 HD2 HT2 HL2 T2 T_0 T_1 T_2 T_3 T_4 T_5 T_6 T_7 T_8 T_l
  obtain ⟨T_0, T_1, T_2, T_3, T_4, T_5, T_6, T_7, T_8, T_l⟩ := T3.out.c9
  go_wp2_with fail
  go_ret2
  exact ⟨rfl, HD3.out⟩
set_option maxHeartbeats 4000000 in
set_option maxRecDepth 100000 in
theorem whoOf9_any (Aw Af Ao Ap As : Option Addr) (cw cf co cp cs : Nat) (t : Pt) (Al : Option Addr) (cl i : Nat) (w : World) (ok : t.Ok) (hT : PAt w Aw Af Ao Ap As t) (hL : IntsAt w Al t.q.leftL.length (intL0 t.q.leftL)) (hi : i < t.ns) :
    Calls Tryz.prog 103 #[.agg #[.int .i64 t.q.wells, .slice Aw t.q.nw cw, .slice Af t.q.nf cf, .slice Ao t.no co, .slice Ap t.np cp, .slice As t.ns cs, .int .i64 t.far, .int .i64 t.harm, .int .i64 t.many], .slice Al t.q.leftL.length cl, .int .i64 (i : Int)] w fun e w' => (∃ v, e = .returned v ∧ OwnL w' w.heap.size v (t.who i)) ∧ Below w.heap.size w w' := by
  have hl6 := left_len ok.q
  have hno4 : t.no ≤ 4 := by have := ok.no; have := ok.q.w1; omega
  obtain ⟨n, hn⟩ : ∃ n, t.q.leftL.length = n := ⟨_, rfl⟩
  have HN := Lib.hid hn
  have HWH := Lib.hid (show t.who i = selTo (t.whoB i) t.no by unfold Pt.who; rw [Pt.m_no ok])
  have hL := (hn ▸ hL : IntsAt w Al n (intL0 t.q.leftL))
  rw [hn] at hl6
  rw [hn, HWH.out]
  clear hn
  have HD0 := Lib.hid (Below.refl w.heap.size w)
  have HOK := Lib.hid ok
  have HT0 := Lib.hid hT
  have HL0 := Lib.hid hL
  have HI := Lib.hid hi
  clear ok hT hL hi
  go_enter Tryz.func103, Tryz.ntmps103
  go_wp2_with fail
  go_loopw [7, 8] (fun s7 s8 wr => ∃ k : Nat, k ≤ t.no ∧ s8 = .int .i64 (k : Int) ∧ OwnL wr (w.heap.size + 1) s7 (selTo (t.whoB i) k) ∧ Below (w.alloc (.cells #[.int .i64 t.q.wells, .slice Aw t.q.nw cw, .slice Af t.q.nf cf, .slice Ao t.no co, .slice Ap t.np cp, .slice As t.ns cs, .int .i64 t.far, .int .i64 t.harm, .int .i64 t.many] 29)).heap.size (w.alloc (.cells #[.int .i64 t.q.wells, .slice Aw t.q.nw cw, .slice Af t.q.nf cf, .slice Ao t.no co, .slice Ap t.np cp, .slice As t.ns cs, .int .i64 t.far, .int .i64 t.harm, .int .i64 t.many] 29)) wr) (fun _ s8 _ => t.no - (intOf s8).toNat)
  case atStart => exact ⟨0, Nat.zero_le _, rfl, OwnL.nil _ _, Below.refl _ _⟩
  case round =>
    obtain ⟨k, hk_k, rfl, hown, hb⟩ := hrel
    have HBk := Lib.hid hb
    have HOWN := Lib.hid hown
    clear hown
    have hB1 : Below w.heap.size w wr := bTrans (bAlloc (Below.refl _ _) (.cells #[.int .i64 t.q.wells, .slice Aw t.q.nw cw, .slice Af t.q.nf cf, .slice Ao t.no co, .slice Ap t.np cp, .slice As t.ns cs, .int .i64 t.far, .int .i64 t.harm, .int .i64 t.many] 29)) hb
    have HD1 := Lib.hid (bTrans HD0.out hB1)
    have HT1 := Lib.hid (HT0.out.mono hB1)
    have HL1 := Lib.hid (HL0.out.mono hB1)
    have HU_k1 := Lib.hid ((show Upto (w.alloc (.cells #[.int .i64 t.q.wells, .slice Aw t.q.nw cw, .slice Af t.q.nf cf, .slice Ao t.no co, .slice Ap t.np cp, .slice As t.ns cs, .int .i64 t.far, .int .i64 t.harm, .int .i64 t.many] 29)) wr from HBk.out))
    have T1 := Lib.hid (show TBox wr w.heap.size 29 #[.int .i64 t.q.wells, .slice Aw t.q.nw cw, .slice Af t.q.nf cf, .slice Ao t.no co, .slice Ap t.np cp, .slice As t.ns cs, .int .i64 t.far, .int .i64 t.harm, .int .i64 t.many] from by have := ((TBox.new w #[.int .i64 t.q.wells, .slice Aw t.q.nw cw, .slice Af t.q.nf cf, .slice Ao t.no co, .slice Ap t.np cp, .slice As t.ns cs, .int .i64 t.far, .int .i64 t.harm, .int .i64 t.many] 29).mono (Below.refl _ _)).mono hb; simpa using this)
    clear hb hB1
    obtain ⟨T_0, T_1, T_2, T_3, T_4, T_5, T_6, T_7, T_8, T_l⟩ := T1.out.c9
    have HO1 := HOWN
    clear HOWN
    by_cases hlt_k : k < t.no
    case pos =>
      have h1_k : (k : Int) < (t.no : Int) := by omega
      have h0_k : (0 : Int) ≤ (k : Int) := by omega
      have HV := Lib.hid (show (k : Int) < t.q.wells by have := HOK.out.no; omega)
      have HLEN := Lib.hid (show (selTo (t.whoB i) k).length ≤ 1000 from by have := selTo_len (t.whoB i) k; omega)
      obtain ⟨m, hm⟩ : ∃ m, t.inN i k = m := ⟨_, rfl⟩
      have HM := Lib.hid hm
      clear hm
      go_wp2_with fail
      refine (HN.out ▸ forbs9_any Aw Af Ao Ap As cw cf co cp cs t Al cl i k _ HOK.out HT1.out (HN.out.symm ▸ HL1.out) HI.out HV.out).mono ?_
      rintro e w2 ⟨rfl, hb⟩
      rw [HM.out]
      have hB2 : Below wr.heap.size wr w2 := bTrans (Below.refl _ _) hb
      have HD2 := Lib.hid (bTrans HD1.out hB2)
      have HT2 := Lib.hid (HT1.out.mono hB2)
      have HL2 := Lib.hid (HL1.out.mono hB2)
      have HU_k2 := Lib.hid (HU_k1.out.mono hB2)
      have HO2 := Lib.hid (HO1.out.mono hB2)
      have T2 := Lib.hid (T1.out.mono hB2)
      clear hb hB2 HD1 HT1 HL1 HU_k1 HO1 T1 T_0 T_1 T_2 T_3 T_4 T_5 T_6 T_7 T_8 T_l
      obtain ⟨T_0, T_1, T_2, T_3, T_4, T_5, T_6, T_7, T_8, T_l⟩ := T2.out.c9
      by_cases hz : 0 < m
      case neg =>
        have hz1 : ¬ (0 : Int) < (m : Int) := by omega
        have hz2 : ¬ (m : Int) > 0 := by omega
        have HS := Lib.hid (show selTo (t.whoB i) (k + 1) = selTo (t.whoB i) k from selTo_f (by unfold Pt.whoB; rw [HM.out]; simpa using hz))
        clear hz
        go_wp2_with fail
        go_roundw
        case rel =>
          first
          | exact ⟨k + 1, by omega, by go_num, by rw [HS.out]; exact HO2.out, HU_k2.out⟩
          | ((repeat apply Exists.intro)
             refine ⟨⟨k + 1, by omega, ?_, by rw [HS.out]; exact HO2.out, HU_k2.out⟩, rfl⟩
             go_num)
        case measure => simp [intOf]; omega
      have hz1 : (0 : Int) < (m : Int) := by omega
      have hz2 : (m : Int) > 0 := by omega
      have HS := Lib.hid (show selTo (t.whoB i) (k + 1) = selTo (t.whoB i) k ++ [(k : Int)] from selTo_t (by unfold Pt.whoB; rw [HM.out]; simpa using hz))
      clear hz
      go_wp2_with (at_builtin; refine wpList_snoc _ rfl (Operand.tmp 22) (Operand.tmp 24) rfl (w.heap.size + 1) _ (selTo (t.whoB i) k) rfl ?q1 w2.heap.size k rfl ?q2 HLEN.out ?q3 ?_)
      case q1 => exact HO2.out.mono (bAlloc (Below.refl _ _) _)
      case q2 => simp [go_sem]
      case q3 => have := HD2.out.size; have := T_l; simp; omega
      intro v' w3 hown5 hb5
      have HO9 := Lib.hid hown5
      have HL9 := Lib.hid (hb5 (w.heap.size + 1) (w.alloc (.cells #[.int .i64 t.q.wells, .slice Aw t.q.nw cw, .slice Af t.q.nf cf, .slice Ao t.no co, .slice Ap t.np cp, .slice As t.ns cs, .int .i64 t.far, .int .i64 t.harm, .int .i64 t.many] 29)) (Nat.le_refl _) (by have := bAlloc (show Below (w.alloc (.cells #[.int .i64 t.q.wells, .slice Aw t.q.nw cw, .slice Af t.q.nf cf, .slice Ao t.no co, .slice Ap t.np cp, .slice As t.ns cs, .int .i64 t.far, .int .i64 t.harm, .int .i64 t.many] 29)).heap.size (w.alloc (.cells #[.int .i64 t.q.wells, .slice Aw t.q.nw cw, .slice Af t.q.nf cf, .slice Ao t.no co, .slice Ap t.np cp, .slice As t.ns cs, .int .i64 t.far, .int .i64 t.harm, .int .i64 t.many] 29)) w2 from HU_k2.out) (.cells #[.int .i64 (k : Int)] 3); simpa using this))
      clear hown5 hb5
      go_wp2_with fail
      go_roundw
      case rel =>
        first
        | exact ⟨k + 1, by omega, by go_num, by rw [HS.out]; exact HO9.out, (show Below (w.alloc (.cells #[.int .i64 t.q.wells, .slice Aw t.q.nw cw, .slice Af t.q.nf cf, .slice Ao t.no co, .slice Ap t.np cp, .slice As t.ns cs, .int .i64 t.far, .int .i64 t.harm, .int .i64 t.many] 29)).heap.size (w.alloc (.cells #[.int .i64 t.q.wells, .slice Aw t.q.nw cw, .slice Af t.q.nf cf, .slice Ao t.no co, .slice Ap t.np cp, .slice As t.ns cs, .int .i64 t.far, .int .i64 t.harm, .int .i64 t.many] 29)) _ by simpa using HL9.out)⟩
        | ((repeat apply Exists.intro)
           refine ⟨⟨k + 1, by omega, ?_, by rw [HS.out]; exact HO9.out, (show Below (w.alloc (.cells #[.int .i64 t.q.wells, .slice Aw t.q.nw cw, .slice Af t.q.nf cf, .slice Ao t.no co, .slice Ap t.np cp, .slice As t.ns cs, .int .i64 t.far, .int .i64 t.harm, .int .i64 t.many] 29)).heap.size (w.alloc (.cells #[.int .i64 t.q.wells, .slice Aw t.q.nw cw, .slice Af t.q.nf cf, .slice Ao t.no co, .slice Ap t.np cp, .slice As t.ns cs, .int .i64 t.far, .int .i64 t.harm, .int .i64 t.many] 29)) _ by simpa using HL9.out)⟩, rfl⟩
           go_num)
      case measure => simp [intOf]; omega
    have he_k : k = t.no := by omega
    have hk9 : ¬ (k : Int) < (t.no : Int) := by omega
    have hk8 : ¬ k < t.no := by omega
    have HR := Lib.hid (show selTo (t.whoB i) t.no = selTo (t.whoB i) k by rw [he_k])
    clear he_k
    go_wp2_with fail
    go_ret
    exact ⟨⟨_, rfl, by rw [HR.out]; exact HO1.out.lower (by omega)⟩, HD1.out⟩
set_option maxHeartbeats 4000000 in
set_option maxRecDepth 100000 in
theorem who9_any (Aw Af Ao Ap As : Option Addr) (cw cf co cp cs : Nat) (t : Pt) (n : Int) (w : World) (hs : t.Small) (hT : PAt w Aw Af Ao Ap As t) :
    Calls Tryz.prog 31 #[.agg #[.int .i64 t.q.wells, .slice Aw t.q.nw cw, .slice Af t.q.nf cf, .slice Ao t.no co, .slice Ap t.np cp, .slice As t.ns cs, .int .i64 t.far, .int .i64 t.harm, .int .i64 t.many], .int .i64 n] w fun e w' => NumsOut w' w.heap.size (t.knowErr (t.hasB n)) (t.who n.toNat) e ∧ Below w.heap.size w w' := by
  obtain ⟨bb, hbb⟩ : ∃ b, t.hasB n = b := ⟨_, rfl⟩
  obtain ⟨er, her⟩ : ∃ v, t.knowErr bb = v := ⟨_, rfl⟩
  have HC1 := Lib.hid (fun w => hbb ▸ isSpotN9_any Aw Af Ao Ap As cw cf co cp cs t n w hs.ns : ∀ w : World, Calls Tryz.prog 40 #[.agg #[.int .i64 t.q.wells, .slice Aw t.q.nw cw, .slice Af t.q.nf cf, .slice Ao t.no co, .slice Ap t.np cp, .slice As t.ns cs, .int .i64 t.far, .int .i64 t.harm, .int .i64 t.many], .int .i64 n] w fun e w' => e = .returned (.bool bb) ∧ Below w.heap.size w w')
  rw [hbb, her]
  have HER := Lib.hid her
  have HBB := Lib.hid hbb
  clear hbb her
  have HD0 := Lib.hid (Below.refl w.heap.size w)
  have HSM := Lib.hid hs
  have HT0 := Lib.hid hT
  clear hs hT
  go_enter Tryz.func31, Tryz.ntmps31
  by_cases he : er = 0
  case neg =>
    have g0 : (er != 0) = true := by simp [he]
    have HNZ := Lib.hid he
    clear he
    go_wp2_with fail
    have HCO := Lib.hid (fun (w' : World) (hb : Below (w.alloc (.cells #[.int .i64 t.q.wells, .slice Aw t.q.nw cw, .slice Af t.q.nf cf, .slice Ao t.no co, .slice Ap t.np cp, .slice As t.ns cs, .int .i64 t.far, .int .i64 t.harm, .int .i64 t.many] 29)).heap.size (w.alloc (.cells #[.int .i64 t.q.wells, .slice Aw t.q.nw cw, .slice Af t.q.nf cf, .slice Ao t.no co, .slice Ap t.np cp, .slice As t.ns cs, .int .i64 t.far, .int .i64 t.harm, .int .i64 t.many] 29)) w') => ((known9_any Aw Af Ao Ap As cw cf co cp cs t bb w' HSM.out ((HT0.out.mono (bAlloc (Below.refl _ _) (.cells #[.int .i64 t.q.wells, .slice Aw t.q.nw cw, .slice Af t.q.nf cf, .slice Ao t.no co, .slice Ap t.np cp, .slice As t.ns cs, .int .i64 t.far, .int .i64 t.harm, .int .i64 t.many] 29))).mono hb)).mono fun e w'' h => ⟨HER.out ▸ h.1, h.2⟩ : Calls Tryz.prog 97 #[.agg #[.int .i64 t.q.wells, .slice Aw t.q.nw cw, .slice Af t.q.nf cf, .slice Ao t.no co, .slice Ap t.np cp, .slice As t.ns cs, .int .i64 t.far, .int .i64 t.harm, .int .i64 t.many], .bool bb] w' fun e w'' => Kn9 w'' t er e ∧ Below w'.heap.size w' w''))
    refine wp_region_call 4 (fun v w2 => Kn9 w2 t er (.returned v) ∧ Below (w.alloc (.cells #[.int .i64 t.q.wells, .slice Aw t.q.nw cw, .slice Af t.q.nf cf, .slice Ao t.no co, .slice Ap t.np cp, .slice As t.ns cs, .int .i64 t.far, .int .i64 t.harm, .int .i64 t.many] 29)).heap.size (w.alloc (.cells #[.int .i64 t.q.wells, .slice Aw t.q.nw cw, .slice Af t.q.nf cf, .slice Ao t.no co, .slice Ap t.np cp, .slice As t.ns cs, .int .i64 t.far, .int .i64 t.harm, .int .i64 t.many] 29)) w2) (by kernel_rfl) (by decide +kernel) rfl ?_
    apply Exists.intro
    refine ⟨fun K hK => ?_, ?_, fun w1 hb1 K Q' hK => ?_, ?_⟩
    · skip
      repeat (first | (refine wpCalm_skip rfl ?_) | (refine wpCalm_step rfl (fun K hK => ?_); go_simp; (first | (refine hK _ ?_; clear hK K) | (apply Exists.intro; refine ⟨fun _ => ?_, hK _ ?_⟩; ((go_at_call 40; with_reducible exact newer_of (HC1.out _))); clear hK K))))
      refine wpCalm_nil ?_
      exact hK
    · rfl
    · go_simp
      refine (HCO.out w1 hb1).mono ?_
      rintro e w2 ⟨ho, hb2⟩
      obtain ⟨v, rfl⟩ := Kn9.ret ho
      exact hK v w2 ⟨ho, bTrans hb1 hb2⟩
    clear HCO
    rintro v w2 ⟨ho, hb2⟩
    obtain rfl := Ending.returned.inj (ho.1 HNZ.out)
    clear ho
    apply Exists.intro
    refine ⟨fun K hK => ?_, fun w1 hb3 => ?_⟩
    · skip
      repeat (first | (refine wpCalm_skip rfl ?_) | (refine wpCalm_step rfl (fun K hK => ?_); go_simp; (first | (refine hK _ ?_; clear hK K) | (apply Exists.intro; refine ⟨fun _ => ?_, hK _ ?_⟩; (fail); clear hK K))))
      refine wpCalm_nil ?_
      exact hK
    have hb := bTrans hb2 hb3
    clear hb2 hb3
    have hB1 : Below w.heap.size w w1 := bTrans (bAlloc (Below.refl _ _) (.cells #[.int .i64 t.q.wells, .slice Aw t.q.nw cw, .slice Af t.q.nf cf, .slice Ao t.no co, .slice Ap t.np cp, .slice As t.ns cs, .int .i64 t.far, .int .i64 t.harm, .int .i64 t.many] 29)) hb
    have HD1 := Lib.hid (bTrans HD0.out hB1)
    have HT1 := Lib.hid (HT0.out.mono hB1)
    have T1 := Lib.hid (show TBox w1 w.heap.size 29 #[.int .i64 t.q.wells, .slice Aw t.q.nw cw, .slice Af t.q.nf cf, .slice Ao t.no co, .slice Ap t.np cp, .slice As t.ns cs, .int .i64 t.far, .int .i64 t.harm, .int .i64 t.many] from by have := ((TBox.new w #[.int .i64 t.q.wells, .slice Aw t.q.nw cw, .slice Af t.q.nf cf, .slice Ao t.no co, .slice Ap t.np cp, .slice As t.ns cs, .int .i64 t.far, .int .i64 t.harm, .int .i64 t.many] 29).mono (Below.refl _ _)).mono hb; simpa using this)
    clear hb hB1 HD0 HT0
    obtain ⟨T_0, T_1, T_2, T_3, T_4, T_5, T_6, T_7, T_8, T_l⟩ := T1.out.c9
    go_wp2_with fail
    go_ret2
    exact ⟨⟨fun h => absurd h HNZ.out, fun _ => rfl⟩, HD1.out⟩
  subst he
  obtain ⟨ok, rfl, hne⟩ := Pt.knowErr_zero HER.out
  have HOK := Lib.hid ok
  have hn := hasB_iff.1 HBB.out
  obtain ⟨i, rfl⟩ : ∃ i : Nat, n = (i : Int) := ⟨n.toNat, by omega⟩
  have HI := Lib.hid (show i < t.ns by omega)
  rw [Int.toNat_natCast]
  clear ok hn hne
  go_wp2_with fail
  have HCO := Lib.hid (fun (w' : World) (hb : Below (w.alloc (.cells #[.int .i64 t.q.wells, .slice Aw t.q.nw cw, .slice Af t.q.nf cf, .slice Ao t.no co, .slice Ap t.np cp, .slice As t.ns cs, .int .i64 t.far, .int .i64 t.harm, .int .i64 t.many] 29)).heap.size (w.alloc (.cells #[.int .i64 t.q.wells, .slice Aw t.q.nw cw, .slice Af t.q.nf cf, .slice Ao t.no co, .slice Ap t.np cp, .slice As t.ns cs, .int .i64 t.far, .int .i64 t.harm, .int .i64 t.many] 29)) w') => ((known9_any Aw Af Ao Ap As cw cf co cp cs t true w' HSM.out ((HT0.out.mono (bAlloc (Below.refl _ _) (.cells #[.int .i64 t.q.wells, .slice Aw t.q.nw cw, .slice Af t.q.nf cf, .slice Ao t.no co, .slice Ap t.np cp, .slice As t.ns cs, .int .i64 t.far, .int .i64 t.harm, .int .i64 t.many] 29))).mono hb)).mono fun e w'' h => ⟨HER.out ▸ h.1, h.2⟩ : Calls Tryz.prog 97 #[.agg #[.int .i64 t.q.wells, .slice Aw t.q.nw cw, .slice Af t.q.nf cf, .slice Ao t.no co, .slice Ap t.np cp, .slice As t.ns cs, .int .i64 t.far, .int .i64 t.harm, .int .i64 t.many], .bool true] w' fun e w'' => Kn9 w'' t 0 e ∧ Below w'.heap.size w' w''))
  refine wp_region_call 4 (fun v w2 => Kn9 w2 t 0 (.returned v) ∧ Below (w.alloc (.cells #[.int .i64 t.q.wells, .slice Aw t.q.nw cw, .slice Af t.q.nf cf, .slice Ao t.no co, .slice Ap t.np cp, .slice As t.ns cs, .int .i64 t.far, .int .i64 t.harm, .int .i64 t.many] 29)).heap.size (w.alloc (.cells #[.int .i64 t.q.wells, .slice Aw t.q.nw cw, .slice Af t.q.nf cf, .slice Ao t.no co, .slice Ap t.np cp, .slice As t.ns cs, .int .i64 t.far, .int .i64 t.harm, .int .i64 t.many] 29)) w2) (by kernel_rfl) (by decide +kernel) rfl ?_
  apply Exists.intro
  refine ⟨fun K hK => ?_, ?_, fun w1 hb1 K Q' hK => ?_, ?_⟩
  · skip
    repeat (first | (refine wpCalm_skip rfl ?_) | (refine wpCalm_step rfl (fun K hK => ?_); go_simp; (first | (refine hK _ ?_; clear hK K) | (apply Exists.intro; refine ⟨fun _ => ?_, hK _ ?_⟩; ((go_at_call 40; with_reducible exact newer_of (HC1.out _))); clear hK K))))
    refine wpCalm_nil ?_
    exact hK
  · rfl
  · go_simp
    refine (HCO.out w1 hb1).mono ?_
    rintro e w2 ⟨ho, hb2⟩
    obtain ⟨v, rfl⟩ := Kn9.ret ho
    exact hK v w2 ⟨ho, bTrans hb1 hb2⟩
  clear HCO
  rintro v w2 ⟨ho, hb2⟩
  obtain ⟨A4, c4, e1, hL⟩ := ho.2 rfl
  obtain rfl := Ending.returned.inj e1
  clear ho e1
  apply Exists.intro
  refine ⟨fun K hK => ?_, fun w1 hb3 => ?_⟩
  · skip
    repeat (first | (refine wpCalm_skip rfl ?_) | (refine wpCalm_step rfl (fun K hK => ?_); go_simp; (first | (refine hK _ ?_; clear hK K) | (apply Exists.intro; refine ⟨fun _ => ?_, hK _ ?_⟩; (fail); clear hK K))))
    refine wpCalm_nil ?_
    exact hK
  have hL := hL.mono hb3
  have hb := bTrans hb2 hb3
  clear hb2 hb3
  have hB1 : Below w.heap.size w w1 := bTrans (bAlloc (Below.refl _ _) (.cells #[.int .i64 t.q.wells, .slice Aw t.q.nw cw, .slice Af t.q.nf cf, .slice Ao t.no co, .slice Ap t.np cp, .slice As t.ns cs, .int .i64 t.far, .int .i64 t.harm, .int .i64 t.many] 29)) hb
  have HD1 := Lib.hid (bTrans HD0.out hB1)
  have HT1 := Lib.hid (HT0.out.mono hB1)
  have HL1 := Lib.hid (hL)
  have T1 := Lib.hid (show TBox w1 w.heap.size 29 #[.int .i64 t.q.wells, .slice Aw t.q.nw cw, .slice Af t.q.nf cf, .slice Ao t.no co, .slice Ap t.np cp, .slice As t.ns cs, .int .i64 t.far, .int .i64 t.harm, .int .i64 t.many] from by have := ((TBox.new w #[.int .i64 t.q.wells, .slice Aw t.q.nw cw, .slice Af t.q.nf cf, .slice Ao t.no co, .slice Ap t.np cp, .slice As t.ns cs, .int .i64 t.far, .int .i64 t.harm, .int .i64 t.many] 29).mono (Below.refl _ _)).mono hb; simpa using this)
  clear hb hB1 HD0 HT0
  obtain ⟨T_0, T_1, T_2, T_3, T_4, T_5, T_6, T_7, T_8, T_l⟩ := T1.out.c9
  clear hL
  go_wp2_with fail
  refine (whoOf9_any Aw Af Ao Ap As cw cf co cp cs t A4 c4 i _ HOK.out HT1.out HL1.out HI.out).mono ?_
  rintro e w2 ⟨⟨v, rfl, hv⟩, hb⟩
  have hw := hv.lower (show w.heap.size ≤ _ by have := HD1.out.size; omega)
  obtain ⟨A5, c5, rfl, _⟩ := hv.nums
  have hB2 : Below w1.heap.size w1 w2 := bTrans (Below.refl _ _) hb
  have HD2 := Lib.hid (bTrans HD1.out hB2)
  have HT2 := Lib.hid (HT1.out.mono hB2)
  have HL2 := Lib.hid (HL1.out.mono hB2)
  have HW2 := Lib.hid (hw)
  have T2 := Lib.hid (T1.out.mono hB2)
  clear hb hB2 HD1 HT1 HL1 T1 T_0 T_1 T_2 T_3 T_4 T_5 T_6 T_7 T_8 T_l
  obtain ⟨T_0, T_1, T_2, T_3, T_4, T_5, T_6, T_7, T_8, T_l⟩ := T2.out.c9
  clear hv hw
  go_wp2_with fail
  go_ret2
  exact ⟨⟨fun _ => ⟨_, rfl, HW2.out⟩, fun h => absurd rfl h⟩, HD2.out⟩
end Go.Proofs.YtjpfdhhiofjpbaaGreatDoor

namespace Go.Proofs.YtjpfdhhiofjpbaaGreatDoor
open Go.RowKit Go.Sort
theorem who_len (t : Pt) (i : Nat) : (t.who i).length ≤ t.m := selTo_len _ _
set_option maxHeartbeats 16000000 in
set_option maxRecDepth 100000 in
theorem placesWho_any (Aw Af Ao Ap As : Option Addr) (cw cf co cp cs : Nat) (t : Pt) (n v : Int) (w : World) (hs : t.Fits) (hT : PAt w Aw Af Ao Ap As t) (hB : TabAt w) (hN : NoneAt w) :
    Calls Tryz.prog 4 #[.agg #[.int .i64 t.q.wells, .slice Aw t.q.nw cw, .slice Af t.q.nf cf, .slice Ao t.no co, .slice Ap t.np cp, .slice As t.ns cs, .int .i64 t.far, .int .i64 t.harm, .int .i64 t.many], .int .i64 n, .int .i64 v] w fun e w' => e = .returned (.bool true) ∧ Below w.heap.size w w' := by
  have HD0 := Lib.hid (Below.refl w.heap.size w)
  have HFI := Lib.hid hs
  have HT0 := Lib.hid hT
  have HTB0 := Lib.hid hB
  have HNA0 := Lib.hid hN
  clear hs hT hB hN
  go_enter Tryz.func4, Tryz.ntmps4
  have HSM := Lib.hid HFI.out.small
  go_wp2_with fail
  refine (far9_any Aw Af Ao Ap As cw cf co cp cs t _ HSM.out (HT0.out.mono (bAlloc (Below.refl _ _) (.cells #[.int .i64 t.q.wells, .slice Aw t.q.nw cw, .slice Af t.q.nf cf, .slice Ao t.no co, .slice Ap t.np cp, .slice As t.ns cs, .int .i64 t.far, .int .i64 t.harm, .int .i64 t.many] 29)))).mono ?_
  rintro e w1 ⟨⟨bf, rfl⟩, hb⟩
  have hB1 : Below w.heap.size w w1 := bTrans (bAlloc (Below.refl _ _) (.cells #[.int .i64 t.q.wells, .slice Aw t.q.nw cw, .slice Af t.q.nf cf, .slice Ao t.no co, .slice Ap t.np cp, .slice As t.ns cs, .int .i64 t.far, .int .i64 t.harm, .int .i64 t.many] 29)) hb
  have HD1 := Lib.hid (bTrans HD0.out hB1)
  have HT1 := Lib.hid (HT0.out.mono hB1)
  have HTB1 := Lib.hid (HTB0.out.mono hB1)
  have HNA1 := Lib.hid (HNA0.out.mono hB1)
  have T1 := Lib.hid (show TBox w1 w.heap.size 29 #[.int .i64 t.q.wells, .slice Aw t.q.nw cw, .slice Af t.q.nf cf, .slice Ao t.no co, .slice Ap t.np cp, .slice As t.ns cs, .int .i64 t.far, .int .i64 t.harm, .int .i64 t.many] from by have := ((TBox.new w #[.int .i64 t.q.wells, .slice Aw t.q.nw cw, .slice Af t.q.nf cf, .slice Ao t.no co, .slice Ap t.np cp, .slice As t.ns cs, .int .i64 t.far, .int .i64 t.harm, .int .i64 t.many] 29).mono (Below.refl _ _)).mono hb; simpa using this)
  clear hb hB1 HD0 HT0 HTB0 HNA0
  obtain ⟨T_0, T_1, T_2, T_3, T_4, T_5, T_6, T_7, T_8, T_l⟩ := T1.out.c9
  cases bf
  case true =>
    go_wp2_with fail
    refine (works9_any _ HTB1.out HNA1.out).mono ?_
    rintro e w2 ⟨rfl, hb⟩
    have hB2 : Below w1.heap.size w1 w2 := bTrans (Below.refl _ _) hb
    have HD2 := Lib.hid (bTrans HD1.out hB2)
    have HT2 := Lib.hid (HT1.out.mono hB2)
    have HTB2 := Lib.hid (HTB1.out.mono hB2)
    have HNA2 := Lib.hid (HNA1.out.mono hB2)
    have T2 := Lib.hid (T1.out.mono hB2)
    clear hb hB2 HD1 HT1 HTB1 HNA1 T1 T_0 T_1 T_2 T_3 T_4 T_5 T_6 T_7 T_8 T_l
    obtain ⟨T_0, T_1, T_2, T_3, T_4, T_5, T_6, T_7, T_8, T_l⟩ := T2.out.c9
    go_wp2_with fail
    go_ret
    exact ⟨rfl, HD2.out⟩
  go_wp2_with fail
  refine (copy9_any Aw Af Ao Ap As cw cf co cp cs t _ HFI.out HT1.out).mono ?_
  rintro e w2 ⟨ho, hb⟩
  obtain ⟨_, _, _, _, _, rfl, hc⟩ := ho
  obtain ⟨Bw, dw, Bf, df, Bo, do_, Bp, dp, Bs, ds, rfl, rfl, rfl, rfl, rfl, hU⟩ := hc.pat
  have hB2 : Below w1.heap.size w1 w2 := bTrans (Below.refl _ _) hb
  have HD2 := Lib.hid (bTrans HD1.out hB2)
  have HT2 := Lib.hid (HT1.out.mono hB2)
  have HTB2 := Lib.hid (HTB1.out.mono hB2)
  have HNA2 := Lib.hid (HNA1.out.mono hB2)
  have HU2 := Lib.hid (hU)
  have T2 := Lib.hid (T1.out.mono hB2)
  clear hb hB2 HD1 HT1 HTB1 HNA1 T1 T_0 T_1 T_2 T_3 T_4 T_5 T_6 T_7 T_8 T_l
  obtain ⟨T_0, T_1, T_2, T_3, T_4, T_5, T_6, T_7, T_8, T_l⟩ := T2.out.c9
  clear hc hU
  go_wp2_with fail
  obtain ⟨x1, hx1⟩ : ∃ y, (t.forbidsOut n v).1 = y := ⟨_, rfl⟩
  obtain ⟨x2, hx2⟩ : ∃ y, (t.forbidsOut n v).2 = y := ⟨_, rfl⟩
  have HX := Lib.hid (And.intro hx1 hx2)
  clear hx1 hx2
  obtain ⟨er, her⟩ : ∃ y, t.knowErr (t.hasB n) = y := ⟨_, rfl⟩
  have HER := Lib.hid her
  clear her
  obtain ⟨z, hz⟩ : ∃ y, (t.who n.toNat).length = y := ⟨_, rfl⟩
  have HZ := Lib.hid hz
  clear hz
  refine ((by have := forbidsOutP_any Bw Bf Bo Bp Bs dw df do_ dp ds t n v (w2.alloc (.cells #[.int .i64 t.q.wells, .slice Bw t.q.nw dw, .slice Bf t.q.nf df, .slice Bo t.no do_, .slice Bp t.np dp, .slice Bs t.ns ds, .int .i64 t.far, .int .i64 t.harm, .int .i64 t.many] 29)) HSM.out (HU2.out.mono (bAlloc (Below.refl _ _) (.cells #[.int .i64 t.q.wells, .slice Bw t.q.nw dw, .slice Bf t.q.nf df, .slice Bo t.no do_, .slice Bp t.np dp, .slice Bs t.ns ds, .int .i64 t.far, .int .i64 t.harm, .int .i64 t.many] 29))) (HTB2.out.mono (bAlloc (Below.refl _ _) (.cells #[.int .i64 t.q.wells, .slice Bw t.q.nw dw, .slice Bf t.q.nf df, .slice Bo t.no do_, .slice Bp t.np dp, .slice Bs t.ns ds, .int .i64 t.far, .int .i64 t.harm, .int .i64 t.many] 29))); rw [HX.out.1, HX.out.2] at this; exact this : Calls Tryz.prog 28 #[.agg #[.int .i64 t.q.wells, .slice Bw t.q.nw dw, .slice Bf t.q.nf df, .slice Bo t.no do_, .slice Bp t.np dp, .slice Bs t.ns ds, .int .i64 t.far, .int .i64 t.harm, .int .i64 t.many], .int .i64 n, .int .i64 v] (w2.alloc (.cells #[.int .i64 t.q.wells, .slice Bw t.q.nw dw, .slice Bf t.q.nf df, .slice Bo t.no do_, .slice Bp t.np dp, .slice Bs t.ns ds, .int .i64 t.far, .int .i64 t.harm, .int .i64 t.many] 29)) fun e w' => e = .returned (.tuple #[.int .i64 x1, .int .i64 x2]) ∧ Below (w2.alloc (.cells #[.int .i64 t.q.wells, .slice Bw t.q.nw dw, .slice Bf t.q.nf df, .slice Bo t.no do_, .slice Bp t.np dp, .slice Bs t.ns ds, .int .i64 t.far, .int .i64 t.harm, .int .i64 t.many] 29)).heap.size (w2.alloc (.cells #[.int .i64 t.q.wells, .slice Bw t.q.nw dw, .slice Bf t.q.nf df, .slice Bo t.no do_, .slice Bp t.np dp, .slice Bs t.ns ds, .int .i64 t.far, .int .i64 t.harm, .int .i64 t.many] 29)) w')).mono ?_
  rintro e w3 ⟨rfl, hb⟩
  have hB3 : Below w2.heap.size w2 w3 := bTrans (bAlloc (Below.refl _ _) (.cells #[.int .i64 t.q.wells, .slice Bw t.q.nw dw, .slice Bf t.q.nf df, .slice Bo t.no do_, .slice Bp t.np dp, .slice Bs t.ns ds, .int .i64 t.far, .int .i64 t.harm, .int .i64 t.many] 29)) hb
  have HD3 := Lib.hid (bTrans HD2.out hB3)
  have HT3 := Lib.hid (HT2.out.mono hB3)
  have HTB3 := Lib.hid (HTB2.out.mono hB3)
  have HNA3 := Lib.hid (HNA2.out.mono hB3)
  have HU3 := Lib.hid (HU2.out.mono hB3)
  have T3 := Lib.hid (T2.out.mono hB3)
  have U3 := Lib.hid (show TBox w3 w2.heap.size 29 #[.int .i64 t.q.wells, .slice Bw t.q.nw dw, .slice Bf t.q.nf df, .slice Bo t.no do_, .slice Bp t.np dp, .slice Bs t.ns ds, .int .i64 t.far, .int .i64 t.harm, .int .i64 t.many] from by have := ((TBox.new w2 #[.int .i64 t.q.wells, .slice Bw t.q.nw dw, .slice Bf t.q.nf df, .slice Bo t.no do_, .slice Bp t.np dp, .slice Bs t.ns ds, .int .i64 t.far, .int .i64 t.harm, .int .i64 t.many] 29).mono (Below.refl _ _)).mono hb; simpa using this)
  clear hb hB3 HD2 HT2 HTB2 HNA2 HU2 T2 T_0 T_1 T_2 T_3 T_4 T_5 T_6 T_7 T_8 T_l
  obtain ⟨T_0, T_1, T_2, T_3, T_4, T_5, T_6, T_7, T_8, T_l⟩ := T3.out.c9
  obtain ⟨U_0, U_1, U_2, U_3, U_4, U_5, U_6, U_7, U_8, U_l⟩ := U3.out.c9
  go_wp2_with fail
  refine ((by have := forbidsE9_any Aw Af Ao Ap As cw cf co cp cs t n v w3 HSM.out HT3.out; rw [HX.out.1, HX.out.2] at this; exact this : Calls Tryz.prog 29 #[.agg #[.int .i64 t.q.wells, .slice Aw t.q.nw cw, .slice Af t.q.nf cf, .slice Ao t.no co, .slice Ap t.np cp, .slice As t.ns cs, .int .i64 t.far, .int .i64 t.harm, .int .i64 t.many], .int .i64 n, .int .i64 v] w3 fun e w' => e = .returned (.tuple #[.int .i64 x1, .int .i64 x2]) ∧ Below w3.heap.size w3 w')).mono ?_
  rintro e w4 ⟨rfl, hb⟩
  have hB4 : Below w3.heap.size w3 w4 := bTrans (Below.refl _ _) hb
  have HD4 := Lib.hid (bTrans HD3.out hB4)
  have HT4 := Lib.hid (HT3.out.mono hB4)
  have HTB4 := Lib.hid (HTB3.out.mono hB4)
  have HNA4 := Lib.hid (HNA3.out.mono hB4)
  have HU4 := Lib.hid (HU3.out.mono hB4)
  have T4 := Lib.hid (T3.out.mono hB4)
  have U4 := Lib.hid (U3.out.mono hB4)
  clear hb hB4 HD3 HT3 HTB3 HNA3 HU3 T3 T_0 T_1 T_2 T_3 T_4 T_5 T_6 T_7 T_8 T_l U3 U_0 U_1 U_2 U_3 U_4 U_5 U_6 U_7 U_8 U_l
  obtain ⟨T_0, T_1, T_2, T_3, T_4, T_5, T_6, T_7, T_8, T_l⟩ := T4.out.c9
  obtain ⟨U_0, U_1, U_2, U_3, U_4, U_5, U_6, U_7, U_8, U_l⟩ := U4.out.c9
  go_wp2_with fail
  by_cases he : er = 0
  case neg =>
    have HNZ := Lib.hid he
    clear he
    refine ((by have := whoOutP_any Bw Bf Bo Bp Bs dw df do_ dp ds t n w4 HSM.out HU4.out HTB4.out; rw [HER.out] at this; exact this : Calls Tryz.prog 30 #[.agg #[.int .i64 t.q.wells, .slice Bw t.q.nw dw, .slice Bf t.q.nf df, .slice Bo t.no do_, .slice Bp t.np dp, .slice Bs t.ns ds, .int .i64 t.far, .int .i64 t.harm, .int .i64 t.many], .int .i64 n] w4 fun e w' => NumsOut w' w4.heap.size er (t.who n.toNat) e ∧ Below w4.heap.size w4 w')).mono ?_
    rintro e w5 ⟨ho, hb⟩
    obtain rfl := ho.2 HNZ.out
    have hB5 : Below w4.heap.size w4 w5 := bTrans (Below.refl _ _) hb
    have HD5 := Lib.hid (bTrans HD4.out hB5)
    have HT5 := Lib.hid (HT4.out.mono hB5)
    have HTB5 := Lib.hid (HTB4.out.mono hB5)
    have HNA5 := Lib.hid (HNA4.out.mono hB5)
    have HU5 := Lib.hid (HU4.out.mono hB5)
    have T5 := Lib.hid (T4.out.mono hB5)
    have U5 := Lib.hid (U4.out.mono hB5)
    clear hb hB5 HD4 HT4 HTB4 HNA4 HU4 T4 T_0 T_1 T_2 T_3 T_4 T_5 T_6 T_7 T_8 T_l U4 U_0 U_1 U_2 U_3 U_4 U_5 U_6 U_7 U_8 U_l
    obtain ⟨T_0, T_1, T_2, T_3, T_4, T_5, T_6, T_7, T_8, T_l⟩ := T5.out.c9
    obtain ⟨U_0, U_1, U_2, U_3, U_4, U_5, U_6, U_7, U_8, U_l⟩ := U5.out.c9
    clear ho
    go_wp2_with fail
    refine ((by have := who9_any Aw Af Ao Ap As cw cf co cp cs t n w5 HSM.out HT5.out; rw [HER.out] at this; exact this : Calls Tryz.prog 31 #[.agg #[.int .i64 t.q.wells, .slice Aw t.q.nw cw, .slice Af t.q.nf cf, .slice Ao t.no co, .slice Ap t.np cp, .slice As t.ns cs, .int .i64 t.far, .int .i64 t.harm, .int .i64 t.many], .int .i64 n] w5 fun e w' => NumsOut w' w5.heap.size er (t.who n.toNat) e ∧ Below w5.heap.size w5 w')).mono ?_
    rintro e w6 ⟨ho, hb⟩
    obtain rfl := ho.2 HNZ.out
    have hB6 : Below w5.heap.size w5 w6 := bTrans (Below.refl _ _) hb
    have HD6 := Lib.hid (bTrans HD5.out hB6)
    have HT6 := Lib.hid (HT5.out.mono hB6)
    have HTB6 := Lib.hid (HTB5.out.mono hB6)
    have HNA6 := Lib.hid (HNA5.out.mono hB6)
    have HU6 := Lib.hid (HU5.out.mono hB6)
    have T6 := Lib.hid (T5.out.mono hB6)
    have U6 := Lib.hid (U5.out.mono hB6)
    clear hb hB6 HD5 HT5 HTB5 HNA5 HU5 T5 T_0 T_1 T_2 T_3 T_4 T_5 T_6 T_7 T_8 T_l U5 U_0 U_1 U_2 U_3 U_4 U_5 U_6 U_7 U_8 U_l
    obtain ⟨T_0, T_1, T_2, T_3, T_4, T_5, T_6, T_7, T_8, T_l⟩ := T6.out.c9
    obtain ⟨U_0, U_1, U_2, U_3, U_4, U_5, U_6, U_7, U_8, U_l⟩ := U6.out.c9
    clear ho
    go_wp2_with fail
    refine (sameInts_t none none 0 0 0 (fun _ => 0) _ (by omega) (.inl rfl) (.inl rfl)).mono ?_
    rintro e w7 ⟨rfl, hb⟩
    have hB7 : Below w6.heap.size w6 w7 := bTrans (Below.refl _ _) hb
    have HD7 := Lib.hid (bTrans HD6.out hB7)
    have HT7 := Lib.hid (HT6.out.mono hB7)
    have HTB7 := Lib.hid (HTB6.out.mono hB7)
    have HNA7 := Lib.hid (HNA6.out.mono hB7)
    have HU7 := Lib.hid (HU6.out.mono hB7)
    have T7 := Lib.hid (T6.out.mono hB7)
    have U7 := Lib.hid (U6.out.mono hB7)
    clear hb hB7 HD6 HT6 HTB6 HNA6 HU6 T6 T_0 T_1 T_2 T_3 T_4 T_5 T_6 T_7 T_8 T_l U6 U_0 U_1 U_2 U_3 U_4 U_5 U_6 U_7 U_8 U_l
    obtain ⟨T_0, T_1, T_2, T_3, T_4, T_5, T_6, T_7, T_8, T_l⟩ := T7.out.c9
    obtain ⟨U_0, U_1, U_2, U_3, U_4, U_5, U_6, U_7, U_8, U_l⟩ := U7.out.c9
    go_wp2_with fail
    refine (same9_any Bw Bf Bo Bp Bs dw df do_ dp ds t Aw Af Ao Ap As cw cf co cp cs _ HSM.out HU7.out HT7.out).mono ?_
    rintro e w8 ⟨rfl, hb⟩
    have hB8 : Below w7.heap.size w7 w8 := bTrans (Below.refl _ _) hb
    have HD8 := Lib.hid (bTrans HD7.out hB8)
    have HT8 := Lib.hid (HT7.out.mono hB8)
    have HTB8 := Lib.hid (HTB7.out.mono hB8)
    have HNA8 := Lib.hid (HNA7.out.mono hB8)
    have HU8 := Lib.hid (HU7.out.mono hB8)
    have T8 := Lib.hid (T7.out.mono hB8)
    have U8 := Lib.hid (U7.out.mono hB8)
    clear hb hB8 HD7 HT7 HTB7 HNA7 HU7 T7 T_0 T_1 T_2 T_3 T_4 T_5 T_6 T_7 T_8 T_l U7 U_0 U_1 U_2 U_3 U_4 U_5 U_6 U_7 U_8 U_l
    obtain ⟨T_0, T_1, T_2, T_3, T_4, T_5, T_6, T_7, T_8, T_l⟩ := T8.out.c9
    obtain ⟨U_0, U_1, U_2, U_3, U_4, U_5, U_6, U_7, U_8, U_l⟩ := U8.out.c9
    go_wp2_with fail
    refine (works9_any _ HTB8.out HNA8.out).mono ?_
    rintro e w9 ⟨rfl, hb⟩
    have hB9 : Below w8.heap.size w8 w9 := bTrans (Below.refl _ _) hb
    have HD9 := Lib.hid (bTrans HD8.out hB9)
    have HT9 := Lib.hid (HT8.out.mono hB9)
    have HTB9 := Lib.hid (HTB8.out.mono hB9)
    have HNA9 := Lib.hid (HNA8.out.mono hB9)
    have HU9 := Lib.hid (HU8.out.mono hB9)
    have T9 := Lib.hid (T8.out.mono hB9)
    have U9 := Lib.hid (U8.out.mono hB9)
    clear hb hB9 HD8 HT8 HTB8 HNA8 HU8 T8 T_0 T_1 T_2 T_3 T_4 T_5 T_6 T_7 T_8 T_l U8 U_0 U_1 U_2 U_3 U_4 U_5 U_6 U_7 U_8 U_l
    obtain ⟨T_0, T_1, T_2, T_3, T_4, T_5, T_6, T_7, T_8, T_l⟩ := T9.out.c9
    obtain ⟨U_0, U_1, U_2, U_3, U_4, U_5, U_6, U_7, U_8, U_l⟩ := U9.out.c9
    go_wp2_with fail
    go_ret
    exact ⟨rfl, HD9.out⟩
  subst he
  obtain ⟨ok, _, _⟩ := Pt.knowErr_zero HER.out
  have HZL := Lib.hid (show z ≤ 9223372036854775807 by have := who_len t n.toNat; have h2 := Pt.m_no ok; have h3 := HSM.out.no; rw [HZ.out] at this; omega)
  clear ok
  refine ((by have := whoOutP_any Bw Bf Bo Bp Bs dw df do_ dp ds t n w4 HSM.out HU4.out HTB4.out; rw [HER.out] at this; exact this : Calls Tryz.prog 30 #[.agg #[.int .i64 t.q.wells, .slice Bw t.q.nw dw, .slice Bf t.q.nf df, .slice Bo t.no do_, .slice Bp t.np dp, .slice Bs t.ns ds, .int .i64 t.far, .int .i64 t.harm, .int .i64 t.many], .int .i64 n] w4 fun e w' => NumsOut w' w4.heap.size 0 (t.who n.toNat) e ∧ Below w4.heap.size w4 w')).mono ?_
  rintro e w5 ⟨ho, hb⟩
  obtain ⟨v, rfl, hv⟩ := ho.1 rfl
  obtain ⟨A6, c6, rfl, hi6⟩ := hv.lst
  rw [HZ.out] at hi6 ⊢
  have hB5 : Below w4.heap.size w4 w5 := bTrans (Below.refl _ _) hb
  have HD5 := Lib.hid (bTrans HD4.out hB5)
  have HT5 := Lib.hid (HT4.out.mono hB5)
  have HTB5 := Lib.hid (HTB4.out.mono hB5)
  have HNA5 := Lib.hid (HNA4.out.mono hB5)
  have HU5 := Lib.hid (HU4.out.mono hB5)
  have HW5 := Lib.hid (hi6)
  have T5 := Lib.hid (T4.out.mono hB5)
  have U5 := Lib.hid (U4.out.mono hB5)
  clear hb hB5 HD4 HT4 HTB4 HNA4 HU4 T4 T_0 T_1 T_2 T_3 T_4 T_5 T_6 T_7 T_8 T_l U4 U_0 U_1 U_2 U_3 U_4 U_5 U_6 U_7 U_8 U_l
  obtain ⟨T_0, T_1, T_2, T_3, T_4, T_5, T_6, T_7, T_8, T_l⟩ := T5.out.c9
  obtain ⟨U_0, U_1, U_2, U_3, U_4, U_5, U_6, U_7, U_8, U_l⟩ := U5.out.c9
  clear ho hv hi6
  go_wp2_with fail
  refine ((by have := who9_any Aw Af Ao Ap As cw cf co cp cs t n w5 HSM.out HT5.out; rw [HER.out] at this; exact this : Calls Tryz.prog 31 #[.agg #[.int .i64 t.q.wells, .slice Aw t.q.nw cw, .slice Af t.q.nf cf, .slice Ao t.no co, .slice Ap t.np cp, .slice As t.ns cs, .int .i64 t.far, .int .i64 t.harm, .int .i64 t.many], .int .i64 n] w5 fun e w' => NumsOut w' w5.heap.size 0 (t.who n.toNat) e ∧ Below w5.heap.size w5 w')).mono ?_
  rintro e w6 ⟨ho, hb⟩
  obtain ⟨v, rfl, hv⟩ := ho.1 rfl
  obtain ⟨A7, c7, rfl, hi6⟩ := hv.lst
  rw [HZ.out] at hi6 ⊢
  have hB6 : Below w5.heap.size w5 w6 := bTrans (Below.refl _ _) hb
  have HD6 := Lib.hid (bTrans HD5.out hB6)
  have HT6 := Lib.hid (HT5.out.mono hB6)
  have HTB6 := Lib.hid (HTB5.out.mono hB6)
  have HNA6 := Lib.hid (HNA5.out.mono hB6)
  have HU6 := Lib.hid (HU5.out.mono hB6)
  have HW6 := Lib.hid (HW5.out.mono hB6)
  have HV6 := Lib.hid (hi6)
  have T6 := Lib.hid (T5.out.mono hB6)
  have U6 := Lib.hid (U5.out.mono hB6)
  clear hb hB6 HD5 HT5 HTB5 HNA5 HU5 HW5 T5 T_0 T_1 T_2 T_3 T_4 T_5 T_6 T_7 T_8 T_l U5 U_0 U_1 U_2 U_3 U_4 U_5 U_6 U_7 U_8 U_l
  obtain ⟨T_0, T_1, T_2, T_3, T_4, T_5, T_6, T_7, T_8, T_l⟩ := T6.out.c9
  obtain ⟨U_0, U_1, U_2, U_3, U_4, U_5, U_6, U_7, U_8, U_l⟩ := U6.out.c9
  clear ho hv hi6
  go_wp2_with fail
  refine (sameInts_t A6 A7 z c6 c7 _ _ HZL.out HW6.out HV6.out).mono ?_
  rintro e w7 ⟨rfl, hb⟩
  have hB7 : Below w6.heap.size w6 w7 := bTrans (Below.refl _ _) hb
  have HD7 := Lib.hid (bTrans HD6.out hB7)
  have HT7 := Lib.hid (HT6.out.mono hB7)
  have HTB7 := Lib.hid (HTB6.out.mono hB7)
  have HNA7 := Lib.hid (HNA6.out.mono hB7)
  have HU7 := Lib.hid (HU6.out.mono hB7)
  have HW7 := Lib.hid (HW6.out.mono hB7)
  have HV7 := Lib.hid (HV6.out.mono hB7)
  have T7 := Lib.hid (T6.out.mono hB7)
  have U7 := Lib.hid (U6.out.mono hB7)
  clear hb hB7 HD6 HT6 HTB6 HNA6 HU6 HW6 HV6 T6 T_0 T_1 T_2 T_3 T_4 T_5 T_6 T_7 T_8 T_l U6 U_0 U_1 U_2 U_3 U_4 U_5 U_6 U_7 U_8 U_l
  obtain ⟨T_0, T_1, T_2, T_3, T_4, T_5, T_6, T_7, T_8, T_l⟩ := T7.out.c9
  obtain ⟨U_0, U_1, U_2, U_3, U_4, U_5, U_6, U_7, U_8, U_l⟩ := U7.out.c9
  go_wp2_with fail
  refine (same9_any Bw Bf Bo Bp Bs dw df do_ dp ds t Aw Af Ao Ap As cw cf co cp cs _ HSM.out HU7.out HT7.out).mono ?_
  rintro e w8 ⟨rfl, hb⟩
  have hB8 : Below w7.heap.size w7 w8 := bTrans (Below.refl _ _) hb
  have HD8 := Lib.hid (bTrans HD7.out hB8)
  have HT8 := Lib.hid (HT7.out.mono hB8)
  have HTB8 := Lib.hid (HTB7.out.mono hB8)
  have HNA8 := Lib.hid (HNA7.out.mono hB8)
  have HU8 := Lib.hid (HU7.out.mono hB8)
  have HW8 := Lib.hid (HW7.out.mono hB8)
  have HV8 := Lib.hid (HV7.out.mono hB8)
  have T8 := Lib.hid (T7.out.mono hB8)
  have U8 := Lib.hid (U7.out.mono hB8)
  clear hb hB8 HD7 HT7 HTB7 HNA7 HU7 HW7 HV7 T7 T_0 T_1 T_2 T_3 T_4 T_5 T_6 T_7 T_8 T_l U7 U_0 U_1 U_2 U_3 U_4 U_5 U_6 U_7 U_8 U_l
  obtain ⟨T_0, T_1, T_2, T_3, T_4, T_5, T_6, T_7, T_8, T_l⟩ := T8.out.c9
  obtain ⟨U_0, U_1, U_2, U_3, U_4, U_5, U_6, U_7, U_8, U_l⟩ := U8.out.c9
  go_wp2_with fail
  refine (works9_any _ HTB8.out HNA8.out).mono ?_
  rintro e w9 ⟨rfl, hb⟩
  have hB9 : Below w8.heap.size w8 w9 := bTrans (Below.refl _ _) hb
  have HD9 := Lib.hid (bTrans HD8.out hB9)
  have HT9 := Lib.hid (HT8.out.mono hB9)
  have HTB9 := Lib.hid (HTB8.out.mono hB9)
  have HNA9 := Lib.hid (HNA8.out.mono hB9)
  have HU9 := Lib.hid (HU8.out.mono hB9)
  have HW9 := Lib.hid (HW8.out.mono hB9)
  have HV9 := Lib.hid (HV8.out.mono hB9)
  have T9 := Lib.hid (T8.out.mono hB9)
  have U9 := Lib.hid (U8.out.mono hB9)
  clear hb hB9 HD8 HT8 HTB8 HNA8 HU8 HW8 HV8 T8 T_0 T_1 T_2 T_3 T_4 T_5 T_6 T_7 T_8 T_l U8 U_0 U_1 U_2 U_3 U_4 U_5 U_6 U_7 U_8 U_l
  obtain ⟨T_0, T_1, T_2, T_3, T_4, T_5, T_6, T_7, T_8, T_l⟩ := T9.out.c9
  obtain ⟨U_0, U_1, U_2, U_3, U_4, U_5, U_6, U_7, U_8, U_l⟩ := U9.out.c9
  go_wp2_with fail
  go_ret
  exact ⟨rfl, HD9.out⟩
end Go.Proofs.YtjpfdhhiofjpbaaGreatDoor

