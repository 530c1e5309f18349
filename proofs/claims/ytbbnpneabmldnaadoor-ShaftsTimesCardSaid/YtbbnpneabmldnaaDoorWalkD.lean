/- Walks: Rising, areStops, In, SameInts; the rock, the price and the ring of a foot, in the program and in the reference. -/
import Derived.Test.YtbbnpneabmldnaaDoorWalkC
import Derived.Test.YtbbnpneabmldnaaDoorShaftMath
namespace Go.Proofs.YtbbnpneabmldnaaDoor
open Go.RowKit Go.Sort

theorem stBad_cases (lo hi : Int) (g : Nat → Int) (k : Nat) : (inR (g k) lo hi = false ∧ stBad lo hi g k = true) ∨ (inR (g k) lo hi = true ∧ decide ((0 : Int) < (k : Int)) = false ∧ decide (0 < k) = false ∧ stBad lo hi g k = false) ∨
    (inR (g k) lo hi = true ∧ (0 : Int) < (k : Int) ∧ 0 < k ∧ g k ≤ g (k - 1) ∧ stBad lo hi g k = true) ∨ (inR (g k) lo hi = true ∧ (0 : Int) < (k : Int) ∧ 0 < k ∧ ¬ g k ≤ g (k - 1) ∧ stBad lo hi g k = false) := by
  unfold stBad
  cases inR (g k) lo hi
  · simp
  · by_cases h : 0 < k
    · have h' : (0 : Int) < (k : Int) := by omega
      by_cases h2 : g k ≤ g (k - 1) <;> simp [h, h2]
    · have h' : decide ((0 : Int) < (k : Int)) = false := by simp; omega
      simp [h]
theorem rising_no {lo hi : Int} {n k : Nat} {g : Nat → Int} (h : k < n) (hb : stBad lo hi g k = true) : risingB lo hi n g = false := by simp [risingB, anyB_hit h hb]
theorem rising_yes {lo hi : Int} {n : Nat} {g : Nat → Int} (h : anyB (stBad lo hi g) n = false) : risingB lo hi n g = true := by simp [risingB, h]

set_option maxHeartbeats 1000000 in
theorem rising_any (A : Option Addr) (n c : Nat) (g : Nat → Int) (lo hi : Int) (w : World) (hn : n ≤ 9223372036854775807) (hg : IntsAt w A n g) :
    Calls Tryd.prog 81 #[.slice A n c, .int .i64 lo, .int .i64 hi] w fun e w' => e = .returned (.bool (risingB lo hi n g)) ∧ Below w.heap.size w w' := by
  have HC := Lib.hid hg
  clear hg
  go_enter Tryd.func81, Tryd.ntmps81
  go_wp2_with fail
  go_loopw [7] (fun i wr => ∃ k : Nat, k ≤ n ∧ i = .int .i64 k ∧ anyB (stBad lo hi g) k = false ∧ Below w.heap.size w wr) (fun i _ => n - (intOf i).toNat)
  case atStart => exact ⟨0, Nat.zero_le _, rfl, rfl, Below.refl _ _⟩
  case round =>
    obtain ⟨k, hk, rfl, hno, hbel⟩ := hrel
    have HN := Lib.hid hno
    clear hno
    by_cases hlt : k < n
    · rcases HC.out.mono hbel with h0 | ⟨b, o, hA, hb, hcell⟩
      · omega
      have c0 := hcell k hlt
      have c1 := hcell (k - 1) (by omega)
      clear hcell
      subst hA
      rcases stBad_cases lo hi g k with ⟨g1, he⟩ | ⟨g1, g2, g3, he⟩ | ⟨g1, g2, g3, g4, he⟩ | ⟨g1, g2, g3, g4, he⟩
      all_goals
        have HE := Lib.hid he
        clear he
        go_wp2_with fail
        refine wp_region_quiet_below (by kernel_rfl) (by kernel_rfl) ?_
        repeat (go_big_quiet_step ((go_at_call 32; exact Calls.regrown_of ((Within01_any _ _ _ _).mono fun _ _ h => ⟨h.1, h.2 ▸ Below.refl _ _⟩))))
        refine wpQuiet_nil ?_
        intro w3 hw3
        have hb3 := below_of_regrown hw3
        clear hw3
        go_wp2_with fail
      · go_ret
        exact ⟨ret_bool (rising_no hlt HE.out).symm, bTrans hbel hb3⟩
      · go_roundw
        case rel => exact ⟨k + 1, by omega, by go_num, anyB_step HN.out HE.out, bTrans hbel hb3⟩
        case measure => simp [intOf]; omega
      · go_ret
        exact ⟨ret_bool (rising_no hlt HE.out).symm, bTrans hbel hb3⟩
      · go_roundw
        case rel => exact ⟨k + 1, by omega, by go_num, anyB_step HN.out HE.out, bTrans hbel hb3⟩
        case measure => simp [intOf]; omega
    · obtain rfl : k = n := by omega
      go_wp2_with fail
      go_ret
      exact ⟨ret_bool (rising_yes HN.out).symm, hbel⟩
theorem areStops_ref (Ar Af : Option Addr) (cr cf : Nat) (S : Sh) (A : Option Addr) (n c : Nat) (g : Nat → Int) (w : World) (hn : n ≤ 9223372036854775807) (hg : IntsAt w A n g) :
    Calls Tryd.prog 52 #[.agg #[.slice Ar S.nr cr, .slice Af S.nf cf, .int .i64 S.deep, .int .i64 S.haul, .int .i64 S.rest], .slice A n c] w fun e w' => e = .returned (.bool (risingB 1 S.nf n g)) ∧ Below w.heap.size w w' := by
  have hb0 := bAlloc (Below.refl w.heap.size w) (.cells #[.slice Ar S.nr cr, .slice Af S.nf cf, .int .i64 S.deep, .int .i64 S.haul, .int .i64 S.rest] 25)
  have HS := Lib.hid (hg.mono hb0)
  have HB := Lib.hid hb0
  clear hg hb0
  go_enter Tryd.func52, Tryd.ntmps52
  go_wp2_with (go_at_call 81; refine (rising_any _ _ _ g _ _ _ hn HS.out).mono ?_; rintro e w1 ⟨rfl, hb1⟩)
  go_ret
  exact ⟨rfl, bTrans HB.out hb1⟩
set_option maxHeartbeats 1000000 in
theorem areStops_any (Ar Af : Option Addr) (cr cf : Nat) (S : Sh) (A : Option Addr) (n c : Nat) (g : Nat → Int) (w : World) (hn : n ≤ 9223372036854775807) (hg : IntsAt w A n g) :
    Calls Tryd.prog 82 #[.agg #[.slice Ar S.nr cr, .slice Af S.nf cf, .int .i64 S.deep, .int .i64 S.haul, .int .i64 S.rest], .slice A n c] w fun e w' => e = .returned (.bool (risingB 1 S.nf n g)) ∧ Below w.heap.size w w' := by
  have hb0 := bAlloc (Below.refl w.heap.size w) (.cells #[.slice Ar S.nr cr, .slice Af S.nf cf, .int .i64 S.deep, .int .i64 S.haul, .int .i64 S.rest] 25)
  have HC := Lib.hid (hg.mono hb0)
  have HB := Lib.hid hb0
  clear hg hb0
  go_enter Tryd.func82, Tryd.ntmps82
  go_wp2_with fail
  go_loop [9] (fun i => ∃ k : Nat, k ≤ n ∧ i = .int .i64 k ∧ anyB (stBad 1 S.nf g) k = false) (fun i => n - (intOf i).toNat)
  case atStart => exact ⟨0, Nat.zero_le _, rfl, rfl⟩
  case round =>
    obtain ⟨k, hk, rfl, hno⟩ := hrel
    have HN := Lib.hid hno
    clear hno
    by_cases hlt : k < n
    · rcases HC.out with h0 | ⟨b, o, hA, hb, hcell⟩
      · omega
      have c0 := hcell k hlt
      have c1 := hcell (k - 1) (by omega)
      clear hcell
      subst hA
      rcases stBad_cases 1 S.nf g k with ⟨g1, he⟩ | ⟨g1, g2, g3, he⟩ | ⟨g1, g2, g3, g4, he⟩ | ⟨g1, g2, g3, g4, he⟩
      all_goals
        have HE := Lib.hid he
        clear he
        go_wp2_with (go_at_call 62; refine (within_any _ _ _ _).mono ?_; rintro e w' ⟨rfl, rfl⟩)
      · go_ret
        exact ⟨ret_bool (rising_no hlt HE.out).symm, HB.out⟩
      · go_round
        case rel => exact ⟨k + 1, by omega, by go_num, anyB_step HN.out HE.out⟩
        case measure => simp [intOf]; omega
      · go_ret
        exact ⟨ret_bool (rising_no hlt HE.out).symm, HB.out⟩
      · go_round
        case rel => exact ⟨k + 1, by omega, by go_num, anyB_step HN.out HE.out⟩
        case measure => simp [intOf]; omega
    · obtain rfl : k = n := by omega
      go_wp2_with fail
      go_ret
      exact ⟨ret_bool (rising_yes HN.out).symm, HB.out⟩
end Go.Proofs.YtbbnpneabmldnaaDoor
