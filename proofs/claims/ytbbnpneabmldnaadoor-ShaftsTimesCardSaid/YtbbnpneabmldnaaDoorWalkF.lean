/- Walks: falls, firstFall, In, FallsOf. -/
import Derived.Test.YtbbnpneabmldnaaDoorWalkE
import Derived.Test.YtbbnpneabmldnaaDoorShaftMath
namespace Go.Proofs.YtbbnpneabmldnaaDoor
open Go.RowKit Go.Sort

set_option maxHeartbeats 1000000 in
theorem falls_any (Ar Af : Option Addr) (cr cf : Nat) (S : Sh) (w : World) (ok : S.Ok) (hS : ShAt w Ar Af S) (a : Nat) (ha : a ≤ S.nf) :
    Calls Tryd.prog 92 #[.agg #[.slice Ar S.nr cr, .slice Af S.nf cf, .int .i64 S.deep, .int .i64 S.haul, .int .i64 S.rest], .int .i64 a] w fun e w' => e = .returned (.int .i64 (S.falls a)) ∧ Below w.heap.size w w' := by
  have hb0 := bAlloc (Below.refl w.heap.size w) (.cells #[.slice Ar S.nr cr, .slice Af S.nf cf, .int .i64 S.deep, .int .i64 S.haul, .int .i64 S.rest] 75)
  have HS := Lib.hid (hS.mono hb0)
  have HB := Lib.hid hb0
  clear hS hb0
  have hnf := ok.nf
  go_enter Tryd.func92, Tryd.ntmps92
  go_wp2_with fail
  go_loopw [5, 6] (fun s i wr => ∃ m : Nat, a + m ≤ S.nf ∧ i = .int .i64 (a + m : Nat) ∧ s = .int .i64 (S.minSt a m) ∧ (∀ j, a ≤ j → j < a + m → S.fallsAt a j = false) ∧ Below (w.alloc (.cells #[.slice Ar S.nr cr, .slice Af S.nf cf, .int .i64 S.deep, .int .i64 S.haul, .int .i64 S.rest] 75)).heap.size (w.alloc (.cells #[.slice Ar S.nr cr, .slice Af S.nf cf, .int .i64 S.deep, .int .i64 S.haul, .int .i64 S.rest] 75)) wr) (fun _ i _ => S.nf - (intOf i).toNat)
  case atStart => exact ⟨0, ha, rfl, rfl, fun j h1 h2 => by omega, Below.refl _ _⟩
  case round =>
    obtain ⟨m, hm, rfl, rfl, hno, hbel⟩ := hrel
    have HN := Lib.hid hno
    clear hno
    obtain ⟨bc, bf⟩ := bcell hbel
    have hz := hbel.size
    simp only [World.size_alloc] at hz
    have hy : w.heap.size < wr.heap.size := hz
    by_cases hlt : a + m < S.nf
    · have hif : (if (S.rk (a + m)).stand < S.minSt a m then (S.rk (a + m)).stand else S.minSt a m) = S.minSt a (m + 1) := by
        simp only [Sh.minSt]; split <;> omega
      obtain ⟨b0, b1⟩ := Sh.minSt_bd ok a m hm
      have r0 := (ok.rk hlt).s0
      have r1 := (ok.rk hlt).s1
      have e1 : a + m + 1 - a = m + 1 := by omega
      by_cases hfall : S.minSt a (m + 1) < (a : Int) + m - a + 1
      · have HF := Lib.hid (show S.fallsAt a (a + m) = true by unfold Sh.fallsAt; rw [e1]; simp only [decide_eq_true_eq]; omega)
        clear e1
        go_wp2_with (go_at_call 88; refine (rock_any _ _ _ _ S _ ok (HS.out.mono hbel) _ (a + m) (by omega) hlt).mono ?_; rintro e w1 ⟨rfl, hb1⟩)
        go_ret
        exact ⟨ret_int (by rw [show S.falls a = a + m from firstFrom_eq _ _ _ _ (by omega) (by omega) HN.out fun _ => HF.out]; omega), bTrans (bTrans HB.out hbel) hb1⟩
      · have HF := Lib.hid (show S.fallsAt a (a + m) = false by unfold Sh.fallsAt; rw [e1]; simp only [decide_eq_false_iff_not]; omega)
        clear e1
        go_wp2_with (go_at_call 88; refine (rock_any _ _ _ _ S _ ok (HS.out.mono hbel) _ (a + m) (by omega) hlt).mono ?_; rintro e w1 ⟨rfl, hb1⟩)
        go_roundw
        case rel => exact ⟨m + 1, by omega, by go_num, rfl, fun j h1 h2 => by (rcases Nat.lt_or_ge j (a + m) with h | h); exact HN.out j h1 h; (obtain rfl : j = a + m := by omega); exact HF.out, bTrans hbel hb1⟩
        case measure => simp [intOf]; omega
    · go_wp2_with fail
      go_ret
      exact ⟨ret_int (by rw [show S.falls a = a + m from firstFrom_eq _ _ _ _ (by omega) (by omega) HN.out fun _ => by omega]; omega), bTrans HB.out hbel⟩

set_option maxHeartbeats 1000000 in
theorem in_any (A : Option Addr) (n c : Nat) (g : Nat → Int) (x : Int) (w : World) (hn : n ≤ 9223372036854775807) (hg : IntsAt w A n g) :
    Calls Tryd.prog 38 #[.slice A n c, .int .i64 x] w fun e w' => e = .returned (.bool (anyB (fun i => g i == x) n)) ∧ Below w.heap.size w w' := by
  have HC := Lib.hid hg
  clear hg
  go_enter Tryd.func38, Tryd.ntmps38
  go_wp2_with fail
  go_loop [5] (fun i => ∃ k : Nat, k ≤ n ∧ i = .int .i64 k ∧ anyB (fun i => g i == x) k = false) (fun i => n - (intOf i).toNat)
  case atStart => exact ⟨0, Nat.zero_le _, rfl, rfl⟩
  case round =>
    obtain ⟨k, hk, rfl, hno⟩ := hrel
    have HN := Lib.hid hno
    clear hno
    by_cases hlt : k < n
    · rcases HC.out with h0 | ⟨b, o, hA, hb, hcell⟩
      · omega
      have c0 := hcell k hlt
      clear hcell
      subst hA
      cases he : (g k == x)
      · go_wp2_with fail
        go_round
        case rel => exact ⟨k + 1, by omega, by go_num, anyB_step HN.out he⟩
        case measure => simp [intOf]; omega
      · go_wp2_with fail
        go_ret
        exact ⟨ret_bool (anyB_hit hlt he).symm, Below.refl _ _⟩
    · obtain rfl : k = n := by omega
      go_wp2_with fail
      go_ret
      exact ⟨ret_bool HN.out.symm, Below.refl _ _⟩
end Go.Proofs.YtbbnpneabmldnaaDoor
