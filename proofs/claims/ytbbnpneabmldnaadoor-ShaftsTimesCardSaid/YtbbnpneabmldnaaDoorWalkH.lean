/- Walk: firstFall (the program). -/
import Derived.Test.YtbbnpneabmldnaaDoorWalkG
namespace Go.Proofs.YtbbnpneabmldnaaDoor
open Go.RowKit Go.Sort
set_option maxHeartbeats 2000000 in
theorem firstFall_any (Ar Af : Option Addr) (cr cf : Nat) (S : Sh) (w : World) (ok : S.Ok) (hS : ShAt w Ar Af S) (A : Option Addr) (n c : Nat) (g : Nat → Int) (hn : n ≤ 9223372036854775807) (hg : IntsAt w A n g) (hR : Rising 1 S.nf n g) :
    Calls Tryd.prog 83 #[.agg #[.slice Ar S.nr cr, .slice Af S.nf cf, .int .i64 S.deep, .int .i64 S.haul, .int .i64 S.rest], .slice A n c] w fun e w' => e = .returned (.int .i64 (S.firstFall (memOf n g))) ∧ Below w.heap.size w w' := by
  have hb0 := bAlloc (Below.refl w.heap.size w) (.cells #[.slice Ar S.nr cr, .slice Af S.nf cf, .int .i64 S.deep, .int .i64 S.haul, .int .i64 S.rest] 75)
  have HS := Lib.hid (hS.mono hb0)
  have HG := Lib.hid (hg.mono hb0)
  have HB := Lib.hid hb0
  clear hS hg hb0
  have hnf := ok.nf
  go_enter Tryd.func83, Tryd.ntmps83
  go_wp2_with fail
  go_loopw [5, 11] (fun l i wr => ∃ k : Nat, k ≤ n ∧ i = .int .i64 k ∧ l = .int .i64 (stopAt g k) ∧ (∀ j, j < stopAt g k → S.fallAt (memOf n g) j = false) ∧ Below (w.alloc (.cells #[.slice Ar S.nr cr, .slice Af S.nf cf, .int .i64 S.deep, .int .i64 S.haul, .int .i64 S.rest] 75)).heap.size (w.alloc (.cells #[.slice Ar S.nr cr, .slice Af S.nf cf, .int .i64 S.deep, .int .i64 S.haul, .int .i64 S.rest] 75)) wr) (fun _ i _ => n - (intOf i).toNat)
  case atStart => exact ⟨0, Nat.zero_le _, rfl, rfl, fun j h1 => by simp [stopAt] at h1, Below.refl _ _⟩
  case round =>
    obtain ⟨k, hk, rfl, rfl, hno, hbel⟩ := hrel
    have HN := Lib.hid hno
    clear hno
    obtain ⟨bc, bf⟩ := bcell hbel
    have hz := hbel.size
    simp only [World.size_alloc] at hz
    have hy : w.heap.size < wr.heap.size := hz
    have hs := stopAt_le rfl hR hk
    obtain ⟨l, hl⟩ : ∃ l, l = stopAt g k := ⟨_, rfl⟩
    rw [← hl] at hs ⊢
    obtain ⟨f1, f2⟩ := S.falls_bd hs
    have HL := Lib.hid hl
    clear hl
    by_cases hlt : k < n
    · rcases HG.out.mono hbel with h0 | ⟨b, o, hA, hb, hcell⟩
      · omega
      have c0 := hcell k hlt
      clear hcell
      subst hA
      have g0 := hR.lo k hlt
      have g1 := hR.hi k hlt
      have HRR := Lib.hid hR
      clear hR
      have hnext : ∀ x : Int, x < g k → ∀ i, i < n → k ≤ i → x < g i := fun x hx i hi h4 => by
        rcases Nat.lt_or_ge k i with h5 | h5
        · have := HRR.out.lt k i h5 hi; omega
        · obtain rfl : i = k := by omega
          exact hx
      have HX := Lib.hid hnext
      clear hnext
      by_cases hf : (S.falls l : Int) < g k
      · go_wp2_with (go_at_call 92; refine (falls_any _ _ _ _ S _ ok (HS.out.mono hbel) l hs).mono ?_; rintro e w1 ⟨rfl, hb1⟩)
        go_ret
        refine ⟨ret_int ?_, bTrans (bTrans HB.out hbel) hb1⟩
        rw [HL.out] at hf ⊢
        rw [Sh.fall_found HRR.out hk HN.out (HX.out _ hf)]
      · go_wp2_with (go_at_call 92; refine (falls_any _ _ _ _ S _ ok (HS.out.mono hbel) l hs).mono ?_; rintro e w1 ⟨rfl, hb1⟩)
        go_roundw
        case rel =>
          refine ⟨k + 1, by omega, by go_num, by simp only [stopAt]; rw [Int.toNat_of_nonneg (by omega)], ?_, bTrans hbel hb1⟩
          intro j hj
          simp only [stopAt] at hj
          rw [HL.out] at hf
          exact Sh.fall_seg HRR.out hk HN.out (b := (g k).toNat) (fun i hi h4 => by have := HX.out (g k - 1) (by omega) i hi h4; omega) j (by omega) hj
        case measure => simp [intOf]; omega
    · obtain rfl : k = n := by omega
      have HRR := Lib.hid hR
      clear hR
      go_wp2_with (go_at_call 92; refine (falls_any _ _ _ _ S _ ok (HS.out.mono hbel) l hs).mono ?_; rintro e w1 ⟨rfl, hb1⟩)
      go_ret
      refine ⟨ret_int ?_, bTrans (bTrans HB.out hbel) hb1⟩
      rw [HL.out, Sh.fall_found HRR.out hk HN.out (fun i hi h4 => by omega)]
end Go.Proofs.YtbbnpneabmldnaaDoor
