/- Walks: CostOf, HoursOf, SameInts (references). -/
import Derived.Test.YtbbnpneabmldnaaDoorWalkK
namespace Go.Proofs.YtbbnpneabmldnaaDoor
open Go.RowKit Go.Sort
theorem ringc_bd {S : Sh} (ok : S.Ok) {d : Nat} (h1 : 1 ≤ d) (hd : d ≤ S.nf) : -1 ≤ S.ringc d ∧ S.ringc d ≤ 207 := by
  have hr := ok.rk (i := d - 1) (by omega)
  have h1 := hr.t0
  have h2 := hr.t1
  have hnf := ok.nf
  obtain ⟨m0, m1⟩ := mul_bd (a := d) (b := S.haul) (by omega) (by omega) ok.l0 ok.l1
  unfold Sh.ringc; omega
theorem stop_nat {S : Sh} {m : Nat} {g : Nat → Int} (h : Rising 1 S.nf m g) {k : Nat} (hk : k < m) : g k = ((g k).toNat : Int) ∧ 1 ≤ (g k).toNat ∧ (g k).toNat ≤ S.nf := by
  have := h.lo k hk; have := h.hi k hk; omega
theorem rings_bd {S : Sh} (ok : S.Ok) {m : Nat} {g : Nat → Int} (h : Rising 1 S.nf m g) {k : Nat} (hk : k ≤ m) : -12 ≤ sumTo (fun i => S.ringc (g i).toNat) k ∧ sumTo (fun i => S.ringc (g i).toNat) k ≤ 2484 := by
  have h1 := sumTo_bd (f := fun i => S.ringc (g i).toNat) (n := k) (lo := -1) (hi := 207) fun i hi => ringc_bd ok (stop_nat h (by omega)).2.1 (stop_nat h (by omega)).2.2
  have := h.count
  have hnf := ok.nf
  omega
set_option maxHeartbeats 2000000 in
theorem costOf_any (Ar Af : Option Addr) (cr cf : Nat) (S : Sh) (w : World) (ok : S.Ok) (hS : ShAt w Ar Af S) (A : Option Addr) (m c : Nat) (g : Nat → Int) (hg : IntsAt w A m g) (hR : Rising 1 S.nf m g) :
    Calls Tryd.prog 30 #[.agg #[.slice Ar S.nr cr, .slice Af S.nf cf, .int .i64 S.deep, .int .i64 S.haul, .int .i64 S.rest], .slice A m c] w fun e w' => e = .returned (.int .i64 (S.costOf m g)) ∧ Below w.heap.size w w' := by
  have hb0 := bAlloc (Below.refl w.heap.size w) (.cells #[.slice Ar S.nr cr, .slice Af S.nf cf, .int .i64 S.deep, .int .i64 S.haul, .int .i64 S.rest] 25)
  have HS := Lib.hid (hS.mono hb0)
  have HG := Lib.hid (hg.mono hb0)
  have HB := Lib.hid hb0
  have HR := Lib.hid hR
  have hm := hR.count
  clear hS hg hb0 hR
  have hnf := ok.nf
  go_enter Tryd.func30, Tryd.ntmps30
  go_wp2_with fail
  go_loopw [5, 6] (fun s i wr => ∃ k : Nat, k ≤ S.nf ∧ i = .int .i64 k ∧ s = .int .i64 (sumTo S.price k) ∧ Below (w.alloc (.cells #[.slice Ar S.nr cr, .slice Af S.nf cf, .int .i64 S.deep, .int .i64 S.haul, .int .i64 S.rest] 25)).heap.size (w.alloc (.cells #[.slice Ar S.nr cr, .slice Af S.nf cf, .int .i64 S.deep, .int .i64 S.haul, .int .i64 S.rest] 25)) wr) (fun _ i _ => S.nf - (intOf i).toNat)
  case atStart => exact ⟨0, Nat.zero_le _, rfl, rfl, Below.refl _ _⟩
  case round =>
    obtain ⟨k, hk, rfl, rfl, hbel⟩ := hrel
    obtain ⟨bc, bf⟩ := bcell hbel
    have hz := hbel.size
    simp only [World.size_alloc] at hz
    have hy : w.heap.size < wr.heap.size := hz
    obtain ⟨d0, d1, _, _⟩ := digs_bd ok hk
    by_cases hlt : k < S.nf
    · obtain ⟨p0, p1⟩ := price_bd ok hlt
      go_wp2_with (go_at_call 71; refine (priceOf_any _ _ _ _ S _ ok (HS.out.mono hbel) k hlt).mono ?_; rintro e w1 ⟨rfl, hb1⟩)
      go_roundw
      case rel => exact ⟨k + 1, by omega, by go_num, rfl, bTrans hbel hb1⟩
      case measure => simp [intOf]; omega
    · obtain rfl : k = S.nf := by omega
      go_wp2_with fail
      obtain ⟨w1, rfl⟩ : ∃ w1 : World, w1 = wr := ⟨_, rfl⟩
      have HB1 := Lib.hid (bTrans HB.out hbel)
      have HS1 := Lib.hid (HS.out.mono hbel)
      have HG1 := Lib.hid (HG.out.mono hbel)
      clear hbel
      go_loopw [5, 7] (fun s i wr => ∃ k : Nat, k ≤ m ∧ i = .int .i64 k ∧ s = .int .i64 (sumTo S.price S.nf + sumTo (fun i => S.ringc (g i).toNat) k) ∧ Below w1.heap.size w1 wr) (fun _ i _ => m - (intOf i).toNat)
      case atStart => exact ⟨0, Nat.zero_le _, rfl, by simp [sumTo], Below.refl _ _⟩
      case round =>
        obtain ⟨k, hk, rfl, rfl, hbel⟩ := hrel
        obtain ⟨bc2, bf2⟩ := bcell hbel
        have hz2 := hbel.size
        have hy2 : w.heap.size < wr.heap.size := by omega
        obtain ⟨e0, e1⟩ := rings_bd ok HR.out hk
        by_cases hlt : k < m
        · rcases HG1.out.mono hbel with h0 | ⟨b, o, hA, hb, hcell⟩
          · omega
          have c0 := hcell k hlt
          clear hcell
          subst hA
          obtain ⟨hs0, hs1, hs2⟩ := stop_nat HR.out hlt
          obtain ⟨r0, r1⟩ := ringc_bd ok hs1 hs2
          have HS0 := Lib.hid hs0
          clear hs0
          go_wp2_with fail
          refine wp_region_quiet_below (by kernel_rfl) (by kernel_rfl) ?_
          repeat (go_big_quiet_step ((go_at_call 56; exact Calls.regrown_of (ringOf_any _ _ _ _ S _ ok ((HS1.out.mono hbel).mono (below_regrown _ _ _)) _ _ HS0.out hs1 hs2))))
          refine wpQuiet_nil ?_
          intro w3 hw3
          have hb3 := below_of_regrown hw3
          clear hw3
          go_wp2_with fail
          go_roundw
          case rel => exact ⟨k + 1, by omega, by go_num, by simp only [sumTo]; go_num, bTrans hbel hb3⟩
          case measure => simp [intOf]; omega
        · obtain rfl : k = m := by omega
          go_wp2_with fail
          go_ret
          exact ⟨rfl, bTrans HB1.out hbel⟩
set_option maxHeartbeats 2000000 in
theorem hoursOf_any (Ar Af : Option Addr) (cr cf : Nat) (S : Sh) (w : World) (ok : S.Ok) (hS : ShAt w Ar Af S) (A : Option Addr) (m c : Nat) (hm : m ≤ 40) :
    Calls Tryd.prog 44 #[.agg #[.slice Ar S.nr cr, .slice Af S.nf cf, .int .i64 S.deep, .int .i64 S.haul, .int .i64 S.rest], .slice A m c] w fun e w' => e = .returned (.int .i64 (S.hoursOf m)) ∧ Below w.heap.size w w' := by
  have hb0 := bAlloc (Below.refl w.heap.size w) (.cells #[.slice Ar S.nr cr, .slice Af S.nf cf, .int .i64 S.deep, .int .i64 S.haul, .int .i64 S.rest] 25)
  have HS := Lib.hid (hS.mono hb0)
  have HB := Lib.hid hb0
  clear hS hb0
  have hnf := ok.nf
  have h0 := ok.r0
  have h1 := ok.r1
  have q0 : 0 ≤ S.rest * (m : Int) := Int.mul_nonneg h0 (by omega)
  have q1 : S.rest * (m : Int) ≤ 360 := by have := Int.mul_le_mul h1 (show (m : Int) ≤ 40 by omega) (by omega) (by omega : (0 : Int) ≤ 9); omega
  go_enter Tryd.func44, Tryd.ntmps44
  go_wp2_with fail
  go_loopw [5, 6] (fun s i wr => ∃ k : Nat, k ≤ S.nf ∧ i = .int .i64 k ∧ s = .int .i64 (S.rest * m + sumTo S.hour k) ∧ Below (w.alloc (.cells #[.slice Ar S.nr cr, .slice Af S.nf cf, .int .i64 S.deep, .int .i64 S.haul, .int .i64 S.rest] 25)).heap.size (w.alloc (.cells #[.slice Ar S.nr cr, .slice Af S.nf cf, .int .i64 S.deep, .int .i64 S.haul, .int .i64 S.rest] 25)) wr) (fun _ i _ => S.nf - (intOf i).toNat)
  case atStart => exact ⟨0, Nat.zero_le _, rfl, by simp [sumTo], Below.refl _ _⟩
  case round =>
    obtain ⟨k, hk, rfl, rfl, hbel⟩ := hrel
    obtain ⟨bc, bf⟩ := bcell hbel
    have hz := hbel.size
    simp only [World.size_alloc] at hz
    have hy : w.heap.size < wr.heap.size := hz
    obtain ⟨_, _, d0, d1⟩ := digs_bd ok hk
    by_cases hlt : k < S.nf
    · have p0 := (ok.rk hlt).h0
      have p1 := (ok.rk hlt).h1
      go_wp2_with (go_at_call 72; refine (rockOf_any _ _ _ _ S _ ok (HS.out.mono hbel) _ k rfl hlt).mono ?_; rintro e w1 ⟨rfl, hb1⟩)
      go_roundw
      case rel => exact ⟨k + 1, by omega, by go_num, by simp only [sumTo, Sh.hour]; go_num, bTrans hbel hb1⟩
      case measure => simp [intOf]; omega
    · obtain rfl : k = S.nf := by omega
      go_wp2_with fail
      go_ret
      exact ⟨rfl, bTrans HB.out hbel⟩
theorem sameInts_any (A B : Option Addr) (n m c c' : Nat) (f g : Nat → Int) (w : World) (hn : n ≤ 9223372036854775807) (hm : m ≤ 9223372036854775807) (hf : IntsAt w A n f) (hg : IntsAt w B m g) :
    Calls Tryd.prog 42 #[.slice A n c, .slice B m c'] w fun e w' => e = .returned (.bool (decide (n = m) && !anyB (fun i => f i != g i) n)) ∧ Below w.heap.size w w' := by
  have HF := Lib.hid hf
  have HG := Lib.hid hg
  clear hf hg
  by_cases he : n = m
  · subst he
    go_enter Tryd.func42, Tryd.ntmps42
    go_wp2_with fail
    go_loopw [5] (fun i wr => ∃ k : Nat, k ≤ n ∧ i = .int .i64 k ∧ anyB (fun i => f i != g i) k = false ∧ Below w.heap.size w wr) (fun i _ => n - (intOf i).toNat)
    case atStart => exact ⟨0, Nat.zero_le _, rfl, rfl, Below.refl _ _⟩
    case round =>
      obtain ⟨k, hk, rfl, hno, hbel⟩ := hrel
      have HN := Lib.hid hno
      clear hno
      by_cases hlt : k < n
      · rcases HF.out.mono hbel with h0 | ⟨b, o, hA, hb, hcell⟩
        · omega
        have c0 := hcell k hlt
        clear hcell
        subst hA
        rcases HG.out.mono hbel with h0 | ⟨b2, o2, hA2, hb2, hcell2⟩
        · omega
        have c2 := hcell2 k hlt
        clear hcell2
        subst hA2
        cases hd : (f k != g k)
        all_goals
          go_wp2_with fail
          refine wp_region_quiet_below (by kernel_rfl) (by kernel_rfl) ?_
          repeat (go_big_quiet_step ((fail)))
          refine wpQuiet_nil ?_
          intro w3 hw3
          have hb3 := below_of_regrown hw3
          clear hw3
          go_wp2_with fail
        · go_roundw
          case rel => exact ⟨k + 1, by omega, by go_num, anyB_step HN.out hd, bTrans hbel hb3⟩
          case measure => simp [intOf]; omega
        · go_ret
          exact ⟨ret_bool (by rw [anyB_hit hlt hd]; simp), bTrans hbel hb3⟩
      · obtain rfl : k = n := by omega
        go_wp2_with fail
        go_ret
        exact ⟨ret_bool (by rw [HN.out]; simp), hbel⟩
  · have hne : ((n : Int) == (m : Int)) = false := by simp; omega
    have hne2 : ((n : Int) != (m : Int)) = true := by simp; omega
    go_enter Tryd.func42, Tryd.ntmps42
    go_wp2_with fail
    all_goals
      go_ret
      exact ⟨ret_bool (by simp [he]), Below.refl _ _⟩
end Go.Proofs.YtbbnpneabmldnaaDoor
