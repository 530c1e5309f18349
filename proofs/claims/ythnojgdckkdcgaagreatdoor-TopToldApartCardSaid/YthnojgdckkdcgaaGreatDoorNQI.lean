/- Parts joined: what all claims of this seat need. -/
import Derived.Test.YthnojgdckkdcgaaGreatDoorNQH
import Derived.Test.YthnojgdckkdcgaaGreatDoorNQC
import Derived.Test.YthnojgdckkdcgaaGreatDoorNQA
import Derived.Deep.RegionHeld3
import Derived.Test.YthnojgdckkdcgaaGreatDoorNQE
set_option linter.unusedSimpArgs false
set_option linter.unusedVariables false
namespace Go.Proofs.YthnojgdckkdcgaaGreatDoor
open Go.RowKit Go.Sort

theorem within_any (n lo hi : Int) (w : World) :
    Calls Tryz.prog 95 #[.int .i64 n, .int .i64 lo, .int .i64 hi] w fun e w' => e = .returned (.bool (inR n lo hi)) ∧ w = w' := by
  go_enter Tryz.func95, Tryz.ntmps95
  by_cases h1 : lo ≤ n <;> by_cases h2 : n ≤ hi
  all_goals
    go_wp2
    go_ret
    first
      | exact ⟨ret_bool (inR_t (by omega)).symm, rfl⟩
      | exact ⟨ret_bool (inR_f (by omega)).symm, rfl⟩
theorem within02_any (n lo hi : Int) (w : World) :
    Calls Tryz.prog 90 #[.int .i64 n, .int .i64 lo, .int .i64 hi] w fun e w' => e = .returned (.bool (inR n lo hi)) ∧ w = w' := by
  go_enter Tryz.func90, Tryz.ntmps90
  go_wp2_with (go_at_call 12; refine (Within01_any _ _ _ _).mono ?_; rintro e w' ⟨rfl, rfl⟩)
  go_ret
  exact ⟨rfl, rfl⟩

theorem bad_cases (r : Rock) : (inR r.hours 0 9 = false ∧ r.bad = true) ∨ (inR r.hours 0 9 = true ∧ inR r.pence 0 99 = false ∧ r.bad = true) ∨
    (inR r.hours 0 9 = true ∧ inR r.pence 0 99 = true ∧ inR r.stand 0 12 = false ∧ r.bad = true) ∨
    (inR r.hours 0 9 = true ∧ inR r.pence 0 99 = true ∧ inR r.stand 0 12 = true ∧ inR r.seat 0 99 = true ∧ r.bad = false) ∨
    (inR r.hours 0 9 = true ∧ inR r.pence 0 99 = true ∧ inR r.stand 0 12 = true ∧ inR r.seat 0 99 = false ∧ ∃ b, (r.seat != -1) = b ∧ r.bad = b) := by
  unfold Rock.bad
  cases inR r.hours 0 9 <;> cases inR r.pence 0 99 <;> cases inR r.stand 0 12 <;> cases inR r.seat 0 99 <;> cases (r.seat != -1) <;> simp
theorem sh_check1_any (r : Rock) (w : World) :
    Calls Tryz.prog 170 #[.agg #[.int .i64 r.hours, .int .i64 r.pence, .int .i64 r.stand, .int .i64 r.seat]] w fun e w' => e = .returned (.bool r.bad) ∧ Below w.heap.size w w' := by
  rcases bad_cases r with ⟨h1, hr⟩ | ⟨h1, h2, hr⟩ | ⟨h1, h2, h3, hr⟩ | ⟨h1, h2, h3, h4, hr⟩ | ⟨h1, h2, h3, h4, b, h5, hr⟩
  case inr.inr.inr.inr =>
    cases b
    all_goals
      have HR := Lib.hid hr
      clear hr
      go_enter Tryz.func170, Tryz.ntmps170
      go_wp2_with (go_at_call 95; refine (within_any _ _ _ _).mono ?_; rintro e w' ⟨rfl, rfl⟩)
      go_ret
      exact ⟨ret_bool HR.out.symm, (Below.refl _ _).alloc (Nat.le_refl _) _⟩
  all_goals
    have HR := Lib.hid hr
    clear hr
    go_enter Tryz.func170, Tryz.ntmps170
    go_wp2_with (go_at_call 95; refine (within_any _ _ _ _).mono ?_; rintro e w' ⟨rfl, rfl⟩)
    go_ret
    exact ⟨ret_bool HR.out.symm, (Below.refl _ _).alloc (Nat.le_refl _) _⟩

set_option maxHeartbeats 400000 in
theorem indexRocks (A : Option Addr) (n c : Nat) (f : Nat → Rock) (w : World) (hn : n ≤ 9223372036854775807) (hr : RocksAt w A n f) :
    Calls Tryz.prog 196 #[.slice A n c, .func (.func 170) #[] #[]] w (Found (anyB (fun i => (f i).bad) n) w) := by
  have HC := Lib.hid hr
  clear hr
  go_enter Tryz.func196, Tryz.ntmps196
  go_wp2_with fail
  go_loopw [5, 8] (fun _ i wr => ∃ k : Nat, k ≤ n ∧ i = .int .i64 k ∧ anyB (fun i => (f i).bad) k = false ∧ Below w.heap.size w wr) (fun _ i _ => n - (intOf i).toNat)
  case atStart => exact ⟨0, Nat.zero_le _, rfl, rfl, Below.refl _ _⟩
  case round =>
    obtain ⟨k, hk, rfl, hno, hbel⟩ := hrel
    have HN := Lib.hid hno
    clear hno
    by_cases hlt : k < n
    · rcases HC.out with h0 | ⟨b, o, hA, hb, hcell⟩
      · omega
      obtain ⟨c0, c1, c2, c3⟩ := hcell k hlt
      clear hcell
      subst hA
      obtain ⟨bc, bf⟩ := bcell hbel
      cases hbad : (f k).bad
      · go_wp2_with (go_at_call 170; refine (sh_check1_any (f k) _).mono ?_; rintro e w' ⟨rfl, hb2⟩)
        go_roundw
        case rel => exact ⟨k + 1, by omega, by go_num, anyB_step HN.out hbad, bTrans hbel hb2⟩
        case measure => simp [intOf]; omega
      · go_wp2_with (go_at_call 170; refine (sh_check1_any (f k) _).mono ?_; rintro e w' ⟨rfl, hb2⟩)
        go_ret
        exact ⟨k, rfl, by rw [anyB_hit hlt hbad]; simp, bTrans hbel hb2⟩
    · obtain rfl : k = n := by omega
      go_wp2_with fail
      go_ret
      exact ⟨-1, rfl, by simp [HN.out], hbel⟩
theorem containsRocks (A : Option Addr) (n c : Nat) (f : Nat → Rock) (w : World) (hn : n ≤ 9223372036854775807) (hr : RocksAt w A n f) :
    Calls Tryz.prog 172 #[.slice A n c, .func (.func 170) #[] #[]] w fun e w' => e = .returned (.bool (anyB (fun i => (f i).bad) n)) ∧ Below w.heap.size w w' := by
  go_enter Tryz.func172, Tryz.ntmps172
  go_wp2_with (go_at_call 196; refine (indexRocks _ _ _ f _ hn hr).mono ?_; rintro e w' ⟨k, rfl, hk, hb⟩; have HK := Lib.hid hk; clear hk)
  all_goals
    go_ret
    exact ⟨ret_bool (by rw [← HK.out]), hb⟩

theorem sh_check2_any (n : Int) (a : Addr) (A : Option Addr) (k c : Nat) (w : World) (hk : k ≤ 9223372036854775807) (hc : w.cell? a = some (.slice A k c)) :
    Calls Tryz.prog 171 #[.int .i64 n, .pointer (some a)] w fun e w' => e = .returned (.bool (!inR n 0 (k - 1))) ∧ w = w' := by
  go_enter Tryz.func171, Tryz.ntmps171
  go_wp2_with (go_at_call 95; refine (within_any _ _ _ _).mono ?_; rintro e w' ⟨rfl, rfl⟩)
  go_ret
  exact ⟨rfl, rfl⟩
set_option maxHeartbeats 400000 in
theorem indexInts (A : Option Addr) (n c : Nat) (f : Nat → Int) (a : Addr) (A' : Option Addr) (k' c' : Nat) (w : World) (hn : n ≤ 9223372036854775807) (hk' : k' ≤ 9223372036854775807) (hr : IntsAt w A n f)
    (ha : a.block < w.heap.size) (hca : w.cell? a = some (.slice A' k' c')) :
    Calls Tryz.prog 197 #[.slice A n c, .func (.func 171) #[] #[.pointer (some a)]] w (Found (anyB (fun i => !inR (f i) 0 (k' - 1)) n) w) := by
  have HC := Lib.hid hr
  clear hr
  go_enter Tryz.func197, Tryz.ntmps197
  go_wp2_with fail
  go_loopw [5, 8] (fun _ i wr => ∃ k : Nat, k ≤ n ∧ i = .int .i64 k ∧ anyB (fun i => !inR (f i) 0 (k' - 1)) k = false ∧ Below w.heap.size w wr) (fun _ i _ => n - (intOf i).toNat)
  case atStart => exact ⟨0, Nat.zero_le _, rfl, rfl, Below.refl _ _⟩
  case round =>
    obtain ⟨k, hk, rfl, hno, hbel⟩ := hrel
    have HN := Lib.hid hno
    clear hno
    by_cases hlt : k < n
    · rcases HC.out with h0 | ⟨b, o, hA, hb, hcell⟩
      · omega
      have c0 := hcell k hlt
      clear hcell
      subst hA
      have hca' : wr.cell? a = some (.slice A' k' c') := (hbel.cell ha).trans hca
      obtain ⟨bc, bf⟩ := bcell hbel
      cases hbad : inR (f k) 0 (k' - 1)
      · go_wp2_with (go_at_call 171; refine (sh_check2_any (f k) a A' k' c' _ hk' hca').mono ?_; rintro e w' ⟨rfl, rfl⟩)
        go_ret
        exact ⟨k, rfl, by rw [anyB_hit hlt (by simp [hbad])]; simp, hbel⟩
      · go_wp2_with (go_at_call 171; refine (sh_check2_any (f k) a A' k' c' _ hk' hca').mono ?_; rintro e w' ⟨rfl, rfl⟩)
        go_roundw
        case rel => exact ⟨k + 1, by omega, by go_num, anyB_step HN.out (by simp [hbad]), hbel⟩
        case measure => simp [intOf]; omega
    · obtain rfl : k = n := by omega
      go_wp2_with fail
      go_ret
      exact ⟨-1, rfl, by simp [HN.out], hbel⟩
theorem containsInts (A : Option Addr) (n c : Nat) (f : Nat → Int) (a : Addr) (A' : Option Addr) (k' c' : Nat) (w : World) (hn : n ≤ 9223372036854775807) (hk' : k' ≤ 9223372036854775807) (hr : IntsAt w A n f)
    (ha : a.block < w.heap.size) (hca : w.cell? a = some (.slice A' k' c')) :
    Calls Tryz.prog 173 #[.slice A n c, .func (.func 171) #[] #[.pointer (some a)]] w
      fun e w' => e = .returned (.bool (anyB (fun i => !inR (f i) 0 (k' - 1)) n)) ∧ Below w.heap.size w w' := by
  go_enter Tryz.func173, Tryz.ntmps173
  go_wp2_with (go_at_call 197; refine (indexInts _ _ _ f a A' k' c' _ hn hk' hr ha hca).mono ?_; rintro e w' ⟨k, rfl, hk, hb⟩; have HK := Lib.hid hk; clear hk)
  all_goals
    go_ret
    exact ⟨ret_bool (by rw [← HK.out]), hb⟩
end Go.Proofs.YthnojgdckkdcgaaGreatDoor


namespace Go.Proofs.YthnojgdckkdcgaaGreatDoor
open Go.RowKit Go.Sort

open Classical in
noncomputable def Sh.err (S : Sh) : Int := if S.Ok then 0 else 20
theorem Sh.err_ok {S : Sh} (h : S.Ok) : S.err = 0 := if_pos h
theorem Sh.err_bad {S : Sh} (h : ¬ S.Ok) : S.err = 20 := if_neg h
theorem foot_in {S : Sh} {i : Nat} : inR (S.foot i) 0 ((S.nr : Int) - 1) = true ↔ 0 ≤ S.foot i ∧ S.foot i < S.nr := by rw [inR_iff]; omega
/-- the tests of shafts.Check, in the order of the text -/
theorem check_cases (S : Sh) : ((4 : Int) < (S.nr : Int) ∧ S.err = 20) ∨ (¬ (4 : Int) < (S.nr : Int) ∧ anyB (fun i => (S.rock i).bad) S.nr = true ∧ S.err = 20) ∨
    (¬ (4 : Int) < (S.nr : Int) ∧ anyB (fun i => (S.rock i).bad) S.nr = false ∧ (12 : Int) < (S.nf : Int) ∧ S.err = 20) ∨
    (¬ (4 : Int) < (S.nr : Int) ∧ anyB (fun i => (S.rock i).bad) S.nr = false ∧ ¬ (12 : Int) < (S.nf : Int) ∧ anyB (fun i => !inR (S.foot i) 0 (S.nr - 1)) S.nf = true ∧ S.err = 20) ∨
    (¬ (4 : Int) < (S.nr : Int) ∧ anyB (fun i => (S.rock i).bad) S.nr = false ∧ ¬ (12 : Int) < (S.nf : Int) ∧ anyB (fun i => !inR (S.foot i) 0 (S.nr - 1)) S.nf = false ∧ inR S.deep 0 9 = false ∧ S.err = 20) ∨
    (¬ (4 : Int) < (S.nr : Int) ∧ anyB (fun i => (S.rock i).bad) S.nr = false ∧ ¬ (12 : Int) < (S.nf : Int) ∧ anyB (fun i => !inR (S.foot i) 0 (S.nr - 1)) S.nf = false ∧ inR S.deep 0 9 = true ∧ inR S.haul 0 9 = false ∧ S.err = 20) ∨
    (¬ (4 : Int) < (S.nr : Int) ∧ anyB (fun i => (S.rock i).bad) S.nr = false ∧ ¬ (12 : Int) < (S.nf : Int) ∧ anyB (fun i => !inR (S.foot i) 0 (S.nr - 1)) S.nf = false ∧ inR S.deep 0 9 = true ∧ inR S.haul 0 9 = true ∧ inR S.rest 0 9 = false ∧ S.err = 20) ∨
    (¬ (4 : Int) < (S.nr : Int) ∧ anyB (fun i => (S.rock i).bad) S.nr = false ∧ ¬ (12 : Int) < (S.nf : Int) ∧ anyB (fun i => !inR (S.foot i) 0 (S.nr - 1)) S.nf = false ∧ inR S.deep 0 9 = true ∧ inR S.haul 0 9 = true ∧ inR S.rest 0 9 = true ∧ S.err = 0) := by
  by_cases h1 : (4 : Int) < (S.nr : Int)
  · exact .inl ⟨h1, Sh.err_bad fun h => by have := h.nr; omega⟩
  refine .inr ?_
  cases h2 : anyB (fun i => (S.rock i).bad) S.nr
  case true =>
    obtain ⟨i, hi, hb⟩ := anyB_true.1 h2
    exact .inl ⟨h1, rfl, Sh.err_bad fun h => by have := Rock.bad_iff.2 (h.rock i hi); rw [hb] at this; cases this⟩
  refine .inr ?_
  by_cases h3 : (12 : Int) < (S.nf : Int)
  · exact .inl ⟨h1, rfl, h3, Sh.err_bad fun h => by have := h.nf; omega⟩
  refine .inr ?_
  cases h4 : anyB (fun i => !inR (S.foot i) 0 (S.nr - 1)) S.nf
  case true =>
    obtain ⟨i, hi, hb⟩ := anyB_true.1 h4
    exact .inl ⟨h1, rfl, h3, rfl, Sh.err_bad fun h => by simp only [foot_in.2 ⟨h.f0 i hi, h.f1 i hi⟩] at hb; cases hb⟩
  refine .inr ?_
  cases h5 : inR S.deep 0 9
  · exact .inl ⟨h1, rfl, h3, rfl, rfl, Sh.err_bad fun h => by rw [inR_t ⟨h.d0, h.d1⟩] at h5; cases h5⟩
  refine .inr ?_
  cases h6 : inR S.haul 0 9
  · exact .inl ⟨h1, rfl, h3, rfl, rfl, rfl, Sh.err_bad fun h => by rw [inR_t ⟨h.l0, h.l1⟩] at h6; cases h6⟩
  refine .inr ?_
  cases h7 : inR S.rest 0 9
  · exact .inl ⟨h1, rfl, h3, rfl, rfl, rfl, rfl, Sh.err_bad fun h => by rw [inR_t ⟨h.r0, h.r1⟩] at h7; cases h7⟩
  refine .inr ⟨h1, rfl, h3, rfl, rfl, rfl, rfl, Sh.err_ok ⟨by omega, by omega, fun i hi => Rock.bad_iff.1 (anyB_false.1 h2 i hi), fun i hi => ?_, fun i hi => ?_, (inR_iff.1 h5).1, (inR_iff.1 h5).2, (inR_iff.1 h6).1, (inR_iff.1 h6).2, (inR_iff.1 h7).1, (inR_iff.1 h7).2⟩⟩
  · have := anyB_false.1 h4 i hi; simp only [Bool.not_eq_false'] at this; exact (foot_in.1 this).1
  · have := anyB_false.1 h4 i hi; simp only [Bool.not_eq_false'] at this; exact (foot_in.1 this).2

set_option maxHeartbeats 1000000 in
theorem check_any (Ar Af : Option Addr) (cr cf : Nat) (S : Sh) (w : World) (hr : S.nr ≤ 9223372036854775807) (hf : S.nf ≤ 9223372036854775807) (hS : ShAt w Ar Af S) :
    Calls Tryz.prog 138 #[.agg #[.slice Ar S.nr cr, .slice Af S.nf cf, .int .i64 S.deep, .int .i64 S.haul, .int .i64 S.rest]] w fun e w' => e = .returned (.int .i64 S.err) ∧ Below w.heap.size w w' := by
  have hb0 := bAlloc (Below.refl w.heap.size w) (.cells #[.slice Ar S.nr cr, .slice Af S.nf cf, .int .i64 S.deep, .int .i64 S.haul, .int .i64 S.rest] 68)
  have HS := Lib.hid (hS.mono hb0)
  have HB := Lib.hid hb0
  clear hS hb0
  rcases check_cases S with ⟨h1, he⟩ | ⟨h1, h2, he⟩ | ⟨h1, h2, h3, he⟩ | ⟨h1, h2, h3, h4, he⟩ | ⟨h1, h2, h3, h4, h5, he⟩ | ⟨h1, h2, h3, h4, h5, h6, he⟩ | ⟨h1, h2, h3, h4, h5, h6, h7, he⟩ | ⟨h1, h2, h3, h4, h5, h6, h7, he⟩
  all_goals
    have HE := Lib.hid he
    clear he
    go_enter Tryz.func138, Tryz.ntmps138
    go_wp2_with (first | (go_at_call 172; refine (containsRocks _ _ _ S.rock _ hr HS.out.rocks).mono ?_; rintro e w1 ⟨rfl, hb1⟩; obtain ⟨bc1, bf1⟩ := bcell hb1; have hz1 := hb1.size; simp only [World.size_alloc] at hz1; have hy1 : w.heap.size < w1.heap.size := hz1; have HI := Lib.hid (HS.out.feet.mono hb1)) | (go_at_call 173; refine (containsInts _ _ _ S.foot ⟨w.heap.size, 0, none⟩ Ar S.nr cr _ hf hr HI.out (show w.heap.size < w1.heap.size from by omega) (by rw [bc1 _ _ (by simp)]; simp [go_sem])).mono ?_; rintro e w2 ⟨rfl, hb2⟩; obtain ⟨bc2, bf2⟩ := bcell hb2; have hz2 := hb2.size; have hy2 : w.heap.size < w2.heap.size := by omega) | (go_at_call 95; refine (within_any _ _ _ _).mono ?_; rintro e w' ⟨rfl, rfl⟩))
    go_ret
    refine ⟨ret_int HE.out.symm, ?_⟩
    first
      | exact HB.out
      | exact bTrans HB.out (by assumption)
      | exact bTrans (bTrans HB.out hb1) (by assumption)
end Go.Proofs.YthnojgdckkdcgaaGreatDoor


namespace Go.Proofs.YthnojgdckkdcgaaGreatDoor
open Go.RowKit Go.Sort

theorem isRock_any (Ar Af : Option Addr) (cr cf : Nat) (S : Sh) (n : Int) (w : World) (hr : S.nr ≤ 9223372036854775807) :
    Calls Tryz.prog 35 #[.agg #[.slice Ar S.nr cr, .slice Af S.nf cf, .int .i64 S.deep, .int .i64 S.haul, .int .i64 S.rest], .int .i64 n] w fun e w' => e = .returned (.bool (inR n 0 (S.nr - 1))) ∧ Below w.heap.size w w' := by
  go_enter Tryz.func35, Tryz.ntmps35
  go_wp2_with (go_at_call 90; refine (within02_any _ _ _ _).mono ?_; rintro e w' ⟨rfl, rfl⟩)
  go_ret
  exact ⟨rfl, bAlloc (Below.refl _ _) _⟩
theorem rock_cases (r : Rock) : (inR r.hours 0 9 = false ∧ ¬ r.Ok) ∨ (inR r.hours 0 9 = true ∧ inR r.pence 0 99 = false ∧ ¬ r.Ok) ∨
    (inR r.hours 0 9 = true ∧ inR r.pence 0 99 = true ∧ inR r.stand 0 12 = false ∧ ¬ r.Ok) ∨
    (inR r.hours 0 9 = true ∧ inR r.pence 0 99 = true ∧ inR r.stand 0 12 = true ∧ inR r.seat (-1) 99 = false ∧ ¬ r.Ok) ∨
    (inR r.hours 0 9 = true ∧ inR r.pence 0 99 = true ∧ inR r.stand 0 12 = true ∧ inR r.seat (-1) 99 = true ∧ r.Ok) := by
  cases h1 : inR r.hours 0 9
  · exact .inl ⟨rfl, fun h => by rw [inR_t ⟨h.h0, h.h1⟩] at h1; cases h1⟩
  cases h2 : inR r.pence 0 99
  · exact .inr (.inl ⟨rfl, rfl, fun h => by rw [inR_t ⟨h.p0, h.p1⟩] at h2; cases h2⟩)
  cases h3 : inR r.stand 0 12
  · exact .inr (.inr (.inl ⟨rfl, rfl, rfl, fun h => by rw [inR_t ⟨h.s0, h.s1⟩] at h3; cases h3⟩))
  cases h4 : inR r.seat (-1) 99
  · exact .inr (.inr (.inr (.inl ⟨rfl, rfl, rfl, rfl, fun h => by rw [inR_t ⟨h.t0, h.t1⟩] at h4; cases h4⟩)))
  · exact .inr (.inr (.inr (.inr ⟨rfl, rfl, rfl, rfl, ⟨(inR_iff.1 h1).1, (inR_iff.1 h1).2, (inR_iff.1 h2).1, (inR_iff.1 h2).2, (inR_iff.1 h3).1, (inR_iff.1 h3).2, (inR_iff.1 h4).1, (inR_iff.1 h4).2⟩⟩)))
theorem err_foot {S : Sh} {k : Nat} (hk : k < S.nf) (h : inR (S.foot k) 0 (S.nr - 1) = false) : ¬ S.Ok := fun ok => by
  rw [foot_in.2 ⟨ok.f0 k hk, ok.f1 k hk⟩] at h; cases h
/-- the first test of steeningref02.Check -/
theorem head_cases (S : Sh) : ((4 : Int) < (S.nr : Int) ∧ ¬ S.Ok) ∨ (¬ (4 : Int) < (S.nr : Int) ∧ (12 : Int) < (S.nf : Int) ∧ ¬ S.Ok) ∨
    (¬ (4 : Int) < (S.nr : Int) ∧ ¬ (12 : Int) < (S.nf : Int) ∧ inR S.deep 0 9 = false ∧ ¬ S.Ok) ∨
    (¬ (4 : Int) < (S.nr : Int) ∧ ¬ (12 : Int) < (S.nf : Int) ∧ inR S.deep 0 9 = true ∧ inR S.haul 0 9 = false ∧ ¬ S.Ok) ∨
    (¬ (4 : Int) < (S.nr : Int) ∧ ¬ (12 : Int) < (S.nf : Int) ∧ inR S.deep 0 9 = true ∧ inR S.haul 0 9 = true ∧ inR S.rest 0 9 = false ∧ ¬ S.Ok) ∨
    (¬ (4 : Int) < (S.nr : Int) ∧ ¬ (12 : Int) < (S.nf : Int) ∧ inR S.deep 0 9 = true ∧ inR S.haul 0 9 = true ∧ inR S.rest 0 9 = true) := by
  by_cases h1 : (4 : Int) < (S.nr : Int)
  · exact .inl ⟨h1, fun h => by have := h.nr; omega⟩
  refine .inr ?_
  by_cases h3 : (12 : Int) < (S.nf : Int)
  · exact .inl ⟨h1, h3, fun h => by have := h.nf; omega⟩
  refine .inr ?_
  cases h5 : inR S.deep 0 9
  · exact .inl ⟨h1, h3, rfl, fun h => by rw [inR_t ⟨h.d0, h.d1⟩] at h5; cases h5⟩
  refine .inr ?_
  cases h6 : inR S.haul 0 9
  · exact .inl ⟨h1, h3, rfl, rfl, fun h => by rw [inR_t ⟨h.l0, h.l1⟩] at h6; cases h6⟩
  refine .inr ?_
  cases h7 : inR S.rest 0 9
  · exact .inl ⟨h1, h3, rfl, rfl, rfl, fun h => by rw [inR_t ⟨h.r0, h.r1⟩] at h7; cases h7⟩
  exact .inr ⟨h1, h3, rfl, rfl, rfl⟩

set_option maxHeartbeats 1000000 in
theorem refCheck_any (Ar Af : Option Addr) (cr cf : Nat) (S : Sh) (w : World) (hr : S.nr ≤ 9223372036854775807) (hf : S.nf ≤ 9223372036854775807) (hS : ShAt w Ar Af S) :
    Calls Tryz.prog 88 #[.agg #[.slice Ar S.nr cr, .slice Af S.nf cf, .int .i64 S.deep, .int .i64 S.haul, .int .i64 S.rest]] w fun e w' => e = .returned (.int .i64 S.err) ∧ Below w.heap.size w w' := by
  have hb0 := bAlloc (Below.refl w.heap.size w) (.cells #[.slice Ar S.nr cr, .slice Af S.nf cf, .int .i64 S.deep, .int .i64 S.haul, .int .i64 S.rest] 68)
  have HS := Lib.hid (hS.mono hb0)
  have HB := Lib.hid hb0
  clear hS hb0
  rcases head_cases S with ⟨h1, he⟩ | ⟨h1, h2, he⟩ | ⟨h1, h2, h3, he⟩ | ⟨h1, h2, h3, h4, he⟩ | ⟨h1, h2, h3, h4, h5, he⟩ | ⟨h1, h2, h3, h4, h5⟩
  case inr.inr.inr.inr.inr =>
    go_enter Tryz.func88, Tryz.ntmps88
    go_wp2_with (go_at_call 90; refine (within02_any _ _ _ _).mono ?_; rintro e w' ⟨rfl, rfl⟩)
    go_loopw [3] (fun i wr => ∃ k : Nat, k ≤ S.nr ∧ i = .int .i64 k ∧ (∀ j, j < k → (S.rock j).Ok) ∧ Below (w.alloc (.cells #[.slice Ar S.nr cr, .slice Af S.nf cf, .int .i64 S.deep, .int .i64 S.haul, .int .i64 S.rest] 68)).heap.size (w.alloc (.cells #[.slice Ar S.nr cr, .slice Af S.nf cf, .int .i64 S.deep, .int .i64 S.haul, .int .i64 S.rest] 68)) wr) (fun i _ => S.nr - (intOf i).toNat)
    case atStart => exact ⟨0, Nat.zero_le _, rfl, fun j hj => by omega, Below.refl _ _⟩
    case round =>
      obtain ⟨k, hk, rfl, hok, hbel⟩ := hrel
      have HO := Lib.hid hok
      clear hok
      obtain ⟨bc, bf⟩ := bcell hbel
      have hz := hbel.size
      simp only [World.size_alloc] at hz
      have hy : w.heap.size < wr.heap.size := hz
      by_cases hlt : k < S.nr
      · have HS1 := HS.out.mono hbel
        rcases HS1.rocks with h0 | ⟨b, o, hA, hb, hcell⟩
        · omega
        obtain ⟨c0, c1, c2, c3⟩ := hcell k hlt
        clear hcell HS1
        subst hA
        rcases rock_cases (S.rock k) with ⟨g1, he⟩ | ⟨g1, g2, he⟩ | ⟨g1, g2, g3, he⟩ | ⟨g1, g2, g3, g4, he⟩ | ⟨g1, g2, g3, g4, he⟩
        case inr.inr.inr.inr =>
          have HE := Lib.hid he
          clear he
          go_wp2_with (go_at_call 90; refine (within02_any _ _ _ _).mono ?_; rintro e w' ⟨rfl, rfl⟩)
          go_roundw
          case rel => exact ⟨k + 1, by omega, by go_num, fun j hj => by (rcases Nat.lt_or_ge j k with h | h); exact HO.out j h; (obtain rfl : j = k := by omega); exact HE.out, bAlloc hbel _⟩
          case measure => simp [intOf]; omega
        all_goals
          have HE := Lib.hid he
          clear he
          go_wp2_with (go_at_call 90; refine (within02_any _ _ _ _).mono ?_; rintro e w' ⟨rfl, rfl⟩)
          go_ret
          exact ⟨ret_int (Sh.err_bad fun h => HE.out (h.rock k hlt)).symm, bAlloc (bTrans HB.out hbel) _⟩
      · obtain rfl : k = S.nr := by omega
        go_wp2_with fail
        obtain ⟨w1, rfl⟩ : ∃ w1 : World, w1 = wr := ⟨_, rfl⟩
        have HB1 := Lib.hid (bTrans HB.out hbel)
        have HS1 := Lib.hid (HS.out.mono hbel)
        clear hbel
        go_loopw [5] (fun i wr => ∃ k : Nat, k ≤ S.nf ∧ i = .int .i64 k ∧ (∀ j, j < k → inR (S.foot j) 0 (S.nr - 1) = true) ∧ Below w1.heap.size w1 wr) (fun i _ => S.nf - (intOf i).toNat)
        case atStart => exact ⟨0, Nat.zero_le _, rfl, fun j hj => by omega, Below.refl _ _⟩
        case round =>
          obtain ⟨k, hk, rfl, hok, hbel⟩ := hrel
          have HP := Lib.hid hok
          clear hok
          obtain ⟨bc2, bf2⟩ := bcell hbel
          have hz2 := hbel.size
          have hy2 : w.heap.size < wr.heap.size := by omega
          by_cases hlt : k < S.nf
          · have HS2 := HS1.out.mono hbel
            rcases HS2.feet with h0 | ⟨b, o, hA, hb, hcell⟩
            · omega
            have c0 := hcell k hlt
            clear hcell HS2
            subst hA
            cases hin : inR (S.foot k) 0 (S.nr - 1)
            case' false => have HE := Lib.hid (err_foot hlt hin)
            all_goals
              go_wp2_with fail
              refine wp_region_quiet_below (by kernel_rfl) (by kernel_rfl) ?_
              repeat (go_big_quiet_step ((go_at_call 35; exact Calls.regrown_of (isRock_any _ _ _ _ S _ _ hr))))
              refine wpQuiet_nil ?_
              intro w3 hw3
              have hb3 := below_of_regrown hw3
              clear hw3
              go_wp2_with fail
            · go_ret
              exact ⟨ret_int (Sh.err_bad HE.out).symm, bTrans (bTrans HB1.out hbel) hb3⟩
            · go_roundw
              case rel => exact ⟨k + 1, by omega, by go_num, fun j hj => by (rcases Nat.lt_or_ge j k with h | h); exact HP.out j h; (obtain rfl : j = k := by omega); exact hin, bTrans hbel hb3⟩
              case measure => simp [intOf]; omega
          · obtain rfl : k = S.nf := by omega
            go_wp2_with fail
            go_ret
            exact ⟨ret_int (Sh.err_ok ⟨by omega, by omega, HO.out, fun i hi => (foot_in.1 (HP.out i hi)).1, fun i hi => (foot_in.1 (HP.out i hi)).2, (inR_iff.1 h3).1, (inR_iff.1 h3).2, (inR_iff.1 h4).1, (inR_iff.1 h4).2, (inR_iff.1 h5).1, (inR_iff.1 h5).2⟩).symm, bTrans HB1.out hbel⟩
  all_goals
    have HE := Lib.hid he
    clear he
    go_enter Tryz.func88, Tryz.ntmps88
    go_wp2_with (go_at_call 90; refine (within02_any _ _ _ _).mono ?_; rintro e w' ⟨rfl, rfl⟩)
    go_ret
    exact ⟨ret_int (Sh.err_bad HE.out).symm, HB.out⟩
end Go.Proofs.YthnojgdckkdcgaaGreatDoor


namespace Go.Proofs.YthnojgdckkdcgaaGreatDoor
open Go.RowKit Go.Sort

/-- the least Stand of m feet from a on (12 at the most) -/
def Sh.minSt (S : Sh) (a : Nat) : Nat → Int
  | 0 => 12
  | m + 1 => min (S.minSt a m) (S.rk (a + m)).stand
theorem Sh.minSt_bd {S : Sh} (ok : S.Ok) (a m : Nat) (h : a + m ≤ S.nf) : 0 ≤ S.minSt a m ∧ S.minSt a m ≤ 12 := by
  induction m with
  | zero => simp [Sh.minSt]
  | succ m ih =>
    have := ih (by omega)
    have h0 := (ok.rk (i := a + m) (by omega)).s0
    simp only [Sh.minSt]; omega
/-- whether the shaft falls with the foot f, if the last ring is at a -/
def Sh.fallsAt (S : Sh) (a f : Nat) : Bool := decide (S.minSt a (f + 1 - a) < (f : Int) - a + 1)
/-- the first foot from a on with which it falls, if no ring is laid below a -/
def Sh.falls (S : Sh) (a : Nat) : Nat := firstFrom (S.fallsAt a) (S.nf - a) a
theorem Sh.falls_bd (S : Sh) {a : Nat} (h : a ≤ S.nf) : a ≤ S.falls a ∧ S.falls a ≤ S.nf := by
  have := firstFrom_spec (S.fallsAt a) (S.nf - a) a
  unfold Sh.falls; omega
/-! ### Stops -/
/-- the depth from which one goes on behind k stops -/
def stopAt (g : Nat → Int) : Nat → Nat
  | 0 => 0
  | k + 1 => (g k).toNat
/-- the price of a foot, and of a ring at a depth -/
def Sh.price (S : Sh) (i : Nat) : Int := (S.rk i).pence + i * S.deep
def Sh.ringc (S : Sh) (d : Nat) : Int := (S.rk (d - 1)).seat + d * S.haul
def Sh.restsB (S : Sh) (d : Nat) : Bool := (S.rk (d - 1)).seat != -1
def Sh.hour (S : Sh) (i : Nat) : Int := (S.rk i).hours
end Go.Proofs.YthnojgdckkdcgaaGreatDoor


namespace Go.Proofs.YthnojgdckkdcgaaGreatDoor
open Go.RowKit Go.Sort

end Go.Proofs.YthnojgdckkdcgaaGreatDoor


namespace Go.Proofs.YthnojgdckkdcgaaGreatDoor
open Go.RowKit Go.Sort

theorem sh_mul_bd {a b : Int} (h0 : 0 ≤ a) (h1 : a ≤ 12) (h2 : 0 ≤ b) (h3 : b ≤ 9) : 0 ≤ a * b ∧ a * b ≤ 108 :=
  ⟨Int.mul_nonneg h0 h2, by have := Int.mul_le_mul h1 h3 h2 (by omega : (0:Int) ≤ 12); omega⟩
theorem rock_any (Ar Af : Option Addr) (cr cf : Nat) (S : Sh) (w : World) (ok : S.Ok) (hS : ShAt w Ar Af S) (n : Int) (i : Nat) (hn : n = i) (hi : i < S.nf) :
    Calls Tryz.prog 195 #[.agg #[.slice Ar S.nr cr, .slice Af S.nf cf, .int .i64 S.deep, .int .i64 S.haul, .int .i64 S.rest], .int .i64 n] w fun e w' => e = .returned (.agg #[.int .i64 (S.rk i).hours, .int .i64 (S.rk i).pence, .int .i64 (S.rk i).stand, .int .i64 (S.rk i).seat]) ∧ Below w.heap.size w w' := by
  subst hn
  obtain ⟨ba, oa, bf, of_, k, rfl, rfl, hba, hbf, hk, c0, c1, c2, c3, c4⟩ := hS.foot ok hi
  have hnr := ok.nr
  have hnf := ok.nf
  go_enter Tryz.func195, Tryz.ntmps195
  go_wp2_with fail
  go_region
  go_wp2_with fail
  exact bodyPost_ret (v := .agg #[.int .i64 (S.rk i).hours, .int .i64 (S.rk i).pence, .int .i64 (S.rk i).stand, .int .i64 (S.rk i).seat]) (by simp [results, Tryz.results195, go_sem]) rfl ⟨rfl, by (repeat (first | (with_reducible exact Below.refl _ _) | (with_reducible refine bAlloc ?_ _) | (with_reducible refine bDrew ?_) | (with_reducible refine bGrow ?_ _ _) | (with_reducible refine bSet ?_ ?_ _; (first | exact Nat.le_refl _ | exact Nat.le_add_right _ _ | (simp; omega))) | (with_reducible refine bTrans ?_ (by assumption))))⟩
theorem rests_any (Ar Af : Option Addr) (cr cf : Nat) (S : Sh) (w : World) (ok : S.Ok) (hS : ShAt w Ar Af S) (n : Int) (d : Nat) (hn : n = d) (h1 : 1 ≤ d) (hd : d ≤ S.nf) :
    Calls Tryz.prog 206 #[.agg #[.slice Ar S.nr cr, .slice Af S.nf cf, .int .i64 S.deep, .int .i64 S.haul, .int .i64 S.rest], .int .i64 n] w fun e w' => e = .returned (.bool (S.restsB d)) ∧ Below w.heap.size w w' := by
  subst hn
  have hb0 := bAlloc (Below.refl w.heap.size w) (.cells #[.slice Ar S.nr cr, .slice Af S.nf cf, .int .i64 S.deep, .int .i64 S.haul, .int .i64 S.rest] 150)
  have HS := Lib.hid (hS.mono hb0)
  have HB := Lib.hid hb0
  clear hS hb0
  have hi : d - 1 < S.nf := by omega
  have hnf := ok.nf
  go_enter Tryz.func206, Tryz.ntmps206
  go_wp2_with (go_at_call 195; refine (rock_any _ _ _ _ S _ ok HS.out _ (d - 1) (by omega) hi).mono ?_; rintro e w1 ⟨rfl, hb1⟩)
  go_ret
  exact ⟨rfl, bTrans HB.out hb1⟩
theorem plus_any (a b c d : Int) (w : World) (h : 0 ≤ a ∧ a ≤ 10000 ∧ 0 ≤ b ∧ b ≤ 10000 ∧ -1 ≤ c ∧ c ≤ 10000 ∧ 0 ≤ d ∧ d ≤ 10000) :
    Calls Tryz.prog 168 #[.agg #[.int .i64 a, .int .i64 b], .agg #[.int .i64 c, .int .i64 d]] w fun e w' => e = .returned (.agg #[.int .i64 (a + c), .int .i64 (b + d)]) ∧ Below w.heap.size w w' := by
  obtain ⟨a0, a1, b0, b1, c0, c1, d0, d1⟩ := h
  go_enter Tryz.func168, Tryz.ntmps168
  go_wp2_with fail
  exact bodyPost_ret (v := .agg #[.int .i64 (a + c), .int .i64 (b + d)]) (by simp [results, Tryz.results168, go_sem]) rfl ⟨rfl, by (repeat (first | (with_reducible exact Below.refl _ _) | (with_reducible refine bAlloc ?_ _) | (with_reducible refine bDrew ?_) | (with_reducible refine bGrow ?_ _ _) | (with_reducible refine bSet ?_ ?_ _; (first | exact Nat.le_refl _ | exact Nat.le_add_right _ _ | (simp; omega))) | (with_reducible refine bTrans ?_ (by assumption))))⟩
end Go.Proofs.YthnojgdckkdcgaaGreatDoor


namespace Go.Proofs.YthnojgdckkdcgaaGreatDoor
open Go.RowKit Go.Sort

set_option maxHeartbeats 1000000 in
theorem falls_any (Ar Af : Option Addr) (cr cf : Nat) (S : Sh) (w : World) (ok : S.Ok) (hS : ShAt w Ar Af S) (a : Nat) (ha : a ≤ S.nf) :
    Calls Tryz.prog 205 #[.agg #[.slice Ar S.nr cr, .slice Af S.nf cf, .int .i64 S.deep, .int .i64 S.haul, .int .i64 S.rest], .int .i64 a] w fun e w' => e = .returned (.int .i64 (S.falls a)) ∧ Below w.heap.size w w' := by
  have hb0 := bAlloc (Below.refl w.heap.size w) (.cells #[.slice Ar S.nr cr, .slice Af S.nf cf, .int .i64 S.deep, .int .i64 S.haul, .int .i64 S.rest] 150)
  have HS := Lib.hid (hS.mono hb0)
  have HB := Lib.hid hb0
  clear hS hb0
  have hnf := ok.nf
  go_enter Tryz.func205, Tryz.ntmps205
  go_wp2_with fail
  go_loopw [5, 6] (fun s i wr => ∃ m : Nat, a + m ≤ S.nf ∧ i = .int .i64 (a + m : Nat) ∧ s = .int .i64 (S.minSt a m) ∧ (∀ j, a ≤ j → j < a + m → S.fallsAt a j = false) ∧ Below (w.alloc (.cells #[.slice Ar S.nr cr, .slice Af S.nf cf, .int .i64 S.deep, .int .i64 S.haul, .int .i64 S.rest] 150)).heap.size (w.alloc (.cells #[.slice Ar S.nr cr, .slice Af S.nf cf, .int .i64 S.deep, .int .i64 S.haul, .int .i64 S.rest] 150)) wr) (fun _ i _ => S.nf - (intOf i).toNat)
  case atStart => exact ⟨0, ha, rfl, rfl, fun j h1 h2 => by omega, Below.refl _ _⟩
  case round =>
    obtain ⟨m, hm, rfl, rfl, hno, hbel⟩ := hrel
    have HN := Lib.hid hno
    clear hno
    obtain ⟨bc, bf⟩ := bcell hbel
    have hz := hbel.size
    simp only [World.size_alloc] at hz
    have hy : w.heap.size < wr.heap.size := hz
    by_cases hlt : a + m < S.nf
    · have hif : (if (S.rk (a + m)).stand < S.minSt a m then (S.rk (a + m)).stand else S.minSt a m) = S.minSt a (m + 1) := by
        simp only [Sh.minSt]; split <;> omega
      obtain ⟨b0, b1⟩ := Sh.minSt_bd ok a m hm
      have r0 := (ok.rk hlt).s0
      have r1 := (ok.rk hlt).s1
      have e1 : a + m + 1 - a = m + 1 := by omega
      by_cases hfall : S.minSt a (m + 1) < (a : Int) + m - a + 1
      · have HF := Lib.hid (show S.fallsAt a (a + m) = true by unfold Sh.fallsAt; rw [e1]; simp only [decide_eq_true_eq]; omega)
        clear e1
        go_wp2_with (go_at_call 195; refine (rock_any _ _ _ _ S _ ok (HS.out.mono hbel) _ (a + m) (by omega) hlt).mono ?_; rintro e w1 ⟨rfl, hb1⟩)
        go_ret
        exact ⟨ret_int (by rw [show S.falls a = a + m from firstFrom_eq _ _ _ _ (by omega) (by omega) HN.out fun _ => HF.out]; omega), bTrans (bTrans HB.out hbel) hb1⟩
      · have HF := Lib.hid (show S.fallsAt a (a + m) = false by unfold Sh.fallsAt; rw [e1]; simp only [decide_eq_false_iff_not]; omega)
        clear e1
        go_wp2_with (go_at_call 195; refine (rock_any _ _ _ _ S _ ok (HS.out.mono hbel) _ (a + m) (by omega) hlt).mono ?_; rintro e w1 ⟨rfl, hb1⟩)
        go_roundw
        case rel => exact ⟨m + 1, by omega, by go_num, rfl, fun j h1 h2 => by (rcases Nat.lt_or_ge j (a + m) with h | h); exact HN.out j h1 h; (obtain rfl : j = a + m := by omega); exact HF.out, bTrans hbel hb1⟩
        case measure => simp [intOf]; omega
    · go_wp2_with fail
      go_ret
      exact ⟨ret_int (by rw [show S.falls a = a + m from firstFrom_eq _ _ _ _ (by omega) (by omega) HN.out fun _ => by omega]; omega), bTrans HB.out hbel⟩

end Go.Proofs.YthnojgdckkdcgaaGreatDoor


namespace Go.Proofs.YthnojgdckkdcgaaGreatDoor
open Go.RowKit Go.Sort

end Go.Proofs.YthnojgdckkdcgaaGreatDoor


namespace Go.Proofs.YthnojgdckkdcgaaGreatDoor
open Go.RowKit Go.Sort
end Go.Proofs.YthnojgdckkdcgaaGreatDoor


namespace Go.Proofs.YthnojgdckkdcgaaGreatDoor
open Go.RowKit Go.Sort

/-- what open hands back where the shaft is valid and the question is one -/
theorem open_yes (Ar Af : Option Addr) (cr cf : Nat) (S : Sh) (w : World) (ok : S.Ok) (hS : ShAt w Ar Af S) :
    Calls Tryz.prog 94 #[.agg #[.slice Ar S.nr cr, .slice Af S.nf cf, .int .i64 S.deep, .int .i64 S.haul, .int .i64 S.rest], .bool true] w fun e w' => e = .returned (.tuple #[.agg #[.slice Ar S.nr cr, .slice Af S.nf cf, .int .i64 S.deep, .int .i64 S.haul, .int .i64 S.rest], .int .i64 0]) ∧ Below w.heap.size w w' := by
  have hb0 := bAlloc (bAlloc (Below.refl w.heap.size w) (.cells #[.slice Ar S.nr cr, .slice Af S.nf cf, .int .i64 S.deep, .int .i64 S.haul, .int .i64 S.rest] 68)) (.cells #[.slice none 0 0, .slice none 0 0, .int .i64 0, .int .i64 0, .int .i64 0] 150)
  have HS := Lib.hid (hS.mono hb0)
  have HB := Lib.hid hb0
  have hr : S.nr ≤ 9223372036854775807 := by have := ok.nr; omega
  have hf : S.nf ≤ 9223372036854775807 := by have := ok.nf; omega
  have he := Sh.err_ok ok
  clear hS hb0
  go_enter Tryz.func94, Tryz.ntmps94
  go_wp2_with (go_at_call 138; refine (check_any _ _ _ _ S _ hr hf HS.out).mono ?_; rintro e w1 ⟨rfl, hb1⟩; obtain ⟨bc, bf⟩ := bcell hb1; have hz := hb1.size; simp only [World.size_alloc] at hz; have hy : w.heap.size < w1.heap.size := (by omega); have hy2 : w.heap.size + 1 < w1.heap.size := (by omega))
  exact bodyPost_ret (v := .tuple #[.agg #[.slice Ar S.nr cr, .slice Af S.nf cf, .int .i64 S.deep, .int .i64 S.haul, .int .i64 S.rest], .int .i64 0]) (by simp [results, Tryz.results94, go_sem, *]) rfl ⟨rfl, by (repeat (first | (with_reducible exact Below.refl _ _) | (with_reducible refine bAlloc ?_ _) | (with_reducible refine bDrew ?_) | (with_reducible refine bGrow ?_ _ _) | (with_reducible refine bSet ?_ ?_ _; (first | exact Nat.le_refl _ | exact Nat.le_add_right _ _ | (simp; omega))) | (with_reducible refine bTrans ?_ (by assumption))))⟩
/-- what open hands back else -/
theorem open_no (Ar Af : Option Addr) (cr cf : Nat) (S : Sh) (is : Bool) (w : World) (hr : S.nr ≤ 9223372036854775807) (hf : S.nf ≤ 9223372036854775807) (hS : ShAt w Ar Af S) (E : Int) (hE : (¬ S.Ok ∧ E = 20) ∨ (S.Ok ∧ is = false ∧ E = 1)) :
    Calls Tryz.prog 94 #[.agg #[.slice Ar S.nr cr, .slice Af S.nf cf, .int .i64 S.deep, .int .i64 S.haul, .int .i64 S.rest], .bool is] w fun e w' => e = .returned (.tuple #[.agg #[.slice none 0 0, .slice none 0 0, .int .i64 0, .int .i64 0, .int .i64 0], .int .i64 E]) ∧ Below w.heap.size w w' := by
  have hb0 := bAlloc (bAlloc (Below.refl w.heap.size w) (.cells #[.slice Ar S.nr cr, .slice Af S.nf cf, .int .i64 S.deep, .int .i64 S.haul, .int .i64 S.rest] 68)) (.cells #[.slice none 0 0, .slice none 0 0, .int .i64 0, .int .i64 0, .int .i64 0] 150)
  have HS := Lib.hid (hS.mono hb0)
  have HB := Lib.hid hb0
  clear hS hb0
  rcases hE with ⟨ok, rfl⟩ | ⟨ok, rfl, rfl⟩
  · have he := Sh.err_bad ok
    go_enter Tryz.func94, Tryz.ntmps94
    go_wp2_with (go_at_call 138; refine (check_any _ _ _ _ S _ hr hf HS.out).mono ?_; rintro e w1 ⟨rfl, hb1⟩; obtain ⟨bc, bf⟩ := bcell hb1; have hz := hb1.size; simp only [World.size_alloc] at hz; have hy : w.heap.size < w1.heap.size := (by omega); have hy2 : w.heap.size + 1 < w1.heap.size := (by omega))
    exact bodyPost_ret (v := .tuple #[.agg #[.slice none 0 0, .slice none 0 0, .int .i64 0, .int .i64 0, .int .i64 0], .int .i64 20]) (by simp [results, Tryz.results94, go_sem, *]) rfl ⟨rfl, by (repeat (first | (with_reducible exact Below.refl _ _) | (with_reducible refine bAlloc ?_ _) | (with_reducible refine bDrew ?_) | (with_reducible refine bGrow ?_ _ _) | (with_reducible refine bSet ?_ ?_ _; (first | exact Nat.le_refl _ | exact Nat.le_add_right _ _ | (simp; omega))) | (with_reducible refine bTrans ?_ (by assumption))))⟩
  · have he := Sh.err_ok ok
    go_enter Tryz.func94, Tryz.ntmps94
    go_wp2_with (go_at_call 138; refine (check_any _ _ _ _ S _ hr hf HS.out).mono ?_; rintro e w1 ⟨rfl, hb1⟩; obtain ⟨bc, bf⟩ := bcell hb1; have hz := hb1.size; simp only [World.size_alloc] at hz; have hy : w.heap.size < w1.heap.size := (by omega); have hy2 : w.heap.size + 1 < w1.heap.size := (by omega))
    exact bodyPost_ret (v := .tuple #[.agg #[.slice none 0 0, .slice none 0 0, .int .i64 0, .int .i64 0, .int .i64 0], .int .i64 1]) (by simp [results, Tryz.results94, go_sem, *]) rfl ⟨rfl, by (repeat (first | (with_reducible exact Below.refl _ _) | (with_reducible refine bAlloc ?_ _) | (with_reducible refine bDrew ?_) | (with_reducible refine bGrow ?_ _ _) | (with_reducible refine bSet ?_ ?_ _; (first | exact Nat.le_refl _ | exact Nat.le_add_right _ _ | (simp; omega))) | (with_reducible refine bTrans ?_ (by assumption))))⟩
end Go.Proofs.YthnojgdckkdcgaaGreatDoor


namespace Go.Proofs.YthnojgdckkdcgaaGreatDoor
open Go.RowKit Go.Sort

section
variable {P : Program} {ops : Array Oper} {md : Region.Mode}

/-! ### The frame behind some of the operations -/
/-! ### Operations that are calm: one value in every world that is the first one with new blocks; what they leave is that with new blocks -/
attribute [go_sem] Oper.calm Oper.calmAt Oper.calmUpon
/-! ### Whoever looks at a slot, and whoever writes it, wait for each other -/
end
end Go.Proofs.YthnojgdckkdcgaaGreatDoor


namespace Go.Proofs.YthnojgdckkdcgaaGreatDoor
open Go.RowKit Go.Sort
section
variable {P : Program} {ops : Array Oper} {md : Region.Mode}
theorem frameOf_wrote {V : Nat → Value} {L : Nat → Bool} {a : Act} {p n : Nat} {d : Tmp} (hp : p < n) (hL : L p = true) (hd : dstOf ops p = some d) (ho : ∀ k, k ≠ p → dstOf ops k ≠ some d) (hs : d < a.tmps.size) : (frameOf ops V L a n).tmps[d]? = some (V p) := by
  rw [frameOf_slot_up (i := p + 1) (fun k hk _ => ho k (by omega)) n hp]
  rw [show frameOf ops V L a (p + 1) = if L p then (frameOf ops V L a p).put (dstOf ops p) (V p) else frameOf ops V L a p from rfl, if_pos hL, hd]
  simp [Act.put, frameOf_size, hs]
theorem frameOf_idle {V V' : Nat → Value} {L M : Nat → Bool} {a : Act} : ∀ k, (∀ j, j < k → (L j = M j ∧ (L j = true → V j = V' j)) ∨ dstOf ops j = none) → frameOf ops V L a k = frameOf ops V' M a k
  | 0, _ => rfl
  | k + 1, h => by
    have ih := frameOf_idle (a := a) k (fun j hj => h j (by omega))
    unfold frameOf
    rw [ih]
    rcases h k (by omega) with ⟨h1, h2⟩ | h1
    · rw [← h1]
      split
      · rename_i h3; rw [h2 h3]
      · rfl
    · rw [h1]; simp [Act.put]
theorem bSetRow {w x : World} (h : Below w.heap.size w x) {b : Nat} (hb : w.heap.size ≤ b) (cs : Array Value) : Below w.heap.size w (x.setRow b cs) :=
  ⟨h.os, h.tape, h.output, by simpa [World.setRow] using h.size, fun k hk => (setRow_other x b k cs (by omega)).trans (h.block k hk)⟩
def newB (md : Region.Mode) (ops : Array Oper) (p q : Nat) (d tx : Tmp) : Bool :=
  orderedB md ops && decide (p < ops.size) && decide (q < ops.size) && dstOf ops p == some d && dstOf ops q == none && waits md ops q p && !(tx == d) && !(p == q) &&
  ((List.range ops.size).all fun i => (i == q || !looksB ops i d) && (i == p || !(dstOf ops i == some d)) && (!(dstOf ops i == some tx) || waits md ops q i))
theorem wp_region_new {rid : Nat} {Q : Exit → Act → World → Prop} {a : Act} {w : World} {l : List Oper} (p q : Nat) (d tx : Tmp) (T : TypeId) (z : Array Value) (hm : P.follows .mixedOrders = true) (hB : newB .any l.toArray p q d tx = true)
    {op oq : Oper} (hop : l[p]? = some op) (hop2 : op.op = .alloc T) (hop3 : op.guard = none) (hoq : l[q]? = some oq) (hoq2 : oq.op = .store T (.tmp d) (.tmp tx)) (hoq3 : oq.guard = none)
    (hz : ∀ w, (zeroValue T).run P w = .ok (.agg z) w) (hi : (P.info? T).map (·.size) = some z.size) (hd : d < a.tmps.size)
    (h : wpCalm P l.toArray w (fun k => k == p || k == q) (fun a' => ∃ cs : Array Value, a'.eval (.tmp tx) = .agg cs ∧ cs.size = z.size ∧ cs.all (·.oneCell') = true ∧ ∀ b w', Below w.heap.size w w' → w.heap.size ≤ b → b < w'.heap.size → w'.heap[b]? = some (.cells cs T (0, 0)) →
      Q .normal (a'.put (some d) (.pointer (some ⟨b, 0, none⟩))) w') 0 l a) : (Code.region rid l.toArray true).wp P Q a w := by
  unfold newB at hB
  simp only [Bool.and_eq_true, decide_eq_true_eq, List.all_eq_true, List.mem_range, beq_iff_eq, Bool.not_eq_true', beq_eq_false_iff_ne, Bool.or_eq_true] at hB
  obtain ⟨⟨⟨⟨⟨⟨⟨⟨hord, hpn⟩, hqn⟩, hdp⟩, hdq⟩, hqp⟩, htd⟩, hpq⟩, hall⟩ := hB
  have H := ordered_of hord
  have hop' : l.toArray[p]? = some op := by simpa using hop
  have hoq' : l.toArray[q]? = some oq := by simpa using hoq
  have hopd : op.dst = some d := by simpa [dstOf, hop'] using hdp
  have hoqd : oq.dst = none := by simpa [dstOf, hoq'] using hdq
  have honly : ∀ k, k ≠ p → dstOf l.toArray k ≠ some d := fun k hk hd' => by
    have hkn : k < l.toArray.size := by
      simp only [dstOf] at hd'
      rcases Nat.lt_or_ge k l.toArray.size with h' | h'
      · exact h'
      · simp [Array.getElem?_eq_none h'] at hd'
    rcases (hall k hkn).1.2 with h1 | h1
    · exact hk h1
    · exact h1 hd'
  obtain ⟨V, _, hval, cs, hcs1, hcs2, hcs3, hQ⟩ := wpCalm_values a l 0 (fun _ => undef) (fun j => by simp) h
  have hlen : 0 + l.length = l.toArray.size := by simp
  rw [hlen] at hcs1 hQ
  let W : Nat → Nat → Value := fun b k => if k = p then .pointer (some ⟨b, 0, none⟩) else V k
  have hWV : ∀ b k, k ≠ p → W b k = V k := fun b k hk => if_neg hk
  have hWp : ∀ b, W b p = .pointer (some ⟨b, 0, none⟩) := fun b => if_pos rfl
  refine wp_region_any hm ?_
  refine wpAny_inv (fun listed a' w' => ∃ b, a' = frameOf l.toArray (W b) (fun k => listed.getD k false) a l.toArray.size ∧ Below w.heap.size w w' ∧
    (listed.getD p false = true → w.heap.size ≤ b ∧ w'.heap[b]? = some (.cells (if listed.getD q false then cs else z) T (0, 0)))) ?_ ?_ _ _ _ _ (left_le _ _) Shut.none ⟨0, ?_, (Below.refl _ _).drew, fun hn => ?_⟩
  · intro listed a' w' i hs ⟨b, he, hb, hblk⟩ hr
    subst he
    obtain ⟨hun, oi, hoi, _⟩ := mem_ready.1 hr
    have hi' : i < l.toArray.size := (Array.getElem?_eq_some_iff.1 hoi).1
    have hil : i < listed.size := by rw [hs.size]; exact hi'
    have hunf := listed_both hun
    by_cases hip : i = p
    · subst hip
      obtain rfl : op = oi := Option.some.inj (hop'.symm.trans hoi)
      have hq0 : listed.getD q false = false := by
        cases e : listed.getD q false with
        | false => rfl
        | true => have := hs.shut q i e hqp; rw [hunf] at this; cases this
      unfold Go.wpOp
      simp only [hoi, Region.wanted, hop3, if_true]
      refine .inl ?_
      unfold Oper.wp execOp
      simp only [hop2, Instr.alloc, Sem.run_bind, hz, Result.andThen_ok]
      refine ⟨w'.heap.size, ?_, bAlloc hb (.cells z T), fun _ => ⟨hb.size, ?_⟩⟩
      · rw [H.frame_put hs hi' hun, hdp, hWp, hopd]
        rw [show frameOf l.toArray (W w'.heap.size) (fun k => listed.getD k false) a l.toArray.size = frameOf l.toArray (W b) (fun k => listed.getD k false) a l.toArray.size from
          frameOf_congr _ (fun j _ => ⟨rfl, fun hj => by rw [hWV _ j (fun e => by subst e; rw [hunf] at hj; cases hj), hWV _ j (fun e => by subst e; rw [hunf] at hj; cases hj)]⟩)]
      · rw [getD_set_ne false hpq, hq0]
        exact heap_alloc_new w' _
    · have hsetp : (listed.setIfInBounds i true).getD p false = listed.getD p false := getD_set_ne false hip
      by_cases hiq : i = q
      · subst hiq
        obtain rfl : oq = oi := Option.some.inj (hoq'.symm.trans hoi)
        have hpl : listed.getD p false = true := waits_listed hr hqp
        obtain ⟨hbb, hblk⟩ := hblk hpl
        rw [hunf] at hblk
        have e1 : (frameOf l.toArray (W b) (fun k => listed.getD k false) a l.toArray.size).eval (.tmp d) = .pointer (some ⟨b, 0, none⟩) := by
          have := frameOf_wrote (V := W b) (L := fun k => listed.getD k false) (a := a) hpn hpl hdp honly hd
          rw [hWp] at this
          show Array.getD _ d undef = _
          rw [Array.getD_eq_getD_getElem?, this]; rfl
        have e2 : (frameOf l.toArray (W b) (fun k => listed.getD k false) a l.toArray.size).eval (.tmp tx) = .agg cs := by
          rw [← hcs1]
          refine eval_of_slots fun t ht => ?_
          obtain rfl : tx = t := by injection ht
          refine frameOf_slot (i := l.toArray.size) (fun k hk hdk => ?_) _ (Nat.le_refl _)
          have hw : waits .any l.toArray i k = true := by
            rcases (hall k hk).2 with h1 | h1
            · exact absurd hdk h1
            · exact h1
          have hkp : k ≠ p := fun e => by subst e; rw [hdp] at hdk; exact htd (Option.some.inj hdk).symm
          have hkq : k ≠ i := fun e => by subst e; rw [hdq] at hdk; cases hdk
          exact ⟨waits_listed hr hw, by simp [hkp, hkq], hWV b k hkp⟩
        unfold Go.wpOp
        simp only [hoi, Region.wanted, hoq3, if_true]
        refine .inl (wp_store_row T (.tmp d) (.tmp tx) hoq2 b cs e1 e2 T z hblk (by rw [hcs2]; exact hi) hcs2.symm hcs3 ?_)
        refine ⟨b, ?_, bSetRow hb hbb cs, fun _ => ⟨hbb, ?_⟩⟩
        · rw [H.frame_put hs hi' hun, hdq, hoqd]; rfl
        · rw [set_same hil]
          exact setRow_heap w' b z cs T _ hblk
      · have hsk : (i == p || i == q) = false := by simp [hip, hiq]
        have hsetq : (listed.setIfInBounds i true).getD q false = listed.getD q false := getD_set_ne false hiq
        refine CalmAt.wpOp hoi (fun cs b => Region.noSelect_spec H.sel i oi cs b hoi) (hval i oi (Nat.zero_le _) (by simpa using hi') hoi hsk) hb (H.sees hs hoi hr (fun k hk hk2 d' hd' => ?_) (fun k hk => hWV b k (fun e => by subst e; simp at hk))) (fun w'' hb' => ⟨b, ?_, bTrans hb hb', fun hpl => ?_⟩)
        · have hk2' : k = p ∨ k = q := by
            simp only [Bool.not_eq_false', Bool.or_eq_true, beq_iff_eq] at hk2; exact hk2
          rcases hk2' with rfl | rfl
          · obtain rfl : d = d' := Option.some.inj (hdp.symm.trans hd')
            rcases (hall i hi').1.1 with h1 | h1
            · exact absurd h1 hiq
            · exact h1
          · rw [hdq] at hd'; cases hd'
        · have e1 : dstOf l.toArray i = oi.dst := by simp [dstOf, hoi]
          rw [H.frame_put hs hi' hun, e1, hWV b i hip]
        · rw [hsetp] at hpl
          obtain ⟨hbb, hblk⟩ := hblk hpl
          rw [hsetq]
          exact ⟨hbb, (hb'.block b (Array.getElem?_eq_some_iff.1 hblk).1).trans hblk⟩
  · intro listed a' w' hs ⟨b, he, hb, hblk⟩ hr
    have hall' := H.all hs hr
    obtain ⟨hbb, hblk⟩ := hblk (hall' p hpn)
    rw [hall' q hqn, if_pos rfl] at hblk
    have := hQ b w' hb hbb (Array.getElem?_eq_some_iff.1 hblk).1 hblk
    rw [he]
    refine Eq.mp ?_ this
    congr 1
    rw [show frameOf l.toArray (W b) (fun k => listed.getD k false) a l.toArray.size = frameOf l.toArray (W b) (fun _ => true) a l.toArray.size from frameOf_congr _ (fun j hj => ⟨hall' j hj, fun _ => rfl⟩)]
    rw [frameOf_put (L := fun k => !(k == p)) (M := fun _ => true) (i := p) hpn (by simp) rfl (fun k hk => by simp [hk]) (fun k d' hk _ hd' => by
      obtain rfl : d = d' := Option.some.inj (hdp.symm.trans hd')
      exact honly k (by omega)), hdp, hWp]
    congr 1
    refine frameOf_idle _ (fun j hj => ?_)
    by_cases hjq : j = q
    · subst hjq; exact .inr hdq
    · refine .inl ⟨by simp [hjq], fun hj' => (hWV b j (fun e => by subst e; simp at hj')).symm⟩
  · symm
    have : ∀ k, frameOf l.toArray (W 0) (fun k => (Array.replicate l.toArray.size false).getD k false) a k = a := fun k => by
      induction k with
      | zero => rfl
      | succ k ih => rw [frameOf, ih, if_neg]; rcases Nat.lt_or_ge k l.length with h' | h' <;> simp [h']
    exact this _
  · have hpn' : p < l.length := by simpa using hpn
    simp [hpn'] at hn
end
end Go.Proofs.YthnojgdckkdcgaaGreatDoor


namespace Go.Proofs.YthnojgdckkdcgaaGreatDoor
open Go.RowKit Go.Sort
set_option maxHeartbeats 1000000 in
theorem ring_any (Ar Af : Option Addr) (cr cf : Nat) (S : Sh) (w : World) (ok : S.Ok) (hS : ShAt w Ar Af S) (n : Int) (d : Nat) (hn : n = d) (h1 : 1 ≤ d) (hd : d ≤ S.nf) :
    Calls Tryz.prog 207 #[.agg #[.slice Ar S.nr cr, .slice Af S.nf cf, .int .i64 S.deep, .int .i64 S.haul, .int .i64 S.rest], .int .i64 n] w fun e w' => e = .returned (.agg #[.int .i64 (S.ringc d), .int .i64 S.rest]) ∧ Below w.heap.size w w' := by
  subst hn
  have hb0 := bAlloc (bAlloc (Below.refl w.heap.size w) (.cells #[.slice Ar S.nr cr, .slice Af S.nf cf, .int .i64 S.deep, .int .i64 S.haul, .int .i64 S.rest] 150)) (.cells #[.int .i64 0, .int .i64 0] 203)
  have HS := Lib.hid (hS.mono hb0)
  have HB := Lib.hid hb0
  clear hS hb0
  have hi : d - 1 < S.nf := by omega
  have hr := ok.rk hi
  have hp0 := hr.t0
  have hp1 := hr.t1
  have hnf := ok.nf
  obtain ⟨m0, m1⟩ := sh_mul_bd (a := d) (b := S.haul) (by omega) (by omega) ok.l0 ok.l1
  go_enter Tryz.func207, Tryz.ntmps207
  go_wp2_with fail
  have e1 : IntKind.i64.wrap ((d : Int) - 1) = (d : Int) - 1 := IntWalk.i64_in _ (by omega)
  have e2 : IntKind.i64.wrap ((d : Int) * S.haul) = (d : Int) * S.haul := IntWalk.i64_in _ (by omega)
  have e3 : IntKind.i64.wrap ((S.rk (d - 1)).seat + (d : Int) * S.haul) = (S.rk (d - 1)).seat + (d : Int) * S.haul := IntWalk.i64_in _ (by omega)
  have hdd : (d : Int) - 1 = (d - 1 : Nat) := by omega
  have HD := Lib.hid hdd
  clear hdd
  refine wp_region_last 15 (by kernel_rfl) (by kernel_rfl) rfl ?_
  repeat (first | (refine wpCalm_skip rfl ?_) | (refine wpCalm_step rfl (fun K hK => ?_); go_simp; (first | (refine hK _ ?_; clear hK K) | (apply Exists.intro; refine ⟨fun _ => ?_, hK _ ?_⟩; (go_at_call 195; exact (rock_any _ _ _ _ S _ ok (HS.out.mono (below_regrown _ _ _)) _ (d - 1) HD.out hi)); clear hK K))))
  refine wpCalm_nil ?_
  clear e1 e2 e3
  intro w1 hb1
  obtain ⟨bc, bf⟩ := bcell hb1
  have hz := hb1.size
  simp only [World.size_alloc] at hz
  have hy2 : w.heap.size + 1 < w1.heap.size := hz
  have hy : w.heap.size < w1.heap.size := by omega
  go_wp2_with fail
  exact bodyPost_ret (v := .agg #[.int .i64 (S.ringc d), .int .i64 S.rest]) (by simp [results, Tryz.results207, go_sem, *]; rfl) rfl ⟨rfl, by (repeat (first | (with_reducible exact Below.refl _ _) | (with_reducible refine bAlloc ?_ _) | (with_reducible refine bDrew ?_) | (with_reducible refine bGrow ?_ _ _) | (with_reducible refine bSet ?_ ?_ _; (first | exact Nat.le_refl _ | exact Nat.le_add_right _ _ | (simp; omega))) | (with_reducible refine bTrans ?_ (by assumption))))⟩
theorem price_bd {S : Sh} (ok : S.Ok) {i : Nat} (hi : i < S.nf) : 0 ≤ S.price i ∧ S.price i ≤ 207 := by
  have hr := ok.rk hi
  have h1 := hr.p0
  have h2 := hr.p1
  have hnf := ok.nf
  obtain ⟨m0, m1⟩ := sh_mul_bd (a := i) (b := S.deep) (by omega) (by omega) ok.d0 ok.d1
  unfold Sh.price; omega
theorem digs_bd {S : Sh} (ok : S.Ok) {k : Nat} (hk : k ≤ S.nf) : 0 ≤ sumTo S.price k ∧ sumTo S.price k ≤ 2484 ∧ 0 ≤ sumTo S.hour k ∧ sumTo S.hour k ≤ 108 := by
  have h1 := sumTo_bd (f := S.price) (n := k) (lo := 0) (hi := 207) fun i hi => price_bd ok (by omega)
  have h2 := sumTo_bd (f := S.hour) (n := k) (lo := 0) (hi := 9) fun i hi => ⟨(ok.rk (by omega)).h0, (ok.rk (by omega)).h1⟩
  have hnf := ok.nf
  omega
set_option maxHeartbeats 1000000 in
theorem dig_any (Ar Af : Option Addr) (cr cf : Nat) (S : Sh) (w : World) (ok : S.Ok) (hS : ShAt w Ar Af S) (i : Nat) (hi : i < S.nf) :
    Calls Tryz.prog 169 #[.agg #[.slice Ar S.nr cr, .slice Af S.nf cf, .int .i64 S.deep, .int .i64 S.haul, .int .i64 S.rest], .int .i64 i] w fun e w' => e = .returned (.agg #[.int .i64 (S.price i), .int .i64 (S.hour i)]) ∧ Below w.heap.size w w' := by
  have hb0 := bAlloc (bAlloc (Below.refl w.heap.size w) (.cells #[.slice Ar S.nr cr, .slice Af S.nf cf, .int .i64 S.deep, .int .i64 S.haul, .int .i64 S.rest] 150)) (.cells #[.int .i64 0, .int .i64 0] 203)
  have HS := Lib.hid (hS.mono hb0)
  have HB := Lib.hid hb0
  clear hS hb0
  have hr := ok.rk hi
  have hp0 := hr.p0
  have hp1 := hr.p1
  have hnf := ok.nf
  obtain ⟨m0, m1⟩ := sh_mul_bd (a := i) (b := S.deep) (by omega) (by omega) ok.d0 ok.d1
  go_enter Tryz.func169, Tryz.ntmps169
  go_wp2_with (go_at_call 195; refine (rock_any _ _ _ _ S _ ok HS.out _ i rfl hi).mono ?_; rintro e w1 ⟨rfl, hb1⟩; obtain ⟨bc, bf⟩ := bcell hb1; have hz := hb1.size; simp only [World.size_alloc] at hz; have hy2 : w.heap.size + 1 < w1.heap.size := hz; have hy : w.heap.size < w1.heap.size := (by omega))
  exact bodyPost_ret (v := .agg #[.int .i64 (S.price i), .int .i64 (S.hour i)]) (by simp [results, Tryz.results169, go_sem, *]; exact ⟨rfl, rfl⟩) rfl ⟨rfl, by (repeat (first | (with_reducible exact Below.refl _ _) | (with_reducible refine bAlloc ?_ _) | (with_reducible refine bDrew ?_) | (with_reducible refine bGrow ?_ _ _) | (with_reducible refine bSet ?_ ?_ _; (first | exact Nat.le_refl _ | exact Nat.le_add_right _ _ | (simp; omega))) | (with_reducible refine bTrans ?_ (by assumption))))⟩
end Go.Proofs.YthnojgdckkdcgaaGreatDoor


namespace Go.Proofs.YthnojgdckkdcgaaGreatDoor
open Go.RowKit Go.Sort
set_option maxHeartbeats 2000000 in
theorem digging_any (Ar Af : Option Addr) (cr cf : Nat) (S : Sh) (w : World) (ok : S.Ok) (hS : ShAt w Ar Af S) :
    Calls Tryz.prog 137 #[.agg #[.slice Ar S.nr cr, .slice Af S.nf cf, .int .i64 S.deep, .int .i64 S.haul, .int .i64 S.rest]] w fun e w' => e = .returned (.agg #[.int .i64 (sumTo S.price S.nf), .int .i64 (sumTo S.hour S.nf)]) ∧ Below w.heap.size w w' := by
  have hb0 := bAlloc (Below.refl w.heap.size w) (.cells #[.slice Ar S.nr cr, .slice Af S.nf cf, .int .i64 S.deep, .int .i64 S.haul, .int .i64 S.rest] 150)
  have HS := Lib.hid (hS.mono hb0)
  have HB := Lib.hid hb0
  clear hS hb0
  have hnf := ok.nf
  go_enter Tryz.func137, Tryz.ntmps137
  go_wp2_with fail
  go_loopw [8] (fun i wr => ∃ k : Nat, k ≤ S.nf ∧ i = .int .i64 k ∧ Below (w.alloc (.cells #[.slice Ar S.nr cr, .slice Af S.nf cf, .int .i64 S.deep, .int .i64 S.haul, .int .i64 S.rest] 150)).heap.size (w.alloc (.cells #[.slice Ar S.nr cr, .slice Af S.nf cf, .int .i64 S.deep, .int .i64 S.haul, .int .i64 S.rest] 150)) wr ∧ w.heap.size + 1 < wr.heap.size ∧
    wr.cell? ⟨w.heap.size + 1, 0, none⟩ = some (.int .i64 (sumTo S.price k)) ∧ wr.cell? ⟨w.heap.size + 1, 1, none⟩ = some (.int .i64 (sumTo S.hour k)) ∧ wr.frozen? ⟨w.heap.size + 1, 0, none⟩ = false ∧ wr.frozen? ⟨w.heap.size + 1, 1, none⟩ = false) (fun i _ => S.nf - (intOf i).toNat)
  case atStart => exact ⟨0, Nat.zero_le _, rfl, (Below.refl _ _).alloc (Nat.le_refl _) _, by simp, by simp [go_sem, sumTo], by simp [go_sem, sumTo], by simp [go_sem], by simp [go_sem]⟩
  case round =>
    obtain ⟨k, hk, rfl, hbel, hsz, c0, c1, f0, f1⟩ := hrel
    obtain ⟨bc, bf⟩ := bcell hbel
    have hz := hbel.size
    simp only [World.size_alloc] at hz
    have hy : w.heap.size < wr.heap.size := hz
    obtain ⟨d0, d1, d2, d3⟩ := digs_bd ok hk
    have HS1 := Lib.hid (HS.out.mono hbel)
    by_cases hlt : k < S.nf
    · obtain ⟨p0, p1⟩ := price_bd ok hlt
      have q0 := (ok.rk hlt).h0
      have q1 := (ok.rk hlt).h1
      have hhr : S.hour k = (S.rk k).hours := rfl
      rw [← hhr] at q0 q1
      clear hhr
      go_wp2_with fail
      refine wp_region_last 5 (by kernel_rfl) (by kernel_rfl) rfl ?_
      repeat (first | (refine wpCalm_skip rfl ?_) | (refine wpCalm_step rfl (fun K hK => ?_); go_simp; (first | (refine hK _ ?_; clear hK K) | (apply Exists.intro; refine ⟨fun _ => ?_, hK _ ?_⟩; ((first | (go_at_call 169; exact (dig_any _ _ _ _ S _ ok (HS1.out.mono (below_regrown _ _ _)) k hlt)) | (go_at_call 168; exact plus_any _ _ _ _ _ (by omega)))); clear hK K))))
      refine wpCalm_nil ?_
      intro w1 hb1
      obtain ⟨bc1, bf1⟩ := bcell hb1
      have hz1 := hb1.size
      have hy1 : w.heap.size + 1 < w1.heap.size := by omega
      go_wp2_with fail
      go_roundw
      case rel => exact ⟨k + 1, by omega, by go_num, (((hbel.trans (hb1.mono hbel.size)).setCell (by simp) _).setCell (by simp) _), by simp [World.setCell]; omega, by simp [go_sem, *, sumTo], by simp [go_sem, *, sumTo], by simp [go_sem, *], by simp [go_sem, *]⟩
      case measure => simp [intOf]; omega
    · obtain rfl : k = S.nf := by omega
      go_wp2_with fail
      exact bodyPost_ret (v := .agg #[.int .i64 (sumTo S.price S.nf), .int .i64 (sumTo S.hour S.nf)]) (by simp [results, Tryz.results137, go_sem, *]) rfl ⟨rfl, by (repeat (first | (with_reducible exact Below.refl _ _) | (with_reducible refine bAlloc ?_ _) | (with_reducible refine bDrew ?_) | (with_reducible refine bGrow ?_ _ _) | (with_reducible refine bSet ?_ ?_ _; (first | exact Nat.le_refl _ | exact Nat.le_add_right _ _ | (simp; omega))) | (with_reducible refine bTrans ?_ (by assumption))))⟩
end Go.Proofs.YthnojgdckkdcgaaGreatDoor


namespace Go.Proofs.YthnojgdckkdcgaaGreatDoor
open Go.RowKit Go.Sort
theorem ringc_bd {S : Sh} (ok : S.Ok) {d : Nat} (h1 : 1 ≤ d) (hd : d ≤ S.nf) : -1 ≤ S.ringc d ∧ S.ringc d ≤ 207 := by
  have hr := ok.rk (i := d - 1) (by omega)
  have h1 := hr.t0
  have h2 := hr.t1
  have hnf := ok.nf
  obtain ⟨m0, m1⟩ := sh_mul_bd (a := d) (b := S.haul) (by omega) (by omega) ok.l0 ok.l1
  unfold Sh.ringc; omega
end Go.Proofs.YthnojgdckkdcgaaGreatDoor


namespace Go.Proofs.YthnojgdckkdcgaaGreatDoor
open Go.RowKit Go.Sort
end Go.Proofs.YthnojgdckkdcgaaGreatDoor


namespace Go.Proofs.YthnojgdckkdcgaaGreatDoor
open Go.RowKit Go.Sort
end Go.Proofs.YthnojgdckkdcgaaGreatDoor


namespace Go.Proofs.YthnojgdckkdcgaaGreatDoor
open Go.RowKit Go.Sort
end Go.Proofs.YthnojgdckkdcgaaGreatDoor


namespace Go.Proofs.YthnojgdckkdcgaaGreatDoor
open Go.RowKit Go.Sort
end Go.Proofs.YthnojgdckkdcgaaGreatDoor


namespace Go.Proofs.YthnojgdckkdcgaaGreatDoor
open Go.RowKit Go.Sort
theorem ring_nn {S : Sh} (ok : S.Ok) {d : Nat} (h1 : 1 ≤ d) (hd : d ≤ S.nf) (hr : S.restsB d = true) : 0 ≤ S.ringc d ∧ S.ringc d ≤ 207 := by
  obtain ⟨b0, b1⟩ := ringc_bd ok h1 hd
  have h2 := (ok.rk (i := d - 1) (by omega)).t0
  have hnf := ok.nf
  obtain ⟨m0, m1⟩ := sh_mul_bd (a := d) (b := S.haul) (by omega) (by omega) ok.l0 ok.l1
  have h3 : (S.rk (d - 1)).seat ≠ -1 := by
    unfold Sh.restsB at hr; simpa using hr
  unfold Sh.ringc at *
  omega
end Go.Proofs.YthnojgdckkdcgaaGreatDoor


