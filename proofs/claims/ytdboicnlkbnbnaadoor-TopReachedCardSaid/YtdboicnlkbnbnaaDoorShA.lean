/- Walks and laws of shafts that this seat needs, taken out of my texts of the shafts' seat. No condition but those that each states. -/
import Derived.Test.YtdboicnlkbnbnaaDoorTools
import Derived.WalkKit
import Derived.WalkSpells
import Derived.WalkLawsBesides
import Derived.BigQuiet
import Derived.Lib.Hide
import Derived.Lib.QuietBelow
import Derived.Deep.RegionHeld3
import Derived.OwnWalk
import Derived.Laws.AppendOwn
import Derived.Laws.OwnMore
import Derived.Laws.IdiomCopy
import Derived.Deep.RegionLaw
import Derived.Lib.SliceRun
import Derived.ArgAppend
import Derived.RegionTactic
namespace Go.Proofs.YtdboicnlkbnbnaaDoor
open Go.RowKit Go.Sort
def Rock.bad (r : Rock) : Bool := !inR r.hours 0 9 || !inR r.pence 0 99 || !inR r.stand 0 12 || !inR r.seat 0 99 && r.seat != -1
theorem Rock.bad_iff {r : Rock} : r.bad = false ↔ r.Ok := by
  unfold Rock.bad
  simp only [Bool.or_eq_false_iff, Bool.not_eq_false', inR_iff, Bool.and_eq_false_iff, bne_eq_false_iff_eq]
  constructor
  · rintro ⟨⟨⟨⟨a, b⟩, ⟨c, d⟩⟩, ⟨e, f⟩⟩, g⟩
    refine ⟨a, b, c, d, e, f, ?_, ?_⟩ <;> rcases g with g | g <;> omega
  · intro h
    refine ⟨⟨⟨⟨h.h0, h.h1⟩, ⟨h.p0, h.p1⟩⟩, ⟨h.s0, h.s1⟩⟩, ?_⟩
    have := h.t0; have := h.t1
    by_cases e : r.seat = -1
    · exact .inr e
    · exact .inl ⟨by omega, by omega⟩
theorem within_any (n lo hi : Int) (w : World) :
    Calls Tryd.prog 52 #[.int .i64 n, .int .i64 lo, .int .i64 hi] w fun e w' => e = .returned (.bool (inR n lo hi)) ∧ w = w' := by
  go_enter Tryd.func52, Tryd.ntmps52
  by_cases h1 : lo ≤ n <;> by_cases h2 : n ≤ hi
  all_goals
    go_wp2
    go_ret
    first
      | exact ⟨ret_bool (inR_t (by omega)).symm, rfl⟩
      | exact ⟨ret_bool (inR_f (by omega)).symm, rfl⟩
theorem within02_any (n lo hi : Int) (w : World) :
    Calls Tryd.prog 21 #[.int .i64 n, .int .i64 lo, .int .i64 hi] w fun e w' => e = .returned (.bool (inR n lo hi)) ∧ w = w' := by
  go_enter Tryd.func21, Tryd.ntmps21
  go_wp2_with (go_at_call 19; refine (Within01_any _ _ _ _).mono ?_; rintro e w' ⟨rfl, rfl⟩)
  go_ret
  exact ⟨rfl, rfl⟩
theorem bad_cases (r : Rock) : (inR r.hours 0 9 = false ∧ r.bad = true) ∨ (inR r.hours 0 9 = true ∧ inR r.pence 0 99 = false ∧ r.bad = true) ∨
    (inR r.hours 0 9 = true ∧ inR r.pence 0 99 = true ∧ inR r.stand 0 12 = false ∧ r.bad = true) ∨
    (inR r.hours 0 9 = true ∧ inR r.pence 0 99 = true ∧ inR r.stand 0 12 = true ∧ inR r.seat 0 99 = true ∧ r.bad = false) ∨
    (inR r.hours 0 9 = true ∧ inR r.pence 0 99 = true ∧ inR r.stand 0 12 = true ∧ inR r.seat 0 99 = false ∧ ∃ b, (r.seat != -1) = b ∧ r.bad = b) := by
  unfold Rock.bad
  cases inR r.hours 0 9 <;> cases inR r.pence 0 99 <;> cases inR r.stand 0 12 <;> cases inR r.seat 0 99 <;> cases (r.seat != -1) <;> simp
theorem check1_any (r : Rock) (w : World) :
    Calls Tryd.prog 51 #[.agg #[.int .i64 r.hours, .int .i64 r.pence, .int .i64 r.stand, .int .i64 r.seat]] w fun e w' => e = .returned (.bool r.bad) ∧ Below w.heap.size w w' := by
  rcases bad_cases r with ⟨h1, hr⟩ | ⟨h1, h2, hr⟩ | ⟨h1, h2, h3, hr⟩ | ⟨h1, h2, h3, h4, hr⟩ | ⟨h1, h2, h3, h4, b, h5, hr⟩
  case inr.inr.inr.inr =>
    cases b
    all_goals
      have HR := Lib.hid hr
      clear hr
      go_enter Tryd.func51, Tryd.ntmps51
      go_wp2_with (go_at_call 52; refine (within_any _ _ _ _).mono ?_; rintro e w' ⟨rfl, rfl⟩)
      go_ret
      exact ⟨ret_bool HR.out.symm, (Below.refl _ _).alloc (Nat.le_refl _) _⟩
  all_goals
    have HR := Lib.hid hr
    clear hr
    go_enter Tryd.func51, Tryd.ntmps51
    go_wp2_with (go_at_call 52; refine (within_any _ _ _ _).mono ?_; rintro e w' ⟨rfl, rfl⟩)
    go_ret
    exact ⟨ret_bool HR.out.symm, (Below.refl _ _).alloc (Nat.le_refl _) _⟩
/-- what slices.IndexFunc returns says whether one was found -/
def Found (b : Bool) (w : World) (e : Ending) (w' : World) : Prop := ∃ k : Int, e = .returned (.int .i64 k) ∧ decide (0 ≤ k) = b ∧ Below w.heap.size w w'
set_option maxHeartbeats 400000 in
theorem indexRocks (A : Option Addr) (n c : Nat) (f : Nat → Rock) (w : World) (hn : n ≤ 9223372036854775807) (hr : RocksAt w A n f) :
    Calls Tryd.prog 61 #[.slice A n c, .func (.func 51) #[] #[]] w (Found (anyB (fun i => (f i).bad) n) w) := by
  have HC := Lib.hid hr
  clear hr
  go_enter Tryd.func61, Tryd.ntmps61
  go_wp2_with fail
  go_loopw [5, 8] (fun _ i wr => ∃ k : Nat, k ≤ n ∧ i = .int .i64 k ∧ anyB (fun i => (f i).bad) k = false ∧ Below w.heap.size w wr) (fun _ i _ => n - (intOf i).toNat)
  case atStart => exact ⟨0, Nat.zero_le _, rfl, rfl, Below.refl _ _⟩
  case round =>
    obtain ⟨k, hk, rfl, hno, hbel⟩ := hrel
    have HN := Lib.hid hno
    clear hno
    by_cases hlt : k < n
    · rcases HC.out with h0 | ⟨b, o, hA, hb, hcell⟩
      · omega
      obtain ⟨c0, c1, c2, c3⟩ := hcell k hlt
      clear hcell
      subst hA
      obtain ⟨bc, bf⟩ := bcell hbel
      cases hbad : (f k).bad
      · go_wp2_with (go_at_call 51; refine (check1_any (f k) _).mono ?_; rintro e w' ⟨rfl, hb2⟩)
        go_roundw
        case rel => exact ⟨k + 1, by omega, by go_num, anyB_step HN.out hbad, bTrans hbel hb2⟩
        case measure => simp [intOf]; omega
      · go_wp2_with (go_at_call 51; refine (check1_any (f k) _).mono ?_; rintro e w' ⟨rfl, hb2⟩)
        go_ret
        exact ⟨k, rfl, by rw [anyB_hit hlt hbad]; simp, bTrans hbel hb2⟩
    · obtain rfl : k = n := by omega
      go_wp2_with fail
      go_ret
      exact ⟨-1, rfl, by simp [HN.out], hbel⟩
theorem containsRocks (A : Option Addr) (n c : Nat) (f : Nat → Rock) (w : World) (hn : n ≤ 9223372036854775807) (hr : RocksAt w A n f) :
    Calls Tryd.prog 54 #[.slice A n c, .func (.func 51) #[] #[]] w fun e w' => e = .returned (.bool (anyB (fun i => (f i).bad) n)) ∧ Below w.heap.size w w' := by
  go_enter Tryd.func54, Tryd.ntmps54
  go_wp2_with (go_at_call 61; refine (indexRocks _ _ _ f _ hn hr).mono ?_; rintro e w' ⟨k, rfl, hk, hb⟩; have HK := Lib.hid hk; clear hk)
  all_goals
    go_ret
    exact ⟨ret_bool (by rw [← HK.out]), hb⟩
theorem check2_any (n : Int) (a : Addr) (A : Option Addr) (k c : Nat) (w : World) (hk : k ≤ 9223372036854775807) (hc : w.cell? a = some (.slice A k c)) :
    Calls Tryd.prog 53 #[.int .i64 n, .pointer (some a)] w fun e w' => e = .returned (.bool (!inR n 0 (k - 1))) ∧ w = w' := by
  go_enter Tryd.func53, Tryd.ntmps53
  go_wp2_with (go_at_call 52; refine (within_any _ _ _ _).mono ?_; rintro e w' ⟨rfl, rfl⟩)
  go_ret
  exact ⟨rfl, rfl⟩
set_option maxHeartbeats 400000 in
theorem indexInts (A : Option Addr) (n c : Nat) (f : Nat → Int) (a : Addr) (A' : Option Addr) (k' c' : Nat) (w : World) (hn : n ≤ 9223372036854775807) (hk' : k' ≤ 9223372036854775807) (hr : IntsAt w A n f)
    (ha : a.block < w.heap.size) (hca : w.cell? a = some (.slice A' k' c')) :
    Calls Tryd.prog 62 #[.slice A n c, .func (.func 53) #[] #[.pointer (some a)]] w (Found (anyB (fun i => !inR (f i) 0 (k' - 1)) n) w) := by
  have HC := Lib.hid hr
  clear hr
  go_enter Tryd.func62, Tryd.ntmps62
  go_wp2_with fail
  go_loopw [5, 8] (fun _ i wr => ∃ k : Nat, k ≤ n ∧ i = .int .i64 k ∧ anyB (fun i => !inR (f i) 0 (k' - 1)) k = false ∧ Below w.heap.size w wr) (fun _ i _ => n - (intOf i).toNat)
  case atStart => exact ⟨0, Nat.zero_le _, rfl, rfl, Below.refl _ _⟩
  case round =>
    obtain ⟨k, hk, rfl, hno, hbel⟩ := hrel
    have HN := Lib.hid hno
    clear hno
    by_cases hlt : k < n
    · rcases HC.out with h0 | ⟨b, o, hA, hb, hcell⟩
      · omega
      have c0 := hcell k hlt
      clear hcell
      subst hA
      have hca' : wr.cell? a = some (.slice A' k' c') := (hbel.cell ha).trans hca
      obtain ⟨bc, bf⟩ := bcell hbel
      cases hbad : inR (f k) 0 (k' - 1)
      · go_wp2_with (go_at_call 53; refine (check2_any (f k) a A' k' c' _ hk' hca').mono ?_; rintro e w' ⟨rfl, rfl⟩)
        go_ret
        exact ⟨k, rfl, by rw [anyB_hit hlt (by simp [hbad])]; simp, hbel⟩
      · go_wp2_with (go_at_call 53; refine (check2_any (f k) a A' k' c' _ hk' hca').mono ?_; rintro e w' ⟨rfl, rfl⟩)
        go_roundw
        case rel => exact ⟨k + 1, by omega, by go_num, anyB_step HN.out (by simp [hbad]), hbel⟩
        case measure => simp [intOf]; omega
    · obtain rfl : k = n := by omega
      go_wp2_with fail
      go_ret
      exact ⟨-1, rfl, by simp [HN.out], hbel⟩
theorem containsInts (A : Option Addr) (n c : Nat) (f : Nat → Int) (a : Addr) (A' : Option Addr) (k' c' : Nat) (w : World) (hn : n ≤ 9223372036854775807) (hk' : k' ≤ 9223372036854775807) (hr : IntsAt w A n f)
    (ha : a.block < w.heap.size) (hca : w.cell? a = some (.slice A' k' c')) :
    Calls Tryd.prog 55 #[.slice A n c, .func (.func 53) #[] #[.pointer (some a)]] w
      fun e w' => e = .returned (.bool (anyB (fun i => !inR (f i) 0 (k' - 1)) n)) ∧ Below w.heap.size w w' := by
  go_enter Tryd.func55, Tryd.ntmps55
  go_wp2_with (go_at_call 62; refine (indexInts _ _ _ f a A' k' c' _ hn hk' hr ha hca).mono ?_; rintro e w' ⟨k, rfl, hk, hb⟩; have HK := Lib.hid hk; clear hk)
  all_goals
    go_ret
    exact ⟨ret_bool (by rw [← HK.out]), hb⟩
open Classical in
noncomputable def Sh.err (S : Sh) : Int := if S.Ok then 0 else 20
theorem Sh.err_ok {S : Sh} (h : S.Ok) : S.err = 0 := if_pos h
theorem Sh.err_bad {S : Sh} (h : ¬ S.Ok) : S.err = 20 := if_neg h
theorem foot_in {S : Sh} {i : Nat} : inR (S.foot i) 0 ((S.nr : Int) - 1) = true ↔ 0 ≤ S.foot i ∧ S.foot i < S.nr := by rw [inR_iff]; omega
/-- the tests of shafts.Check, in the order of the text -/
theorem check_cases (S : Sh) : ((4 : Int) < (S.nr : Int) ∧ S.err = 20) ∨ (¬ (4 : Int) < (S.nr : Int) ∧ anyB (fun i => (S.rock i).bad) S.nr = true ∧ S.err = 20) ∨
    (¬ (4 : Int) < (S.nr : Int) ∧ anyB (fun i => (S.rock i).bad) S.nr = false ∧ (12 : Int) < (S.nf : Int) ∧ S.err = 20) ∨
    (¬ (4 : Int) < (S.nr : Int) ∧ anyB (fun i => (S.rock i).bad) S.nr = false ∧ ¬ (12 : Int) < (S.nf : Int) ∧ anyB (fun i => !inR (S.foot i) 0 (S.nr - 1)) S.nf = true ∧ S.err = 20) ∨
    (¬ (4 : Int) < (S.nr : Int) ∧ anyB (fun i => (S.rock i).bad) S.nr = false ∧ ¬ (12 : Int) < (S.nf : Int) ∧ anyB (fun i => !inR (S.foot i) 0 (S.nr - 1)) S.nf = false ∧ inR S.deep 0 9 = false ∧ S.err = 20) ∨
    (¬ (4 : Int) < (S.nr : Int) ∧ anyB (fun i => (S.rock i).bad) S.nr = false ∧ ¬ (12 : Int) < (S.nf : Int) ∧ anyB (fun i => !inR (S.foot i) 0 (S.nr - 1)) S.nf = false ∧ inR S.deep 0 9 = true ∧ inR S.haul 0 9 = false ∧ S.err = 20) ∨
    (¬ (4 : Int) < (S.nr : Int) ∧ anyB (fun i => (S.rock i).bad) S.nr = false ∧ ¬ (12 : Int) < (S.nf : Int) ∧ anyB (fun i => !inR (S.foot i) 0 (S.nr - 1)) S.nf = false ∧ inR S.deep 0 9 = true ∧ inR S.haul 0 9 = true ∧ inR S.rest 0 9 = false ∧ S.err = 20) ∨
    (¬ (4 : Int) < (S.nr : Int) ∧ anyB (fun i => (S.rock i).bad) S.nr = false ∧ ¬ (12 : Int) < (S.nf : Int) ∧ anyB (fun i => !inR (S.foot i) 0 (S.nr - 1)) S.nf = false ∧ inR S.deep 0 9 = true ∧ inR S.haul 0 9 = true ∧ inR S.rest 0 9 = true ∧ S.err = 0) := by
  by_cases h1 : (4 : Int) < (S.nr : Int)
  · exact .inl ⟨h1, Sh.err_bad fun h => by have := h.nr; omega⟩
  refine .inr ?_
  cases h2 : anyB (fun i => (S.rock i).bad) S.nr
  case true =>
    obtain ⟨i, hi, hb⟩ := anyB_true.1 h2
    exact .inl ⟨h1, rfl, Sh.err_bad fun h => by have := Rock.bad_iff.2 (h.rock i hi); rw [hb] at this; cases this⟩
  refine .inr ?_
  by_cases h3 : (12 : Int) < (S.nf : Int)
  · exact .inl ⟨h1, rfl, h3, Sh.err_bad fun h => by have := h.nf; omega⟩
  refine .inr ?_
  cases h4 : anyB (fun i => !inR (S.foot i) 0 (S.nr - 1)) S.nf
  case true =>
    obtain ⟨i, hi, hb⟩ := anyB_true.1 h4
    exact .inl ⟨h1, rfl, h3, rfl, Sh.err_bad fun h => by simp only [foot_in.2 ⟨h.f0 i hi, h.f1 i hi⟩] at hb; cases hb⟩
  refine .inr ?_
  cases h5 : inR S.deep 0 9
  · exact .inl ⟨h1, rfl, h3, rfl, rfl, Sh.err_bad fun h => by rw [inR_t ⟨h.d0, h.d1⟩] at h5; cases h5⟩
  refine .inr ?_
  cases h6 : inR S.haul 0 9
  · exact .inl ⟨h1, rfl, h3, rfl, rfl, rfl, Sh.err_bad fun h => by rw [inR_t ⟨h.l0, h.l1⟩] at h6; cases h6⟩
  refine .inr ?_
  cases h7 : inR S.rest 0 9
  · exact .inl ⟨h1, rfl, h3, rfl, rfl, rfl, rfl, Sh.err_bad fun h => by rw [inR_t ⟨h.r0, h.r1⟩] at h7; cases h7⟩
  refine .inr ⟨h1, rfl, h3, rfl, rfl, rfl, rfl, Sh.err_ok ⟨by omega, by omega, fun i hi => Rock.bad_iff.1 (anyB_false.1 h2 i hi), fun i hi => ?_, fun i hi => ?_, (inR_iff.1 h5).1, (inR_iff.1 h5).2, (inR_iff.1 h6).1, (inR_iff.1 h6).2, (inR_iff.1 h7).1, (inR_iff.1 h7).2⟩⟩
  · have := anyB_false.1 h4 i hi; simp only [Bool.not_eq_false'] at this; exact (foot_in.1 this).1
  · have := anyB_false.1 h4 i hi; simp only [Bool.not_eq_false'] at this; exact (foot_in.1 this).2
set_option maxHeartbeats 1000000 in
theorem check_any (Ar Af : Option Addr) (cr cf : Nat) (S : Sh) (w : World) (hr : S.nr ≤ 9223372036854775807) (hf : S.nf ≤ 9223372036854775807) (hS : ShAt w Ar Af S) :
    Calls Tryd.prog 47 #[.agg #[.slice Ar S.nr cr, .slice Af S.nf cf, .int .i64 S.deep, .int .i64 S.haul, .int .i64 S.rest]] w fun e w' => e = .returned (.int .i64 S.err) ∧ Below w.heap.size w w' := by
  have hb0 := bAlloc (Below.refl w.heap.size w) (.cells #[.slice Ar S.nr cr, .slice Af S.nf cf, .int .i64 S.deep, .int .i64 S.haul, .int .i64 S.rest] 29)
  have HS := Lib.hid (hS.mono hb0)
  have HB := Lib.hid hb0
  clear hS hb0
  rcases check_cases S with ⟨h1, he⟩ | ⟨h1, h2, he⟩ | ⟨h1, h2, h3, he⟩ | ⟨h1, h2, h3, h4, he⟩ | ⟨h1, h2, h3, h4, h5, he⟩ | ⟨h1, h2, h3, h4, h5, h6, he⟩ | ⟨h1, h2, h3, h4, h5, h6, h7, he⟩ | ⟨h1, h2, h3, h4, h5, h6, h7, he⟩
  all_goals
    have HE := Lib.hid he
    clear he
    go_enter Tryd.func47, Tryd.ntmps47
    go_wp2_with (first | (go_at_call 54; refine (containsRocks _ _ _ S.rock _ hr HS.out.rocks).mono ?_; rintro e w1 ⟨rfl, hb1⟩; obtain ⟨bc1, bf1⟩ := bcell hb1; have hz1 := hb1.size; simp only [World.size_alloc] at hz1; have hy1 : w.heap.size < w1.heap.size := hz1; have HI := Lib.hid (HS.out.feet.mono hb1)) | (go_at_call 55; refine (containsInts _ _ _ S.foot ⟨w.heap.size, 0, none⟩ Ar S.nr cr _ hf hr HI.out (show w.heap.size < w1.heap.size from by omega) (by rw [bc1 _ _ (by simp)]; simp [go_sem])).mono ?_; rintro e w2 ⟨rfl, hb2⟩; obtain ⟨bc2, bf2⟩ := bcell hb2; have hz2 := hb2.size; have hy2 : w.heap.size < w2.heap.size := by omega) | (go_at_call 52; refine (within_any _ _ _ _).mono ?_; rintro e w' ⟨rfl, rfl⟩))
    go_ret
    refine ⟨ret_int HE.out.symm, ?_⟩
    first
      | exact HB.out
      | exact bTrans HB.out (by assumption)
      | exact bTrans (bTrans HB.out hb1) (by assumption)
theorem isRock_any (Ar Af : Option Addr) (cr cf : Nat) (S : Sh) (n : Int) (w : World) (hr : S.nr ≤ 9223372036854775807) :
    Calls Tryd.prog 22 #[.agg #[.slice Ar S.nr cr, .slice Af S.nf cf, .int .i64 S.deep, .int .i64 S.haul, .int .i64 S.rest], .int .i64 n] w fun e w' => e = .returned (.bool (inR n 0 (S.nr - 1))) ∧ Below w.heap.size w w' := by
  go_enter Tryd.func22, Tryd.ntmps22
  go_wp2_with (go_at_call 21; refine (within02_any _ _ _ _).mono ?_; rintro e w' ⟨rfl, rfl⟩)
  go_ret
  exact ⟨rfl, bAlloc (Below.refl _ _) _⟩
theorem rock_cases (r : Rock) : (inR r.hours 0 9 = false ∧ ¬ r.Ok) ∨ (inR r.hours 0 9 = true ∧ inR r.pence 0 99 = false ∧ ¬ r.Ok) ∨
    (inR r.hours 0 9 = true ∧ inR r.pence 0 99 = true ∧ inR r.stand 0 12 = false ∧ ¬ r.Ok) ∨
    (inR r.hours 0 9 = true ∧ inR r.pence 0 99 = true ∧ inR r.stand 0 12 = true ∧ inR r.seat (-1) 99 = false ∧ ¬ r.Ok) ∨
    (inR r.hours 0 9 = true ∧ inR r.pence 0 99 = true ∧ inR r.stand 0 12 = true ∧ inR r.seat (-1) 99 = true ∧ r.Ok) := by
  cases h1 : inR r.hours 0 9
  · exact .inl ⟨rfl, fun h => by rw [inR_t ⟨h.h0, h.h1⟩] at h1; cases h1⟩
  cases h2 : inR r.pence 0 99
  · exact .inr (.inl ⟨rfl, rfl, fun h => by rw [inR_t ⟨h.p0, h.p1⟩] at h2; cases h2⟩)
  cases h3 : inR r.stand 0 12
  · exact .inr (.inr (.inl ⟨rfl, rfl, rfl, fun h => by rw [inR_t ⟨h.s0, h.s1⟩] at h3; cases h3⟩))
  cases h4 : inR r.seat (-1) 99
  · exact .inr (.inr (.inr (.inl ⟨rfl, rfl, rfl, rfl, fun h => by rw [inR_t ⟨h.t0, h.t1⟩] at h4; cases h4⟩)))
  · exact .inr (.inr (.inr (.inr ⟨rfl, rfl, rfl, rfl, ⟨(inR_iff.1 h1).1, (inR_iff.1 h1).2, (inR_iff.1 h2).1, (inR_iff.1 h2).2, (inR_iff.1 h3).1, (inR_iff.1 h3).2, (inR_iff.1 h4).1, (inR_iff.1 h4).2⟩⟩)))
theorem err_foot {S : Sh} {k : Nat} (hk : k < S.nf) (h : inR (S.foot k) 0 (S.nr - 1) = false) : ¬ S.Ok := fun ok => by
  rw [foot_in.2 ⟨ok.f0 k hk, ok.f1 k hk⟩] at h; cases h
/-- the first test of steeningref02.Check -/
theorem head_cases (S : Sh) : ((4 : Int) < (S.nr : Int) ∧ ¬ S.Ok) ∨ (¬ (4 : Int) < (S.nr : Int) ∧ (12 : Int) < (S.nf : Int) ∧ ¬ S.Ok) ∨
    (¬ (4 : Int) < (S.nr : Int) ∧ ¬ (12 : Int) < (S.nf : Int) ∧ inR S.deep 0 9 = false ∧ ¬ S.Ok) ∨
    (¬ (4 : Int) < (S.nr : Int) ∧ ¬ (12 : Int) < (S.nf : Int) ∧ inR S.deep 0 9 = true ∧ inR S.haul 0 9 = false ∧ ¬ S.Ok) ∨
    (¬ (4 : Int) < (S.nr : Int) ∧ ¬ (12 : Int) < (S.nf : Int) ∧ inR S.deep 0 9 = true ∧ inR S.haul 0 9 = true ∧ inR S.rest 0 9 = false ∧ ¬ S.Ok) ∨
    (¬ (4 : Int) < (S.nr : Int) ∧ ¬ (12 : Int) < (S.nf : Int) ∧ inR S.deep 0 9 = true ∧ inR S.haul 0 9 = true ∧ inR S.rest 0 9 = true) := by
  by_cases h1 : (4 : Int) < (S.nr : Int)
  · exact .inl ⟨h1, fun h => by have := h.nr; omega⟩
  refine .inr ?_
  by_cases h3 : (12 : Int) < (S.nf : Int)
  · exact .inl ⟨h1, h3, fun h => by have := h.nf; omega⟩
  refine .inr ?_
  cases h5 : inR S.deep 0 9
  · exact .inl ⟨h1, h3, rfl, fun h => by rw [inR_t ⟨h.d0, h.d1⟩] at h5; cases h5⟩
  refine .inr ?_
  cases h6 : inR S.haul 0 9
  · exact .inl ⟨h1, h3, rfl, rfl, fun h => by rw [inR_t ⟨h.l0, h.l1⟩] at h6; cases h6⟩
  refine .inr ?_
  cases h7 : inR S.rest 0 9
  · exact .inl ⟨h1, h3, rfl, rfl, rfl, fun h => by rw [inR_t ⟨h.r0, h.r1⟩] at h7; cases h7⟩
  exact .inr ⟨h1, h3, rfl, rfl, rfl⟩
set_option maxHeartbeats 1000000 in
theorem refCheck_any (Ar Af : Option Addr) (cr cf : Nat) (S : Sh) (w : World) (hr : S.nr ≤ 9223372036854775807) (hf : S.nf ≤ 9223372036854775807) (hS : ShAt w Ar Af S) :
    Calls Tryd.prog 7 #[.agg #[.slice Ar S.nr cr, .slice Af S.nf cf, .int .i64 S.deep, .int .i64 S.haul, .int .i64 S.rest]] w fun e w' => e = .returned (.int .i64 S.err) ∧ Below w.heap.size w w' := by
  have hb0 := bAlloc (Below.refl w.heap.size w) (.cells #[.slice Ar S.nr cr, .slice Af S.nf cf, .int .i64 S.deep, .int .i64 S.haul, .int .i64 S.rest] 29)
  have HS := Lib.hid (hS.mono hb0)
  have HB := Lib.hid hb0
  clear hS hb0
  rcases head_cases S with ⟨h1, he⟩ | ⟨h1, h2, he⟩ | ⟨h1, h2, h3, he⟩ | ⟨h1, h2, h3, h4, he⟩ | ⟨h1, h2, h3, h4, h5, he⟩ | ⟨h1, h2, h3, h4, h5⟩
  case inr.inr.inr.inr.inr =>
    go_enter Tryd.func7, Tryd.ntmps7
    go_wp2_with (go_at_call 21; refine (within02_any _ _ _ _).mono ?_; rintro e w' ⟨rfl, rfl⟩)
    go_loopw [3] (fun i wr => ∃ k : Nat, k ≤ S.nr ∧ i = .int .i64 k ∧ (∀ j, j < k → (S.rock j).Ok) ∧ Below (w.alloc (.cells #[.slice Ar S.nr cr, .slice Af S.nf cf, .int .i64 S.deep, .int .i64 S.haul, .int .i64 S.rest] 29)).heap.size (w.alloc (.cells #[.slice Ar S.nr cr, .slice Af S.nf cf, .int .i64 S.deep, .int .i64 S.haul, .int .i64 S.rest] 29)) wr) (fun i _ => S.nr - (intOf i).toNat)
    case atStart => exact ⟨0, Nat.zero_le _, rfl, fun j hj => by omega, Below.refl _ _⟩
    case round =>
      obtain ⟨k, hk, rfl, hok, hbel⟩ := hrel
      have HO := Lib.hid hok
      clear hok
      obtain ⟨bc, bf⟩ := bcell hbel
      have hz := hbel.size
      simp only [World.size_alloc] at hz
      have hy : w.heap.size < wr.heap.size := hz
      by_cases hlt : k < S.nr
      · have HS1 := HS.out.mono hbel
        rcases HS1.rocks with h0 | ⟨b, o, hA, hb, hcell⟩
        · omega
        obtain ⟨c0, c1, c2, c3⟩ := hcell k hlt
        clear hcell HS1
        subst hA
        rcases rock_cases (S.rock k) with ⟨g1, he⟩ | ⟨g1, g2, he⟩ | ⟨g1, g2, g3, he⟩ | ⟨g1, g2, g3, g4, he⟩ | ⟨g1, g2, g3, g4, he⟩
        case inr.inr.inr.inr =>
          have HE := Lib.hid he
          clear he
          go_wp2_with (go_at_call 21; refine (within02_any _ _ _ _).mono ?_; rintro e w' ⟨rfl, rfl⟩)
          go_roundw
          case rel => exact ⟨k + 1, by omega, by go_num, fun j hj => by (rcases Nat.lt_or_ge j k with h | h); exact HO.out j h; (obtain rfl : j = k := by omega); exact HE.out, bAlloc hbel _⟩
          case measure => simp [intOf]; omega
        all_goals
          have HE := Lib.hid he
          clear he
          go_wp2_with (go_at_call 21; refine (within02_any _ _ _ _).mono ?_; rintro e w' ⟨rfl, rfl⟩)
          go_ret
          exact ⟨ret_int (Sh.err_bad fun h => HE.out (h.rock k hlt)).symm, bAlloc (bTrans HB.out hbel) _⟩
      · obtain rfl : k = S.nr := by omega
        go_wp2_with fail
        obtain ⟨w1, rfl⟩ : ∃ w1 : World, w1 = wr := ⟨_, rfl⟩
        have HB1 := Lib.hid (bTrans HB.out hbel)
        have HS1 := Lib.hid (HS.out.mono hbel)
        clear hbel
        go_loopw [5] (fun i wr => ∃ k : Nat, k ≤ S.nf ∧ i = .int .i64 k ∧ (∀ j, j < k → inR (S.foot j) 0 (S.nr - 1) = true) ∧ Below w1.heap.size w1 wr) (fun i _ => S.nf - (intOf i).toNat)
        case atStart => exact ⟨0, Nat.zero_le _, rfl, fun j hj => by omega, Below.refl _ _⟩
        case round =>
          obtain ⟨k, hk, rfl, hok, hbel⟩ := hrel
          have HP := Lib.hid hok
          clear hok
          obtain ⟨bc2, bf2⟩ := bcell hbel
          have hz2 := hbel.size
          have hy2 : w.heap.size < wr.heap.size := by omega
          by_cases hlt : k < S.nf
          · have HS2 := HS1.out.mono hbel
            rcases HS2.feet with h0 | ⟨b, o, hA, hb, hcell⟩
            · omega
            have c0 := hcell k hlt
            clear hcell HS2
            subst hA
            cases hin : inR (S.foot k) 0 (S.nr - 1)
            case' false => have HE := Lib.hid (err_foot hlt hin)
            all_goals
              go_wp2_with fail
              refine wp_region_quiet_below (by kernel_rfl) (by kernel_rfl) ?_
              repeat (go_big_quiet_step ((go_at_call 22; exact Calls.regrown_of (isRock_any _ _ _ _ S _ _ hr))))
              refine wpQuiet_nil ?_
              intro w3 hw3
              have hb3 := below_of_regrown hw3
              clear hw3
              go_wp2_with fail
            · go_ret
              exact ⟨ret_int (Sh.err_bad HE.out).symm, bTrans (bTrans HB1.out hbel) hb3⟩
            · go_roundw
              case rel => exact ⟨k + 1, by omega, by go_num, fun j hj => by (rcases Nat.lt_or_ge j k with h | h); exact HP.out j h; (obtain rfl : j = k := by omega); exact hin, bTrans hbel hb3⟩
              case measure => simp [intOf]; omega
          · obtain rfl : k = S.nf := by omega
            go_wp2_with fail
            go_ret
            exact ⟨ret_int (Sh.err_ok ⟨by omega, by omega, HO.out, fun i hi => (foot_in.1 (HP.out i hi)).1, fun i hi => (foot_in.1 (HP.out i hi)).2, (inR_iff.1 h3).1, (inR_iff.1 h3).2, (inR_iff.1 h4).1, (inR_iff.1 h4).2, (inR_iff.1 h5).1, (inR_iff.1 h5).2⟩).symm, bTrans HB1.out hbel⟩
  all_goals
    have HE := Lib.hid he
    clear he
    go_enter Tryd.func7, Tryd.ntmps7
    go_wp2_with (go_at_call 21; refine (within02_any _ _ _ _).mono ?_; rintro e w' ⟨rfl, rfl⟩)
    go_ret
    exact ⟨ret_int (Sh.err_bad HE.out).symm, HB.out⟩
/-- the least Stand of m feet from a on (12 at the most) -/
def Sh.minSt (S : Sh) (a : Nat) : Nat → Int
  | 0 => 12
  | m + 1 => min (S.minSt a m) (S.rk (a + m)).stand
theorem Sh.minSt_bd {S : Sh} (ok : S.Ok) (a m : Nat) (h : a + m ≤ S.nf) : 0 ≤ S.minSt a m ∧ S.minSt a m ≤ 12 := by
  induction m with
  | zero => simp [Sh.minSt]
  | succ m ih =>
    have := ih (by omega)
    have h0 := (ok.rk (i := a + m) (by omega)).s0
    simp only [Sh.minSt]; omega
/-- whether the shaft falls with the foot f, if the last ring is at a -/
def Sh.fallsAt (S : Sh) (a f : Nat) : Bool := decide (S.minSt a (f + 1 - a) < (f : Int) - a + 1)
/-- the first foot from a on with which it falls, if no ring is laid below a -/
def Sh.falls (S : Sh) (a : Nat) : Nat := firstFrom (S.fallsAt a) (S.nf - a) a
theorem Sh.falls_bd (S : Sh) {a : Nat} (h : a ≤ S.nf) : a ≤ S.falls a ∧ S.falls a ≤ S.nf := by
  have := firstFrom_spec (S.fallsAt a) (S.nf - a) a
  unfold Sh.falls; omega
/-- the depth from which one goes on behind k stops -/
def stopAt (g : Nat → Int) : Nat → Nat
  | 0 => 0
  | k + 1 => (g k).toNat
/-- the price of a foot, and of a ring at a depth -/
def Sh.price (S : Sh) (i : Nat) : Int := (S.rk i).pence + i * S.deep
def Sh.ringc (S : Sh) (d : Nat) : Int := (S.rk (d - 1)).seat + d * S.haul
def Sh.restsB (S : Sh) (d : Nat) : Bool := (S.rk (d - 1)).seat != -1
def Sh.hour (S : Sh) (i : Nat) : Int := (S.rk i).hours
theorem mul_bd {a b : Int} (h0 : 0 ≤ a) (h1 : a ≤ 12) (h2 : 0 ≤ b) (h3 : b ≤ 9) : 0 ≤ a * b ∧ a * b ≤ 108 :=
  ⟨Int.mul_nonneg h0 h2, by have := Int.mul_le_mul h1 h3 h2 (by omega : (0:Int) ≤ 12); omega⟩
theorem rock_any (Ar Af : Option Addr) (cr cf : Nat) (S : Sh) (w : World) (ok : S.Ok) (hS : ShAt w Ar Af S) (n : Int) (i : Nat) (hn : n = i) (hi : i < S.nf) :
    Calls Tryd.prog 49 #[.agg #[.slice Ar S.nr cr, .slice Af S.nf cf, .int .i64 S.deep, .int .i64 S.haul, .int .i64 S.rest], .int .i64 n] w fun e w' => e = .returned (.agg #[.int .i64 (S.rk i).hours, .int .i64 (S.rk i).pence, .int .i64 (S.rk i).stand, .int .i64 (S.rk i).seat]) ∧ Below w.heap.size w w' := by
  subst hn
  obtain ⟨ba, oa, bf, of_, k, rfl, rfl, hba, hbf, hk, c0, c1, c2, c3, c4⟩ := hS.foot ok hi
  have hnr := ok.nr
  have hnf := ok.nf
  go_enter Tryd.func49, Tryd.ntmps49
  go_wp2_with fail
  go_region
  go_wp2_with fail
  exact bodyPost_ret (v := .agg #[.int .i64 (S.rk i).hours, .int .i64 (S.rk i).pence, .int .i64 (S.rk i).stand, .int .i64 (S.rk i).seat]) (by simp [results, Tryd.results49, go_sem]) rfl ⟨rfl, by (repeat (first | (with_reducible exact Below.refl _ _) | (with_reducible refine bAlloc ?_ _) | (with_reducible refine bDrew ?_) | (with_reducible refine bGrow ?_ _ _) | (with_reducible refine bSet ?_ ?_ _; (first | exact Nat.le_refl _ | exact Nat.le_add_right _ _ | (simp; omega))) | (with_reducible refine bTrans ?_ (by assumption))))⟩
theorem rests_any (Ar Af : Option Addr) (cr cf : Nat) (S : Sh) (w : World) (ok : S.Ok) (hS : ShAt w Ar Af S) (n : Int) (d : Nat) (hn : n = d) (h1 : 1 ≤ d) (hd : d ≤ S.nf) :
    Calls Tryd.prog 59 #[.agg #[.slice Ar S.nr cr, .slice Af S.nf cf, .int .i64 S.deep, .int .i64 S.haul, .int .i64 S.rest], .int .i64 n] w fun e w' => e = .returned (.bool (S.restsB d)) ∧ Below w.heap.size w w' := by
  subst hn
  have hb0 := bAlloc (Below.refl w.heap.size w) (.cells #[.slice Ar S.nr cr, .slice Af S.nf cf, .int .i64 S.deep, .int .i64 S.haul, .int .i64 S.rest] 70)
  have HS := Lib.hid (hS.mono hb0)
  have HB := Lib.hid hb0
  clear hS hb0
  have hi : d - 1 < S.nf := by omega
  have hnf := ok.nf
  go_enter Tryd.func59, Tryd.ntmps59
  go_wp2_with (go_at_call 49; refine (rock_any _ _ _ _ S _ ok HS.out _ (d - 1) (by omega) hi).mono ?_; rintro e w1 ⟨rfl, hb1⟩)
  go_ret
  exact ⟨rfl, bTrans HB.out hb1⟩
theorem plus_any (a b c d : Int) (w : World) (h : 0 ≤ a ∧ a ≤ 10000 ∧ 0 ≤ b ∧ b ≤ 10000 ∧ -1 ≤ c ∧ c ≤ 10000 ∧ 0 ≤ d ∧ d ≤ 10000) :
    Calls Tryd.prog 40 #[.agg #[.int .i64 a, .int .i64 b], .agg #[.int .i64 c, .int .i64 d]] w fun e w' => e = .returned (.agg #[.int .i64 (a + c), .int .i64 (b + d)]) ∧ Below w.heap.size w w' := by
  obtain ⟨a0, a1, b0, b1, c0, c1, d0, d1⟩ := h
  go_enter Tryd.func40, Tryd.ntmps40
  go_wp2_with fail
  exact bodyPost_ret (v := .agg #[.int .i64 (a + c), .int .i64 (b + d)]) (by simp [results, Tryd.results40, go_sem]) rfl ⟨rfl, by (repeat (first | (with_reducible exact Below.refl _ _) | (with_reducible refine bAlloc ?_ _) | (with_reducible refine bDrew ?_) | (with_reducible refine bGrow ?_ _ _) | (with_reducible refine bSet ?_ ?_ _; (first | exact Nat.le_refl _ | exact Nat.le_add_right _ _ | (simp; omega))) | (with_reducible refine bTrans ?_ (by assumption))))⟩
set_option maxHeartbeats 1000000 in
theorem falls_any (Ar Af : Option Addr) (cr cf : Nat) (S : Sh) (w : World) (ok : S.Ok) (hS : ShAt w Ar Af S) (a : Nat) (ha : a ≤ S.nf) :
    Calls Tryd.prog 58 #[.agg #[.slice Ar S.nr cr, .slice Af S.nf cf, .int .i64 S.deep, .int .i64 S.haul, .int .i64 S.rest], .int .i64 a] w fun e w' => e = .returned (.int .i64 (S.falls a)) ∧ Below w.heap.size w w' := by
  have hb0 := bAlloc (Below.refl w.heap.size w) (.cells #[.slice Ar S.nr cr, .slice Af S.nf cf, .int .i64 S.deep, .int .i64 S.haul, .int .i64 S.rest] 70)
  have HS := Lib.hid (hS.mono hb0)
  have HB := Lib.hid hb0
  clear hS hb0
  have hnf := ok.nf
  go_enter Tryd.func58, Tryd.ntmps58
  go_wp2_with fail
  go_loopw [5, 6] (fun s i wr => ∃ m : Nat, a + m ≤ S.nf ∧ i = .int .i64 (a + m : Nat) ∧ s = .int .i64 (S.minSt a m) ∧ (∀ j, a ≤ j → j < a + m → S.fallsAt a j = false) ∧ Below (w.alloc (.cells #[.slice Ar S.nr cr, .slice Af S.nf cf, .int .i64 S.deep, .int .i64 S.haul, .int .i64 S.rest] 70)).heap.size (w.alloc (.cells #[.slice Ar S.nr cr, .slice Af S.nf cf, .int .i64 S.deep, .int .i64 S.haul, .int .i64 S.rest] 70)) wr) (fun _ i _ => S.nf - (intOf i).toNat)
  case atStart => exact ⟨0, ha, rfl, rfl, fun j h1 h2 => by omega, Below.refl _ _⟩
  case round =>
    obtain ⟨m, hm, rfl, rfl, hno, hbel⟩ := hrel
    have HN := Lib.hid hno
    clear hno
    obtain ⟨bc, bf⟩ := bcell hbel
    have hz := hbel.size
    simp only [World.size_alloc] at hz
    have hy : w.heap.size < wr.heap.size := hz
    by_cases hlt : a + m < S.nf
    · have hif : (if (S.rk (a + m)).stand < S.minSt a m then (S.rk (a + m)).stand else S.minSt a m) = S.minSt a (m + 1) := by
        simp only [Sh.minSt]; split <;> omega
      obtain ⟨b0, b1⟩ := Sh.minSt_bd ok a m hm
      have r0 := (ok.rk hlt).s0
      have r1 := (ok.rk hlt).s1
      have e1 : a + m + 1 - a = m + 1 := by omega
      by_cases hfall : S.minSt a (m + 1) < (a : Int) + m - a + 1
      · have HF := Lib.hid (show S.fallsAt a (a + m) = true by unfold Sh.fallsAt; rw [e1]; simp only [decide_eq_true_eq]; omega)
        clear e1
        go_wp2_with (go_at_call 49; refine (rock_any _ _ _ _ S _ ok (HS.out.mono hbel) _ (a + m) (by omega) hlt).mono ?_; rintro e w1 ⟨rfl, hb1⟩)
        go_ret
        exact ⟨ret_int (by rw [show S.falls a = a + m from firstFrom_eq _ _ _ _ (by omega) (by omega) HN.out fun _ => HF.out]; omega), bTrans (bTrans HB.out hbel) hb1⟩
      · have HF := Lib.hid (show S.fallsAt a (a + m) = false by unfold Sh.fallsAt; rw [e1]; simp only [decide_eq_false_iff_not]; omega)
        clear e1
        go_wp2_with (go_at_call 49; refine (rock_any _ _ _ _ S _ ok (HS.out.mono hbel) _ (a + m) (by omega) hlt).mono ?_; rintro e w1 ⟨rfl, hb1⟩)
        go_roundw
        case rel => exact ⟨m + 1, by omega, by go_num, rfl, fun j h1 h2 => by (rcases Nat.lt_or_ge j (a + m) with h | h); exact HN.out j h1 h; (obtain rfl : j = a + m := by omega); exact HF.out, bTrans hbel hb1⟩
        case measure => simp [intOf]; omega
    · go_wp2_with fail
      go_ret
      exact ⟨ret_int (by rw [show S.falls a = a + m from firstFrom_eq _ _ _ _ (by omega) (by omega) HN.out fun _ => by omega]; omega), bTrans HB.out hbel⟩
/-- what open hands back where the shaft is valid and the question is one -/
theorem open_yes (Ar Af : Option Addr) (cr cf : Nat) (S : Sh) (w : World) (ok : S.Ok) (hS : ShAt w Ar Af S) :
    Calls Tryd.prog 38 #[.agg #[.slice Ar S.nr cr, .slice Af S.nf cf, .int .i64 S.deep, .int .i64 S.haul, .int .i64 S.rest], .bool true] w fun e w' => e = .returned (.tuple #[.agg #[.slice Ar S.nr cr, .slice Af S.nf cf, .int .i64 S.deep, .int .i64 S.haul, .int .i64 S.rest], .int .i64 0]) ∧ Below w.heap.size w w' := by
  have hb0 := bAlloc (bAlloc (Below.refl w.heap.size w) (.cells #[.slice Ar S.nr cr, .slice Af S.nf cf, .int .i64 S.deep, .int .i64 S.haul, .int .i64 S.rest] 29)) (.cells #[.slice none 0 0, .slice none 0 0, .int .i64 0, .int .i64 0, .int .i64 0] 70)
  have HS := Lib.hid (hS.mono hb0)
  have HB := Lib.hid hb0
  have hr : S.nr ≤ 9223372036854775807 := by have := ok.nr; omega
  have hf : S.nf ≤ 9223372036854775807 := by have := ok.nf; omega
  have he := Sh.err_ok ok
  clear hS hb0
  go_enter Tryd.func38, Tryd.ntmps38
  go_wp2_with (go_at_call 47; refine (check_any _ _ _ _ S _ hr hf HS.out).mono ?_; rintro e w1 ⟨rfl, hb1⟩; obtain ⟨bc, bf⟩ := bcell hb1; have hz := hb1.size; simp only [World.size_alloc] at hz; have hy : w.heap.size < w1.heap.size := (by omega); have hy2 : w.heap.size + 1 < w1.heap.size := (by omega))
  exact bodyPost_ret (v := .tuple #[.agg #[.slice Ar S.nr cr, .slice Af S.nf cf, .int .i64 S.deep, .int .i64 S.haul, .int .i64 S.rest], .int .i64 0]) (by simp [results, Tryd.results38, go_sem, *]) rfl ⟨rfl, by (repeat (first | (with_reducible exact Below.refl _ _) | (with_reducible refine bAlloc ?_ _) | (with_reducible refine bDrew ?_) | (with_reducible refine bGrow ?_ _ _) | (with_reducible refine bSet ?_ ?_ _; (first | exact Nat.le_refl _ | exact Nat.le_add_right _ _ | (simp; omega))) | (with_reducible refine bTrans ?_ (by assumption))))⟩
/-- what open hands back else -/
theorem open_no (Ar Af : Option Addr) (cr cf : Nat) (S : Sh) (is : Bool) (w : World) (hr : S.nr ≤ 9223372036854775807) (hf : S.nf ≤ 9223372036854775807) (hS : ShAt w Ar Af S) (E : Int) (hE : (¬ S.Ok ∧ E = 20) ∨ (S.Ok ∧ is = false ∧ E = 1)) :
    Calls Tryd.prog 38 #[.agg #[.slice Ar S.nr cr, .slice Af S.nf cf, .int .i64 S.deep, .int .i64 S.haul, .int .i64 S.rest], .bool is] w fun e w' => e = .returned (.tuple #[.agg #[.slice none 0 0, .slice none 0 0, .int .i64 0, .int .i64 0, .int .i64 0], .int .i64 E]) ∧ Below w.heap.size w w' := by
  have hb0 := bAlloc (bAlloc (Below.refl w.heap.size w) (.cells #[.slice Ar S.nr cr, .slice Af S.nf cf, .int .i64 S.deep, .int .i64 S.haul, .int .i64 S.rest] 29)) (.cells #[.slice none 0 0, .slice none 0 0, .int .i64 0, .int .i64 0, .int .i64 0] 70)
  have HS := Lib.hid (hS.mono hb0)
  have HB := Lib.hid hb0
  clear hS hb0
  rcases hE with ⟨ok, rfl⟩ | ⟨ok, rfl, rfl⟩
  · have he := Sh.err_bad ok
    go_enter Tryd.func38, Tryd.ntmps38
    go_wp2_with (go_at_call 47; refine (check_any _ _ _ _ S _ hr hf HS.out).mono ?_; rintro e w1 ⟨rfl, hb1⟩; obtain ⟨bc, bf⟩ := bcell hb1; have hz := hb1.size; simp only [World.size_alloc] at hz; have hy : w.heap.size < w1.heap.size := (by omega); have hy2 : w.heap.size + 1 < w1.heap.size := (by omega))
    exact bodyPost_ret (v := .tuple #[.agg #[.slice none 0 0, .slice none 0 0, .int .i64 0, .int .i64 0, .int .i64 0], .int .i64 20]) (by simp [results, Tryd.results38, go_sem, *]) rfl ⟨rfl, by (repeat (first | (with_reducible exact Below.refl _ _) | (with_reducible refine bAlloc ?_ _) | (with_reducible refine bDrew ?_) | (with_reducible refine bGrow ?_ _ _) | (with_reducible refine bSet ?_ ?_ _; (first | exact Nat.le_refl _ | exact Nat.le_add_right _ _ | (simp; omega))) | (with_reducible refine bTrans ?_ (by assumption))))⟩
  · have he := Sh.err_ok ok
    go_enter Tryd.func38, Tryd.ntmps38
    go_wp2_with (go_at_call 47; refine (check_any _ _ _ _ S _ hr hf HS.out).mono ?_; rintro e w1 ⟨rfl, hb1⟩; obtain ⟨bc, bf⟩ := bcell hb1; have hz := hb1.size; simp only [World.size_alloc] at hz; have hy : w.heap.size < w1.heap.size := (by omega); have hy2 : w.heap.size + 1 < w1.heap.size := (by omega))
    exact bodyPost_ret (v := .tuple #[.agg #[.slice none 0 0, .slice none 0 0, .int .i64 0, .int .i64 0, .int .i64 0], .int .i64 1]) (by simp [results, Tryd.results38, go_sem, *]) rfl ⟨rfl, by (repeat (first | (with_reducible exact Below.refl _ _) | (with_reducible refine bAlloc ?_ _) | (with_reducible refine bDrew ?_) | (with_reducible refine bGrow ?_ _ _) | (with_reducible refine bSet ?_ ?_ _; (first | exact Nat.le_refl _ | exact Nat.le_add_right _ _ | (simp; omega))) | (with_reducible refine bTrans ?_ (by assumption))))⟩
set_option maxHeartbeats 1000000 in
theorem ring_any (Ar Af : Option Addr) (cr cf : Nat) (S : Sh) (w : World) (ok : S.Ok) (hS : ShAt w Ar Af S) (n : Int) (d : Nat) (hn : n = d) (h1 : 1 ≤ d) (hd : d ≤ S.nf) :
    Calls Tryd.prog 60 #[.agg #[.slice Ar S.nr cr, .slice Af S.nf cf, .int .i64 S.deep, .int .i64 S.haul, .int .i64 S.rest], .int .i64 n] w fun e w' => e = .returned (.agg #[.int .i64 (S.ringc d), .int .i64 S.rest]) ∧ Below w.heap.size w w' := by
  subst hn
  have hb0 := bAlloc (bAlloc (Below.refl w.heap.size w) (.cells #[.slice Ar S.nr cr, .slice Af S.nf cf, .int .i64 S.deep, .int .i64 S.haul, .int .i64 S.rest] 70)) (.cells #[.int .i64 0, .int .i64 0] 77)
  have HS := Lib.hid (hS.mono hb0)
  have HB := Lib.hid hb0
  clear hS hb0
  have hi : d - 1 < S.nf := by omega
  have hr := ok.rk hi
  have hp0 := hr.t0
  have hp1 := hr.t1
  have hnf := ok.nf
  obtain ⟨m0, m1⟩ := mul_bd (a := d) (b := S.haul) (by omega) (by omega) ok.l0 ok.l1
  go_enter Tryd.func60, Tryd.ntmps60
  go_wp2_with fail
  have e1 : IntKind.i64.wrap ((d : Int) - 1) = (d : Int) - 1 := IntWalk.i64_in _ (by omega)
  have e2 : IntKind.i64.wrap ((d : Int) * S.haul) = (d : Int) * S.haul := IntWalk.i64_in _ (by omega)
  have e3 : IntKind.i64.wrap ((S.rk (d - 1)).seat + (d : Int) * S.haul) = (S.rk (d - 1)).seat + (d : Int) * S.haul := IntWalk.i64_in _ (by omega)
  have hdd : (d : Int) - 1 = (d - 1 : Nat) := by omega
  have HD := Lib.hid hdd
  clear hdd
  refine wp_region_last 15 (by kernel_rfl) (by kernel_rfl) rfl ?_
  repeat (first | (refine wpCalm_skip rfl ?_) | (refine wpCalm_step rfl (fun K hK => ?_); go_simp; (first | (refine hK _ ?_; clear hK K) | (apply Exists.intro; refine ⟨fun _ => ?_, hK _ ?_⟩; (go_at_call 49; exact (rock_any _ _ _ _ S _ ok (HS.out.mono (below_regrown _ _ _)) _ (d - 1) HD.out hi)); clear hK K))))
  refine wpCalm_nil ?_
  clear e1 e2 e3
  intro w1 hb1
  obtain ⟨bc, bf⟩ := bcell hb1
  have hz := hb1.size
  simp only [World.size_alloc] at hz
  have hy2 : w.heap.size + 1 < w1.heap.size := hz
  have hy : w.heap.size < w1.heap.size := by omega
  go_wp2_with fail
  exact bodyPost_ret (v := .agg #[.int .i64 (S.ringc d), .int .i64 S.rest]) (by simp [results, Tryd.results60, go_sem, *]; rfl) rfl ⟨rfl, by (repeat (first | (with_reducible exact Below.refl _ _) | (with_reducible refine bAlloc ?_ _) | (with_reducible refine bDrew ?_) | (with_reducible refine bGrow ?_ _ _) | (with_reducible refine bSet ?_ ?_ _; (first | exact Nat.le_refl _ | exact Nat.le_add_right _ _ | (simp; omega))) | (with_reducible refine bTrans ?_ (by assumption))))⟩
theorem price_bd {S : Sh} (ok : S.Ok) {i : Nat} (hi : i < S.nf) : 0 ≤ S.price i ∧ S.price i ≤ 207 := by
  have hr := ok.rk hi
  have h1 := hr.p0
  have h2 := hr.p1
  have hnf := ok.nf
  obtain ⟨m0, m1⟩ := mul_bd (a := i) (b := S.deep) (by omega) (by omega) ok.d0 ok.d1
  unfold Sh.price; omega
theorem digs_bd {S : Sh} (ok : S.Ok) {k : Nat} (hk : k ≤ S.nf) : 0 ≤ sumTo S.price k ∧ sumTo S.price k ≤ 2484 ∧ 0 ≤ sumTo S.hour k ∧ sumTo S.hour k ≤ 108 := by
  have h1 := sumTo_bd (f := S.price) (n := k) (lo := 0) (hi := 207) fun i hi => price_bd ok (by omega)
  have h2 := sumTo_bd (f := S.hour) (n := k) (lo := 0) (hi := 9) fun i hi => ⟨(ok.rk (by omega)).h0, (ok.rk (by omega)).h1⟩
  have hnf := ok.nf
  omega
set_option maxHeartbeats 1000000 in
theorem dig_any (Ar Af : Option Addr) (cr cf : Nat) (S : Sh) (w : World) (ok : S.Ok) (hS : ShAt w Ar Af S) (i : Nat) (hi : i < S.nf) :
    Calls Tryd.prog 41 #[.agg #[.slice Ar S.nr cr, .slice Af S.nf cf, .int .i64 S.deep, .int .i64 S.haul, .int .i64 S.rest], .int .i64 i] w fun e w' => e = .returned (.agg #[.int .i64 (S.price i), .int .i64 (S.hour i)]) ∧ Below w.heap.size w w' := by
  have hb0 := bAlloc (bAlloc (Below.refl w.heap.size w) (.cells #[.slice Ar S.nr cr, .slice Af S.nf cf, .int .i64 S.deep, .int .i64 S.haul, .int .i64 S.rest] 70)) (.cells #[.int .i64 0, .int .i64 0] 77)
  have HS := Lib.hid (hS.mono hb0)
  have HB := Lib.hid hb0
  clear hS hb0
  have hr := ok.rk hi
  have hp0 := hr.p0
  have hp1 := hr.p1
  have hnf := ok.nf
  obtain ⟨m0, m1⟩ := mul_bd (a := i) (b := S.deep) (by omega) (by omega) ok.d0 ok.d1
  go_enter Tryd.func41, Tryd.ntmps41
  go_wp2_with (go_at_call 49; refine (rock_any _ _ _ _ S _ ok HS.out _ i rfl hi).mono ?_; rintro e w1 ⟨rfl, hb1⟩; obtain ⟨bc, bf⟩ := bcell hb1; have hz := hb1.size; simp only [World.size_alloc] at hz; have hy2 : w.heap.size + 1 < w1.heap.size := hz; have hy : w.heap.size < w1.heap.size := (by omega))
  exact bodyPost_ret (v := .agg #[.int .i64 (S.price i), .int .i64 (S.hour i)]) (by simp [results, Tryd.results41, go_sem, *]; exact ⟨rfl, rfl⟩) rfl ⟨rfl, by (repeat (first | (with_reducible exact Below.refl _ _) | (with_reducible refine bAlloc ?_ _) | (with_reducible refine bDrew ?_) | (with_reducible refine bGrow ?_ _ _) | (with_reducible refine bSet ?_ ?_ _; (first | exact Nat.le_refl _ | exact Nat.le_add_right _ _ | (simp; omega))) | (with_reducible refine bTrans ?_ (by assumption))))⟩
set_option maxHeartbeats 2000000 in
theorem digging_any (Ar Af : Option Addr) (cr cf : Nat) (S : Sh) (w : World) (ok : S.Ok) (hS : ShAt w Ar Af S) :
    Calls Tryd.prog 30 #[.agg #[.slice Ar S.nr cr, .slice Af S.nf cf, .int .i64 S.deep, .int .i64 S.haul, .int .i64 S.rest]] w fun e w' => e = .returned (.agg #[.int .i64 (sumTo S.price S.nf), .int .i64 (sumTo S.hour S.nf)]) ∧ Below w.heap.size w w' := by
  have hb0 := bAlloc (Below.refl w.heap.size w) (.cells #[.slice Ar S.nr cr, .slice Af S.nf cf, .int .i64 S.deep, .int .i64 S.haul, .int .i64 S.rest] 70)
  have HS := Lib.hid (hS.mono hb0)
  have HB := Lib.hid hb0
  clear hS hb0
  have hnf := ok.nf
  go_enter Tryd.func30, Tryd.ntmps30
  go_wp2_with fail
  go_loopw [8] (fun i wr => ∃ k : Nat, k ≤ S.nf ∧ i = .int .i64 k ∧ Below (w.alloc (.cells #[.slice Ar S.nr cr, .slice Af S.nf cf, .int .i64 S.deep, .int .i64 S.haul, .int .i64 S.rest] 70)).heap.size (w.alloc (.cells #[.slice Ar S.nr cr, .slice Af S.nf cf, .int .i64 S.deep, .int .i64 S.haul, .int .i64 S.rest] 70)) wr ∧ w.heap.size + 1 < wr.heap.size ∧
    wr.cell? ⟨w.heap.size + 1, 0, none⟩ = some (.int .i64 (sumTo S.price k)) ∧ wr.cell? ⟨w.heap.size + 1, 1, none⟩ = some (.int .i64 (sumTo S.hour k)) ∧ wr.frozen? ⟨w.heap.size + 1, 0, none⟩ = false ∧ wr.frozen? ⟨w.heap.size + 1, 1, none⟩ = false) (fun i _ => S.nf - (intOf i).toNat)
  case atStart => exact ⟨0, Nat.zero_le _, rfl, (Below.refl _ _).alloc (Nat.le_refl _) _, by simp, by simp [go_sem, sumTo], by simp [go_sem, sumTo], by simp [go_sem], by simp [go_sem]⟩
  case round =>
    obtain ⟨k, hk, rfl, hbel, hsz, c0, c1, f0, f1⟩ := hrel
    obtain ⟨bc, bf⟩ := bcell hbel
    have hz := hbel.size
    simp only [World.size_alloc] at hz
    have hy : w.heap.size < wr.heap.size := hz
    obtain ⟨d0, d1, d2, d3⟩ := digs_bd ok hk
    have HS1 := Lib.hid (HS.out.mono hbel)
    by_cases hlt : k < S.nf
    · obtain ⟨p0, p1⟩ := price_bd ok hlt
      have q0 := (ok.rk hlt).h0
      have q1 := (ok.rk hlt).h1
      have hhr : S.hour k = (S.rk k).hours := rfl
      rw [← hhr] at q0 q1
      clear hhr
      go_wp2_with fail
      refine wp_region_last 5 (by kernel_rfl) (by kernel_rfl) rfl ?_
      repeat (first | (refine wpCalm_skip rfl ?_) | (refine wpCalm_step rfl (fun K hK => ?_); go_simp; (first | (refine hK _ ?_; clear hK K) | (apply Exists.intro; refine ⟨fun _ => ?_, hK _ ?_⟩; ((first | (go_at_call 41; exact (dig_any _ _ _ _ S _ ok (HS1.out.mono (below_regrown _ _ _)) k hlt)) | (go_at_call 40; exact plus_any _ _ _ _ _ (by omega)))); clear hK K))))
      refine wpCalm_nil ?_
      intro w1 hb1
      obtain ⟨bc1, bf1⟩ := bcell hb1
      have hz1 := hb1.size
      have hy1 : w.heap.size + 1 < w1.heap.size := by omega
      go_wp2_with fail
      go_roundw
      case rel => exact ⟨k + 1, by omega, by go_num, (((hbel.trans (hb1.mono hbel.size)).setCell (by simp) _).setCell (by simp) _), by simp [World.setCell]; omega, by simp [go_sem, *, sumTo], by simp [go_sem, *, sumTo], by simp [go_sem, *], by simp [go_sem, *]⟩
      case measure => simp [intOf]; omega
    · obtain rfl : k = S.nf := by omega
      go_wp2_with fail
      exact bodyPost_ret (v := .agg #[.int .i64 (sumTo S.price S.nf), .int .i64 (sumTo S.hour S.nf)]) (by simp [results, Tryd.results30, go_sem, *]) rfl ⟨rfl, by (repeat (first | (with_reducible exact Below.refl _ _) | (with_reducible refine bAlloc ?_ _) | (with_reducible refine bDrew ?_) | (with_reducible refine bGrow ?_ _ _) | (with_reducible refine bSet ?_ ?_ _; (first | exact Nat.le_refl _ | exact Nat.le_add_right _ _ | (simp; omega))) | (with_reducible refine bTrans ?_ (by assumption))))⟩
theorem ringc_bd {S : Sh} (ok : S.Ok) {d : Nat} (h1 : 1 ≤ d) (hd : d ≤ S.nf) : -1 ≤ S.ringc d ∧ S.ringc d ≤ 207 := by
  have hr := ok.rk (i := d - 1) (by omega)
  have h1 := hr.t0
  have h2 := hr.t1
  have hnf := ok.nf
  obtain ⟨m0, m1⟩ := mul_bd (a := d) (b := S.haul) (by omega) (by omega) ok.l0 ok.l1
  unfold Sh.ringc; omega
theorem ring_nn {S : Sh} (ok : S.Ok) {d : Nat} (h1 : 1 ≤ d) (hd : d ≤ S.nf) (hr : S.restsB d = true) : 0 ≤ S.ringc d ∧ S.ringc d ≤ 207 := by
  obtain ⟨b0, b1⟩ := ringc_bd ok h1 hd
  have h2 := (ok.rk (i := d - 1) (by omega)).t0
  have hnf := ok.nf
  obtain ⟨m0, m1⟩ := mul_bd (a := d) (b := S.haul) (by omega) (by omega) ok.l0 ok.l1
  have h3 : (S.rk (d - 1)).seat ≠ -1 := by
    unfold Sh.restsB at hr; simpa using hr
  unfold Sh.ringc at *
  omega
def noWay : Way := ⟨-1, 0, 0⟩
def Way.vals (x : Way) : List Value := [.int .i64 x.rings, .int .i64 x.pence, .int .i64 x.next]
def wayL (f : Nat → Way) : Nat → List Value
  | 0 => []
  | n + 1 => wayL f n ++ (f n).vals
theorem wayL_len (f : Nat → Way) (n : Nat) : (wayL f n).length = n * 3 := by
  induction n with
  | zero => rfl
  | succ n ih => simp only [wayL, List.length_append, ih, Way.vals, List.length_cons, List.length_nil]; omega
theorem wayL_get (f : Nat → Way) {n i : Nat} (h : i < n) : (wayL f n)[i * 3]? = some (.int .i64 (f i).rings) ∧ (wayL f n)[i * 3 + 1]? = some (.int .i64 (f i).pence) ∧ (wayL f n)[i * 3 + 2]? = some (.int .i64 (f i).next) := by
  induction n with
  | zero => omega
  | succ n ih =>
    have hl := wayL_len f n
    rcases Nat.lt_or_ge i n with h1 | h1
    · obtain ⟨a, b, c⟩ := ih h1
      simp only [wayL]
      refine ⟨?_, ?_, ?_⟩ <;> rw [List.getElem?_append_left (by omega)] <;> assumption
    · obtain rfl : i = n := by omega
      simp only [wayL]
      refine ⟨?_, ?_, ?_⟩ <;> rw [List.getElem?_append_right (by omega), hl] <;> simp [Way.vals]
theorem wayL_inv (f : Nat → Way) {n j : Nat} {v : Value} (h : (wayL f n)[j]? = some v) : ∃ i, i < n ∧ ((j = i * 3 ∧ v = .int .i64 (f i).rings) ∨ (j = i * 3 + 1 ∧ v = .int .i64 (f i).pence) ∨ (j = i * 3 + 2 ∧ v = .int .i64 (f i).next)) := by
  have hj : j < n * 3 := by
    have := (List.getElem?_eq_some_iff.1 h).1
    rwa [wayL_len] at this
  obtain ⟨a, b, c⟩ := wayL_get f (n := n) (i := j / 3) (by omega)
  refine ⟨j / 3, by omega, ?_⟩
  rcases (by omega : j = j / 3 * 3 ∨ j = j / 3 * 3 + 1 ∨ j = j / 3 * 3 + 2) with e | e | e
  · rw [← e, h] at a; exact .inl ⟨e, by simpa using a⟩
  · rw [← e, h] at b; exact .inr (.inl ⟨e, by simpa using b⟩)
  · rw [← e, h] at c; exact .inr (.inr ⟨e, by simpa using c⟩)
theorem wayL_one (f : Nat → Way) (n : Nat) : ∀ v ∈ wayL f n, v.oneCell' = true := by
  intro v hv
  obtain ⟨j, hj, e⟩ := List.getElem_of_mem hv
  obtain ⟨i, _, h⟩ := wayL_inv f (n := n) (j := j) (v := v) (by rw [List.getElem?_eq_getElem hj, e])
  rcases h with ⟨_, rfl⟩ | ⟨_, rfl⟩ | ⟨_, rfl⟩ <;> rfl
theorem WaysAt.read {w : World} {g n : Nat} {f : Nat → Way} (h : WaysAt w g n f) {o k : Nat} (hk : o + k ≤ n) : ∀ j v, (wayL (fun i => f (o + i)) k)[j]? = some v → w.cell? ((⟨g, o * 3, none⟩ : Addr).add j) = some v := by
  intro j v hv
  have hadd : (⟨g, o * 3, none⟩ : Addr).add j = ⟨g, o * 3 + j, none⟩ := by unfold Addr.add; split <;> simp_all
  rw [hadd]
  obtain ⟨i, hi, e⟩ := wayL_inv _ hv
  rcases e with ⟨rfl, rfl⟩ | ⟨rfl, rfl⟩ | ⟨rfl, rfl⟩
  · rw [← h.c0 (o + i) (by omega)]; congr 2; omega
  · rw [← h.c1 (o + i) (by omega)]; congr 2; omega
  · rw [← h.c2 (o + i) (by omega)]; congr 2; omega
/-- other memory stays, and the cells of the row too: what is not written reads as before -/
theorem WaysAt.other {w : World} {g n : Nat} {f : Nat → Way} (h : WaysAt w g n f) {p : Addr} (hp : p.block ≠ g) (v : Value) : WaysAt (w.setCell p v) g n f := by
  have hc : ∀ j, (w.setCell p v).cell? ⟨g, j, none⟩ = w.cell? ⟨g, j, none⟩ := fun j => World.cell?_setCell_other _ _ _ _ (fun e => hp (by rw [e]))
  exact ⟨by simpa [World.setCell] using h.lt, fun i hi => (hc _).trans (h.c0 i hi), fun i hi => (hc _).trans (h.c1 i hi), fun i hi => (hc _).trans (h.c2 i hi), fun j => by rw [World.frozen?_setCell]; exact h.fr j⟩
theorem WaysAt.set {w : World} {g n : Nat} {f : Nat → Way} (h : WaysAt w g n f) {d : Nat} (hd : d < n) (x : Way) :
    WaysAt (((w.setCell ⟨g, d * 3, none⟩ (.int .i64 x.rings)).setCell ⟨g, d * 3 + 1, none⟩ (.int .i64 x.pence)).setCell ⟨g, d * 3 + 2, none⟩ (.int .i64 x.next)) g n (fun i => if i = d then x else f i) := by
  have k0 := h.c0 d hd
  have k1 := h.c1 d hd
  have k2 := h.c2 d hd
  have other : ∀ j, j ≠ d * 3 → j ≠ d * 3 + 1 → j ≠ d * 3 + 2 → (((w.setCell ⟨g, d * 3, none⟩ (.int .i64 x.rings)).setCell ⟨g, d * 3 + 1, none⟩ (.int .i64 x.pence)).setCell ⟨g, d * 3 + 2, none⟩ (.int .i64 x.next)).cell? ⟨g, j, none⟩ = w.cell? ⟨g, j, none⟩ := fun j h0 h1 h2 => by
    rw [World.cell?_setCell_other _ _ _ _ (fun e => by injection e with _ e; omega), World.cell?_setCell_other _ _ _ _ (fun e => by injection e with _ e; omega), World.cell?_setCell_other _ _ _ _ (fun e => by injection e with _ e; omega)]
  refine ⟨by simpa [World.setCell] using h.lt, fun i hi => ?_, fun i hi => ?_, fun i hi => ?_, fun j => by rw [World.frozen?_setCell, World.frozen?_setCell, World.frozen?_setCell]; exact h.fr j⟩
  all_goals
    by_cases e : i = d
    · subst e
      simp only [if_true]
      simp [World.cell?_setCell_other, World.cell?_setCell_same _ _ _ k0, k1, k2, go_sem]
    · simp only [if_neg e]
      rw [other _ (by omega) (by omega) (by omega)]
      first | exact h.c0 i hi | exact h.c1 i hi | exact h.c2 i hi
theorem WaysAt.setCells {w : World} {g n : Nat} {f : Nat → Way} (h : WaysAt w g n f) {o k : Nat} (hk : o + k ≤ n) (f' : Nat → Way) :
    WaysAt (w.setCells g (o * 3) (wayL f' k)) g n (fun i => if o ≤ i ∧ i < o + k then f' (i - o) else f i) := by
  have hl := wayL_len f' k
  have hex : ∀ j, j < n * 3 → (w.cell? ⟨g, j, none⟩).isSome = true := fun j hj => by
    rcases (by omega : j = j / 3 * 3 ∨ j = j / 3 * 3 + 1 ∨ j = j / 3 * 3 + 2) with e | e | e
    · rw [e, h.c0 (j / 3) (by omega)]; rfl
    · rw [e, h.c1 (j / 3) (by omega)]; rfl
    · rw [e, h.c2 (j / 3) (by omega)]; rfl
  have hin : ∀ j v, (wayL f' k)[j]? = some v → (w.setCells g (o * 3) (wayL f' k)).cell? ⟨g, o * 3 + j, none⟩ = some v := fun j v hv => by
    obtain ⟨hj, e⟩ := List.getElem?_eq_some_iff.1 hv
    rw [World.cell?_setCells_in g (wayL f' k) (o * 3) w (fun j hj => hex _ (by omega)) j hj, e]
  have hout : ∀ j, (j < o * 3 ∨ o * 3 + k * 3 ≤ j) → (w.setCells g (o * 3) (wayL f' k)).cell? ⟨g, j, none⟩ = w.cell? ⟨g, j, none⟩ := fun j hj =>
    World.cell?_setCells_out g _ _ _ _ (fun _ _ => by rw [hl]; exact hj)
  have hsz : (w.setCells g (o * 3) (wayL f' k)).heap.size = w.heap.size := by
    have : ∀ (vs : List Value) (p : Nat) (w : World), (w.setCells g p vs).heap.size = w.heap.size := by
      intro vs
      induction vs with
      | nil => intro p w; rfl
      | cons v r ih => intro p w; rw [World.setCells, ih]; simp [World.setCell]
    exact this _ _ _
  refine ⟨by rw [hsz]; exact h.lt, fun i hi => ?_, fun i hi => ?_, fun i hi => ?_, fun j => by rw [World.frozen?_setCells]; exact h.fr j⟩
  all_goals
    by_cases e : o ≤ i ∧ i < o + k
    · rw [if_pos e]
      obtain ⟨a, b, c⟩ := wayL_get f' (n := k) (i := i - o) (by omega)
      first
        | (rw [← hin _ _ a]; congr 2; omega)
        | (rw [← hin _ _ b]; congr 2; omega)
        | (rw [← hin _ _ c]; congr 2; omega)
    · rw [if_neg e, hout _ (by omega)]
      first | exact h.c0 i hi | exact h.c1 i hi | exact h.c2 i hi
theorem waysAt_own {w : World} {base g n cap : Nat} {e : TypeId} {f : Nat → Way} (h : w.ownsRow base e 3 (.slice (some ⟨g, 0, none⟩) n cap) n (wayL f n)) : base ≤ g ∧ WaysAt w g n f := by
  have hlt := h.lt g rfl
  have hc : ∀ j u, (wayL f n)[j]? = some u → w.cell? ⟨g, j, none⟩ = some u := fun j u hu => by
    have := h.cells (g := g) rfl j u hu
    rwa [show (⟨g, 0, none⟩ : Addr).add j = ⟨g, j, none⟩ from by unfold Addr.add; split <;> simp_all] at this
  exact ⟨hlt.1, hlt.2, fun i hi => hc _ _ (wayL_get f hi).1, fun i hi => hc _ _ (wayL_get f hi).2.1, fun i hi => hc _ _ (wayL_get f hi).2.2, fun j => h.frozenAt j⟩
theorem infoWay : (Tryd.prog.info? 72).map (fun i => (i.zero, i.size, i.bytes)) = some (some (.agg #[.int .i64 0, .int .i64 0, .int .i64 0]), 3, 24) := by kernel_rfl
theorem cheaper_any (x y : Way) (w : World) :
    Calls Tryd.prog 29 #[.agg #[.int .i64 x.rings, .int .i64 x.pence, .int .i64 x.next], .agg #[.int .i64 y.rings, .int .i64 y.pence, .int .i64 y.next]] w fun e w' => e = .returned (.bool (decide (x.pence < y.pence))) ∧ Below w.heap.size w w' := by
  have hb0 := bAlloc (bAlloc (Below.refl w.heap.size w) (.cells #[.int .i64 x.rings, .int .i64 x.pence, .int .i64 x.next] 72)) (.cells #[.int .i64 y.rings, .int .i64 y.pence, .int .i64 y.next] 72)
  have HB := Lib.hid hb0
  clear hb0
  by_cases h : x.pence < y.pence
  all_goals
    go_enter Tryd.func29, Tryd.ntmps29
    go_wp2_with fail
    go_ret
    exact ⟨ret_bool (by simp [h]), HB.out⟩
/-- what Clone hands back: a new row with the same ways -/
def Cloned (w w' : World) (n : Nat) (f : Nat → Way) (e : Ending) : Prop :=
  ∃ g' c', e = .returned (.slice (some ⟨g', 0, none⟩) n c') ∧ w.heap.size ≤ g' ∧ WaysAt w' g' n f ∧ Below w.heap.size w w'
set_option maxHeartbeats 2000000 in
set_option maxRecDepth 100000 in
theorem clone_any (g n c : Nat) (f : Nat → Way) (w : World) (h0 : 0 < n) (hn : n ≤ 13) (h : WaysAt w g n f) :
    Calls Tryd.prog 57 #[.slice (some ⟨g, 0, none⟩) n c] w fun e w' => Cloned w w' n f e := by
  have HW := Lib.hid h
  clear h
  obtain ⟨i0, hi, hz0, hz1, hz2⟩ := info_parts infoWay
  have q : ∀ (w : World) (a : Option Addr) (n c n' c' : Nat), (binOp .eql 99 (.slice a n c) (.slice none n' c')).run Tryd.prog w = .ok (.bool a.isNone) w := fun w a n c n' c' => Lib.run_eql_slice_nil w _ _ a n c n' c' Tryd.underlying99
  go_enter Tryd.func57, Tryd.ntmps57
  go_wp2_with (at_builtin; refine wpList_append_own _ rfl _ _ 99 rfl w.heap.size 72 i0 (.agg #[.int .i64 0, .int .i64 0, .int .i64 0]) 3 24 Tryd.underlying99 hi hz0 hz1 hz2 rfl (by decide) _ _ _ rfl (World.ownsRow_made w #[] 0 (Nat.le_refl _) (Nat.zero_le _) rfl) ⟨g, 0, none⟩ n c (wayL f n) rfl (wayL_len f n) ?qc2 (wayL_one f n) ?qc4 ?qc5 ?qc6 ?_)
  case qc2 =>
    have := (HW.out.mono (bAlloc (Below.refl _ w) (.cells #[] 72))).read (o := 0) (k := n) (by omega)
    simpa using this
  case qc4 => unfold maxLen; omega
  case qc5 => omega
  case qc6 => simp
  intro v' w1 hown hgrow hnil
  go_wp2
  obtain ⟨hlen, hor⟩ := id hown
  rcases hor with ⟨_, h1⟩ | ⟨g', cap, cur, rfl, hb, _⟩
  · omega
  go_ret
  refine ⟨g', cap, by simp, hb, (waysAt_own hown).2, ?_⟩
  exact ((Below.refl _ w).alloc (Nat.le_refl _) _).grown hgrow (by simp) (by intro k hk; simp [Value.ownBlock] at hk; omega)
theorem to13 {n : Nat} (h0 : 0 < n) (hn : n ≤ 13) : n = 1 ∨ n = 2 ∨ n = 3 ∨ n = 4 ∨ n = 5 ∨ n = 6 ∨ n = 7 ∨ n = 8 ∨ n = 9 ∨ n = 10 ∨ n = 11 ∨ n = 12 ∨ n = 13 := by omega
theorem mul64_any (n : Nat) (w : World) (h0 : 0 < n) (hn : n ≤ 13) :
    Calls Tryd.prog 65 #[.int .u64 1, .int .u64 n] w fun e w' => e = .returned (.tuple #[.int .u64 0, .int .u64 n]) ∧ w = w' := by
  rcases to13 h0 hn with rfl | rfl | rfl | rfl | rfl | rfl | rfl | rfl | rfl | rfl | rfl | rfl | rfl
  all_goals
    go_enter Tryd.func65, Tryd.ntmps65
    go_wp2
    go_ret2
    exact ⟨rfl, rfl⟩
theorem mul_any (n : Nat) (w : World) (h0 : 0 < n) (hn : n ≤ 13) :
    Calls Tryd.prog 63 #[.int .u64 1, .int .u64 n] w fun e w' => e = .returned (.tuple #[.int .u64 0, .int .u64 n]) ∧ w = w' := by
  go_enter Tryd.func63, Tryd.ntmps63
  go_wp2_with (go_at_call 65; refine (mul64_any n _ h0 hn).mono ?_; rintro e w1 ⟨rfl, rfl⟩)
  go_ret2
  exact ⟨rfl, rfl⟩
/-- copy between two rows of ways: all is read before anything is written -/
theorem run_copy_ways {P : Program} (w : World) (dT sT ty elem : TypeId) (g o dLen dCap : Nat) (g2 o2 sLen sCap n n2 k : Nat) (f f2 : Nat → Way)
    (hu : P.underlying dT = some (.slice elem)) (hs : (P.info? elem).map (·.size) = some 3) (hk : k = Nat.min sLen dLen)
    (h : WaysAt w g n f) (h2 : WaysAt w g2 n2 f2) (hd : o + k ≤ n) (hd2 : o2 + k ≤ n2) :
    (Builtin.copy_ #[dT, sT] ty #[.slice (some ⟨g, o * 3, none⟩) dLen dCap, .slice (some ⟨g2, o2 * 3, none⟩) sLen sCap]).run P w = .ok (goInt k) (w.setCells g (o * 3) (wayL (fun i => f2 (o2 + i)) k)) := by
  have hl := run_loadCells_list (P := P) w ⟨g2, o2 * 3, none⟩ (wayL (fun i => f2 (o2 + i)) k) (h2.read hd2)
  rw [wayL_len] at hl
  have hex : ∀ j, j < n * 3 → (w.cell? ⟨g, j, none⟩).isSome = true := fun j hj => by
    rcases (by omega : j = j / 3 * 3 ∨ j = j / 3 * 3 + 1 ∨ j = j / 3 * 3 + 2) with e | e | e
    · rw [e, h.c0 (j / 3) (by omega)]; rfl
    · rw [e, h.c1 (j / 3) (by omega)]; rfl
    · rw [e, h.c2 (j / 3) (by omega)]; rfl
  have hst := run_storeCells_cells (P := P) g (o * 3) (wayL (fun i => f2 (o2 + i)) k) 0 w (fun j hj => by rw [wayL_len] at hj; exact hex _ (by omega)) (fun j _ => h.fr _) (wayL_one _ _)
  cases hq : P.info? elem with
  | none => simp [hq] at hs
  | some i =>
    have hi : i.size = 3 := by simpa [hq] using hs
    simp [Builtin.copy_, run_underlying hu, Builtin.lenOf, Builtin.firstCells, sizeOf, typeInfo, hq, hi, ← hk, hl, hst]
theorem below_setCells {b : Nat} : ∀ (vs : List Value) (o : Nat) {w x : World}, Below w.heap.size w x → w.heap.size ≤ b → Below w.heap.size w (x.setCells b o vs)
  | [], _, _, _, h, _ => h
  | v :: r, o, w, x, h, hb => below_setCells r (o + 1) (h.setCell (by simpa using hb) v) hb
theorem wpList_copy_ways {P : Program} {w : World} {ops : Array Oper} {rest : List Oper} {o : Oper} {a : Act} {Q : Exit → Act → World → Prop} (hgd : o.guard = none) (d s : Operand) (dT sT : TypeId)
    (ho : o.op = .call { callee := .builtin .copy, args := #[d, s], argTypes := #[dT, sT] }) (elem : TypeId) (hu : P.underlying dT = some (.slice elem)) (hsz : (P.info? elem).map (·.size) = some 3)
    (g p dLen dCap g2 p2 sLen sCap n n2 q q2 k : Nat) (f f2 : Nat → Way) (hd : a.eval d = .slice (some ⟨g, p, none⟩) dLen dCap) (hs : a.eval s = .slice (some ⟨g2, p2, none⟩) sLen sCap)
    (hp : p = q * 3) (hp2 : p2 = q2 * 3) (hk : k = Nat.min sLen dLen) (h1 : WaysAt w g n f) (h2 : WaysAt w g2 n2 f2) (hf : q + k ≤ n) (hf2 : q2 + k ≤ n2) (w0 : World) (hb : Below w0.heap.size w0 w) (hg : w0.heap.size ≤ g)
    (h : ∀ w', WaysAt w' g n (fun i => if q ≤ i ∧ i < q + k then f2 (q2 + (i - q)) else f i) → Below w0.heap.size w0 w' → wpList P ops Q rest (a.put o.dst (goInt k)) w') : wpList P ops Q (o :: rest) a w := by
  subst hp hp2
  refine wpList_plain hgd fun K hK => ?_
  have hrun := run_copy_ways (P := P) w dT sT o.type elem g q dLen dCap g2 q2 sLen sCap n n2 k f f2 hu hsz hk h1 h2 hf hf2
  unfold Oper.wp
  simp [execOp, ho, resolve, invoke, builtin, hd, hs, hrun, Result.andThen]
  exact hK _ _ (h _ (h1.setCells hf _) (below_setCells _ _ hb hg))
theorem step_copy_ways {P : Program} {ops : Array Oper} {o : Oper} {a : Act} {w : World} {K : Act → World → Prop} {Q : Exit → Act → World → Prop} {E : Prop} (hgd : o.guard = none) (d s : Operand) (dT sT : TypeId)
    (ho : o.op = .call { callee := .builtin .copy, args := #[d, s], argTypes := #[dT, sT] }) (elem : TypeId) (hu : P.underlying dT = some (.slice elem)) (hsz : (P.info? elem).map (·.size) = some 3)
    (g p dLen dCap g2 p2 sLen sCap n n2 q q2 k : Nat) (f f2 : Nat → Way) (hd : a.eval d = .slice (some ⟨g, p, none⟩) dLen dCap) (hs : a.eval s = .slice (some ⟨g2, p2, none⟩) sLen sCap)
    (hp : p = q * 3) (hp2 : p2 = q2 * 3) (hk : k = Nat.min sLen dLen) (h1 : WaysAt w g n f) (h2 : WaysAt w g2 n2 f2) (hf : q + k ≤ n) (hf2 : q2 + k ≤ n2) (w0 : World) (hb : Below w0.heap.size w0 w) (hg : w0.heap.size ≤ g)
    (h : ∀ w', Hid (WaysAt w' g n (fun i => if q ≤ i ∧ i < q + k then f2 (q2 + (i - q)) else f i)) → Hid (Below w0.heap.size w0 w') → K (a.put o.dst (goInt k)) w') :
    if Region.wanted o (yielded ops a.tmps) = true then Oper.wp P o a w K Q else E := by
  have hw : Region.wanted o (yielded ops a.tmps) = true := by simp [Region.wanted, hgd]
  rw [if_pos hw]
  subst hp hp2
  have hrun := run_copy_ways (P := P) w dT sT o.type elem g q dLen dCap g2 q2 sLen sCap n n2 k f f2 hu hsz hk h1 h2 hf hf2
  unfold Oper.wp
  simp [execOp, ho, resolve, invoke, builtin, hd, hs, hrun, Result.andThen]
  exact h _ (show _ from h1.setCells hf _) (show _ from below_setCells _ _ hb hg)
theorem sizeWay : (Tryd.prog.info? 72).map (·.size) = some 3 := by kernel_rfl
theorem waysAt_zero (n : Nat) : (madeCells (Value.agg #[.int .i64 0, .int .i64 0, .int .i64 0]).cells (n * 3)).toList = wayL (fun _ => ⟨0, 0, 0⟩) n := by
  apply List.ext_getElem?
  intro j
  by_cases hj : j < n * 3
  · obtain ⟨a, b, c⟩ := wayL_get (fun _ => ⟨0, 0, 0⟩) (n := n) (i := j / 3) (by omega)
    rcases (by omega : j = j / 3 * 3 ∨ j = j / 3 * 3 + 1 ∨ j = j / 3 * 3 + 2) with e | e | e
    · have h1 : j / 3 * 3 < n * 3 := by omega
      have h2 : (j / 3 * 3) % 3 = 0 := by omega
      rw [e, a]; simp [madeCells, Value.cells, h1, h2]
    · have h1 : j / 3 * 3 + 1 < n * 3 := by omega
      have h2 : (j / 3 * 3 + 1) % 3 = 1 := by omega
      rw [e, b]; simp [madeCells, Value.cells, h1, h2]
    · have h1 : j / 3 * 3 + 2 < n * 3 := by omega
      have h2 : (j / 3 * 3 + 2) % 3 = 2 := by omega
      rw [e, c]; simp [madeCells, Value.cells, h1, h2]
  · rw [List.getElem?_eq_none (by simp [madeCells]; omega), List.getElem?_eq_none (by rw [wayL_len]; omega)]
/-- what is there in Repeat's loop: a row of N ways, the first k of which are those that there are not -/
structure Filled (w wr : World) (N k : Nat) : Prop where
  at_ : ∃ f, WaysAt wr w.heap.size N f ∧ ∀ j, j < k → f j = noWay
  below : Below w.heap.size w wr
theorem filled_go {w w2 : World} {N k m : Nat} {f : Nat → Way} (h : ∀ j, j < k → f j = noWay) (hm : m ≤ k) (h2 : WaysAt w2 w.heap.size N (fun i => if k ≤ i ∧ i < k + m then f (0 + (i - k)) else f i)) (hb : Below w.heap.size w w2) : Filled w w2 N (k + m) :=
  ⟨⟨_, h2, fun j hj => by
    by_cases e : k ≤ j ∧ j < k + m
    · simp only [if_pos e]; exact h _ (by omega)
    · simp only [if_neg e]; exact h _ (by omega)⟩, hb⟩
set_option maxHeartbeats 2000000 in
set_option maxRecDepth 100000 in
theorem repeat_any (g c N : Nat) (K : Int) (hK : K = N) (w : World) (h0 : 0 < N) (hN : N ≤ 13) (h : WaysAt w g 1 (fun _ => noWay)) :
    Calls Tryd.prog 56 #[.slice (some ⟨g, 0, none⟩) 1 c, .int .i64 K] w fun e w' => Cloned w w' N (fun _ => noWay) e := by
  subst hK
  have HW := Lib.hid h
  clear h
  obtain ⟨i0, hi, hz0, hz1, hz2⟩ := info_parts infoWay
  go_enter Tryd.func56, Tryd.ntmps56
  go_wp2_with (first | (go_at_call 63; refine (mul_any N _ h0 hN).mono ?_; rintro e w1 ⟨rfl, rfl⟩) | (at_make; refine wpList_make_full _ rfl _ _ 99 rfl w.heap.size 72 i0 (.agg #[.int .i64 0, .int .i64 0, .int .i64 0]) 3 Tryd.underlying99 hi hz0 hz1 .i64 .i64 _ _ N rfl rfl (by omega) (by omega) (by rw [hz2]; omega) (by unfold maxLen; omega) (Nat.le_refl _) ?_; intro w1 hown hgrow; rw [waysAt_zero] at hown; have HN := Lib.hid (waysAt_own hown).2; have HB := Lib.hid (below_grownBy hgrow (Nat.le_refl _) (fun _ e => nomatch e)); clear hown hgrow) | ((with_reducible show wpList _ _ _ _ _ _); refine wpList_copy_ways (o := ⟨some 33, _, _, _, _, _⟩) rfl (.tmp 31) (.tmp 32) 99 99 rfl 72 Tryd.underlying99 sizeWay w.heap.size 0 N N g 0 1 c N 1 0 0 1 (fun _ => ⟨0, 0, 0⟩) (fun _ => noWay) rfl rfl rfl rfl (by show 1 = min 1 N; omega) HN.out (HW.out.mono HB.out) (by omega) (by omega) w HB.out (Nat.le_refl _) ?_; intro w2 h2 hb2; have HF := Lib.hid (Filled.mk (k := 1) ⟨_, h2, fun j hj => (by obtain rfl : j = 0 := (by omega); simp)⟩ hb2); clear h2 hb2))
  go_loopw [8] (fun i wr => ∃ k : Nat, 1 ≤ k ∧ k ≤ N ∧ i = .int .i64 k ∧ Filled w wr N k) (fun i _ => N - (intOf i).toNat)
  case atStart => exact ⟨1, Nat.le_refl _, by omega, rfl, HF.out⟩
  case round =>
    obtain ⟨k, hk1, hk, rfl, hrel⟩ := hrel
    obtain ⟨⟨f, hW, hF⟩, hB⟩ := hrel
    have HW1 := Lib.hid hW
    have HF1 := Lib.hid hF
    have HB1 := Lib.hid hB
    clear hW hF hB
    by_cases hlt : k < N
    · have hne : ¬ N = k := by omega
      go_wp2_with fail
      go_region_law (refine step_copy_ways rfl (.tmp 41) (.tmp 44) 99 99 rfl 72 Tryd.underlying99 sizeWay w.heap.size (k * 3) (N - k) (N - k) w.heap.size 0 k N N N k 0 (min k (N - k)) f f (by simp [Act.eval, Act.put]) (by simp [Act.eval, Act.put]) rfl rfl rfl (HW1.out.mono (bDrew (Below.refl _ _))) (HW1.out.mono (bDrew (Below.refl _ _))) (by omega) (by omega) w (bDrew HB1.out) (Nat.le_refl _) ?_; intro w2 h2 hb2)
      have e1 : IntKind.i64.wrap ((k : Int) + ((min k (N - k) : Nat) : Int)) = ((k + min k (N - k) : Nat) : Int) := (IntWalk.i64_in _ (by omega)).trans (by omega)
      simp only [e1]
      go_simp
      go_roundw
      case rel => refine ⟨_, _, _, _, _, _, _, _, _, _, _, _, _, _, ?_, rfl⟩; exact ⟨k + min k (N - k), by omega, by omega, by go_num, filled_go HF1.out (Nat.min_le_left _ _) h2.out hb2.out⟩
      case measure => simp [intOf]; omega
    · obtain rfl : k = N := by omega
      go_wp2_with fail
      go_ret
      exact ⟨w.heap.size, k, rfl, Nat.le_refl _, HW1.out.congr HF1.out, HB1.out⟩
/-- one ring at the depth d, ahead of a way -/
def Sh.wayTo (S : Sh) (x : Way) (d : Nat) : Way := ⟨x.rings + 1, x.pence + S.ringc d, d⟩
/-- a place for the next ring looked at -/
def Sh.look (S : Sh) (lt : Way → Way → Bool) (prev : Nat → Way) (cur : Way) (d : Nat) : Way :=
  if prev d = noWay ∨ S.restsB d = false then cur else if cur = noWay ∨ lt (S.wayTo (prev d) d) cur = true then S.wayTo (prev d) d else cur
/-- m places looked at from d + 1 on -/
def Sh.lookTo (S : Sh) (lt : Way → Way → Bool) (prev : Nat → Way) (d : Nat) : Nat → Way
  | 0 => prev d
  | m + 1 => S.look lt prev (S.lookTo lt prev d m) (d + 1 + m)
def Sh.moreWays (S : Sh) (lt : Way → Way → Bool) (prev : Nat → Way) (d : Nat) : Way := if d < S.nf then S.lookTo lt prev d (S.falls d - d) else prev d
def Sh.waysOf (S : Sh) (lt : Way → Way → Bool) : Nat → Nat → Way
  | 0 => fun d => if d = S.nf then ⟨0, 0, 0⟩ else noWay
  | k + 1 => S.moreWays lt (S.waysOf lt k)
end Go.Proofs.YtdboicnlkbnbnaaDoor
