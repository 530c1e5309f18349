/- Walks: within, the checks of a shaft, in the program and in the reference. No condition. -/
import Derived.Test.YtbbnpneabmldnaaDoorShaftBase
namespace Go.Proofs.YtbbnpneabmldnaaDoor
open Go.RowKit Go.Sort

theorem within_any (n lo hi : Int) (w : World) :
    Calls Tryd.prog 62 #[.int .i64 n, .int .i64 lo, .int .i64 hi] w fun e w' => e = .returned (.bool (inR n lo hi)) ∧ w = w' := by
  go_enter Tryd.func62, Tryd.ntmps62
  by_cases h1 : lo ≤ n <;> by_cases h2 : n ≤ hi
  all_goals
    go_wp2
    go_ret
    first
      | exact ⟨ret_bool (inR_t (by omega)).symm, rfl⟩
      | exact ⟨ret_bool (inR_f (by omega)).symm, rfl⟩
theorem Within01_any (n lo hi : Int) (w : World) :
    Calls Tryd.prog 32 #[.int .i64 n, .int .i64 lo, .int .i64 hi] w fun e w' => e = .returned (.bool (inR n lo hi)) ∧ w = w' := by
  go_enter Tryd.func32, Tryd.ntmps32
  by_cases h1 : lo ≤ n <;> by_cases h2 : n ≤ hi
  all_goals
    go_wp2
    go_ret
    first
      | exact ⟨ret_bool (inR_t (by omega)).symm, rfl⟩
      | exact ⟨ret_bool (inR_f (by omega)).symm, rfl⟩
theorem within02_any (n lo hi : Int) (w : World) :
    Calls Tryd.prog 66 #[.int .i64 n, .int .i64 lo, .int .i64 hi] w fun e w' => e = .returned (.bool (inR n lo hi)) ∧ w = w' := by
  go_enter Tryd.func66, Tryd.ntmps66
  go_wp2_with (go_at_call 32; refine (Within01_any _ _ _ _).mono ?_; rintro e w' ⟨rfl, rfl⟩)
  go_ret
  exact ⟨rfl, rfl⟩

theorem bad_cases (r : Rock) : (inR r.hours 0 9 = false ∧ r.bad = true) ∨ (inR r.hours 0 9 = true ∧ inR r.pence 0 99 = false ∧ r.bad = true) ∨
    (inR r.hours 0 9 = true ∧ inR r.pence 0 99 = true ∧ inR r.stand 0 12 = false ∧ r.bad = true) ∨
    (inR r.hours 0 9 = true ∧ inR r.pence 0 99 = true ∧ inR r.stand 0 12 = true ∧ inR r.seat 0 99 = true ∧ r.bad = false) ∨
    (inR r.hours 0 9 = true ∧ inR r.pence 0 99 = true ∧ inR r.stand 0 12 = true ∧ inR r.seat 0 99 = false ∧ ∃ b, (r.seat != -1) = b ∧ r.bad = b) := by
  unfold Rock.bad
  cases inR r.hours 0 9 <;> cases inR r.pence 0 99 <;> cases inR r.stand 0 12 <;> cases inR r.seat 0 99 <;> cases (r.seat != -1) <;> simp
theorem check1_any (r : Rock) (w : World) :
    Calls Tryd.prog 61 #[.agg #[.int .i64 r.hours, .int .i64 r.pence, .int .i64 r.stand, .int .i64 r.seat]] w fun e w' => e = .returned (.bool r.bad) ∧ Below w.heap.size w w' := by
  rcases bad_cases r with ⟨h1, hr⟩ | ⟨h1, h2, hr⟩ | ⟨h1, h2, h3, hr⟩ | ⟨h1, h2, h3, h4, hr⟩ | ⟨h1, h2, h3, h4, b, h5, hr⟩
  case inr.inr.inr.inr =>
    cases b
    all_goals
      have HR := Lib.hid hr
      clear hr
      go_enter Tryd.func61, Tryd.ntmps61
      go_wp2_with (go_at_call 62; refine (within_any _ _ _ _).mono ?_; rintro e w' ⟨rfl, rfl⟩)
      go_ret
      exact ⟨ret_bool HR.out.symm, (Below.refl _ _).alloc (Nat.le_refl _) _⟩
  all_goals
    have HR := Lib.hid hr
    clear hr
    go_enter Tryd.func61, Tryd.ntmps61
    go_wp2_with (go_at_call 62; refine (within_any _ _ _ _).mono ?_; rintro e w' ⟨rfl, rfl⟩)
    go_ret
    exact ⟨ret_bool HR.out.symm, (Below.refl _ _).alloc (Nat.le_refl _) _⟩

/-- what slices.IndexFunc returns says whether one was found -/
def Found (b : Bool) (w : World) (e : Ending) (w' : World) : Prop := ∃ k : Int, e = .returned (.int .i64 k) ∧ decide (0 ≤ k) = b ∧ Below w.heap.size w w'

set_option maxHeartbeats 400000 in
theorem indexRocks (A : Option Addr) (n c : Nat) (f : Nat → Rock) (w : World) (hn : n ≤ 9223372036854775807) (hr : RocksAt w A n f) :
    Calls Tryd.prog 86 #[.slice A n c, .func (.func 61) #[] #[]] w (Found (anyB (fun i => (f i).bad) n) w) := by
  have HC := Lib.hid hr
  clear hr
  go_enter Tryd.func86, Tryd.ntmps86
  go_wp2_with fail
  go_loopw [5, 8] (fun _ i wr => ∃ k : Nat, k ≤ n ∧ i = .int .i64 k ∧ anyB (fun i => (f i).bad) k = false ∧ Below w.heap.size w wr) (fun _ i _ => n - (intOf i).toNat)
  case atStart => exact ⟨0, Nat.zero_le _, rfl, rfl, Below.refl _ _⟩
  case round =>
    obtain ⟨k, hk, rfl, hno, hbel⟩ := hrel
    have HN := Lib.hid hno
    clear hno
    by_cases hlt : k < n
    · rcases HC.out with h0 | ⟨b, o, hA, hb, hcell⟩
      · omega
      obtain ⟨c0, c1, c2, c3⟩ := hcell k hlt
      clear hcell
      subst hA
      obtain ⟨bc, bf⟩ := bcell hbel
      cases hbad : (f k).bad
      · go_wp2_with (go_at_call 61; refine (check1_any (f k) _).mono ?_; rintro e w' ⟨rfl, hb2⟩)
        go_roundw
        case rel => exact ⟨k + 1, by omega, by go_num, anyB_step HN.out hbad, bTrans hbel hb2⟩
        case measure => simp [intOf]; omega
      · go_wp2_with (go_at_call 61; refine (check1_any (f k) _).mono ?_; rintro e w' ⟨rfl, hb2⟩)
        go_ret
        exact ⟨k, rfl, by rw [anyB_hit hlt hbad]; simp, bTrans hbel hb2⟩
    · obtain rfl : k = n := by omega
      go_wp2_with fail
      go_ret
      exact ⟨-1, rfl, by simp [HN.out], hbel⟩
theorem containsRocks (A : Option Addr) (n c : Nat) (f : Nat → Rock) (w : World) (hn : n ≤ 9223372036854775807) (hr : RocksAt w A n f) :
    Calls Tryd.prog 64 #[.slice A n c, .func (.func 61) #[] #[]] w fun e w' => e = .returned (.bool (anyB (fun i => (f i).bad) n)) ∧ Below w.heap.size w w' := by
  go_enter Tryd.func64, Tryd.ntmps64
  go_wp2_with (go_at_call 86; refine (indexRocks _ _ _ f _ hn hr).mono ?_; rintro e w' ⟨k, rfl, hk, hb⟩; have HK := Lib.hid hk; clear hk)
  all_goals
    go_ret
    exact ⟨ret_bool (by rw [← HK.out]), hb⟩

theorem check2_any (n : Int) (a : Addr) (A : Option Addr) (k c : Nat) (w : World) (hk : k ≤ 9223372036854775807) (hc : w.cell? a = some (.slice A k c)) :
    Calls Tryd.prog 63 #[.int .i64 n, .pointer (some a)] w fun e w' => e = .returned (.bool (!inR n 0 (k - 1))) ∧ w = w' := by
  go_enter Tryd.func63, Tryd.ntmps63
  go_wp2_with (go_at_call 62; refine (within_any _ _ _ _).mono ?_; rintro e w' ⟨rfl, rfl⟩)
  go_ret
  exact ⟨rfl, rfl⟩
set_option maxHeartbeats 400000 in
theorem indexInts (A : Option Addr) (n c : Nat) (f : Nat → Int) (a : Addr) (A' : Option Addr) (k' c' : Nat) (w : World) (hn : n ≤ 9223372036854775807) (hk' : k' ≤ 9223372036854775807) (hr : IntsAt w A n f)
    (ha : a.block < w.heap.size) (hca : w.cell? a = some (.slice A' k' c')) :
    Calls Tryd.prog 87 #[.slice A n c, .func (.func 63) #[] #[.pointer (some a)]] w (Found (anyB (fun i => !inR (f i) 0 (k' - 1)) n) w) := by
  have HC := Lib.hid hr
  clear hr
  go_enter Tryd.func87, Tryd.ntmps87
  go_wp2_with fail
  go_loopw [5, 8] (fun _ i wr => ∃ k : Nat, k ≤ n ∧ i = .int .i64 k ∧ anyB (fun i => !inR (f i) 0 (k' - 1)) k = false ∧ Below w.heap.size w wr) (fun _ i _ => n - (intOf i).toNat)
  case atStart => exact ⟨0, Nat.zero_le _, rfl, rfl, Below.refl _ _⟩
  case round =>
    obtain ⟨k, hk, rfl, hno, hbel⟩ := hrel
    have HN := Lib.hid hno
    clear hno
    by_cases hlt : k < n
    · rcases HC.out with h0 | ⟨b, o, hA, hb, hcell⟩
      · omega
      have c0 := hcell k hlt
      clear hcell
      subst hA
      have hca' : wr.cell? a = some (.slice A' k' c') := (hbel.cell ha).trans hca
      obtain ⟨bc, bf⟩ := bcell hbel
      cases hbad : inR (f k) 0 (k' - 1)
      · go_wp2_with (go_at_call 63; refine (check2_any (f k) a A' k' c' _ hk' hca').mono ?_; rintro e w' ⟨rfl, rfl⟩)
        go_ret
        exact ⟨k, rfl, by rw [anyB_hit hlt (by simp [hbad])]; simp, hbel⟩
      · go_wp2_with (go_at_call 63; refine (check2_any (f k) a A' k' c' _ hk' hca').mono ?_; rintro e w' ⟨rfl, rfl⟩)
        go_roundw
        case rel => exact ⟨k + 1, by omega, by go_num, anyB_step HN.out (by simp [hbad]), hbel⟩
        case measure => simp [intOf]; omega
    · obtain rfl : k = n := by omega
      go_wp2_with fail
      go_ret
      exact ⟨-1, rfl, by simp [HN.out], hbel⟩
theorem containsInts (A : Option Addr) (n c : Nat) (f : Nat → Int) (a : Addr) (A' : Option Addr) (k' c' : Nat) (w : World) (hn : n ≤ 9223372036854775807) (hk' : k' ≤ 9223372036854775807) (hr : IntsAt w A n f)
    (ha : a.block < w.heap.size) (hca : w.cell? a = some (.slice A' k' c')) :
    Calls Tryd.prog 65 #[.slice A n c, .func (.func 63) #[] #[.pointer (some a)]] w
      fun e w' => e = .returned (.bool (anyB (fun i => !inR (f i) 0 (k' - 1)) n)) ∧ Below w.heap.size w w' := by
  go_enter Tryd.func65, Tryd.ntmps65
  go_wp2_with (go_at_call 87; refine (indexInts _ _ _ f a A' k' c' _ hn hk' hr ha hca).mono ?_; rintro e w' ⟨k, rfl, hk, hb⟩; have HK := Lib.hid hk; clear hk)
  all_goals
    go_ret
    exact ⟨ret_bool (by rw [← HK.out]), hb⟩
end Go.Proofs.YtbbnpneabmldnaaDoor
