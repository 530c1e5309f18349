/- Plain notions on shafts: where a shaft falls, sums over feet. No program in sight. -/
import Derived.Test.YtbbnpneabmldnaaDoorShaftBase
namespace Go.Proofs.YtbbnpneabmldnaaDoor
open Go.RowKit Go.Sort

/-- the first i from k on, of m, with p; else k + m -/
def firstFrom (p : Nat → Bool) : Nat → Nat → Nat
  | 0, k => k
  | m + 1, k => if p k then k else firstFrom p m (k + 1)
theorem firstFrom_spec (p : Nat → Bool) : ∀ m k, k ≤ firstFrom p m k ∧ firstFrom p m k ≤ k + m ∧ (∀ j, k ≤ j → j < firstFrom p m k → p j = false) ∧ (firstFrom p m k < k + m → p (firstFrom p m k) = true)
  | 0, k => by simp [firstFrom]; omega
  | m + 1, k => by
    unfold firstFrom
    cases h : p k
    · obtain ⟨h1, h2, h3, h4⟩ := firstFrom_spec p m (k + 1)
      simp only [Bool.false_eq_true, if_false]
      refine ⟨by omega, by omega, fun j hj hj2 => ?_, fun h5 => h4 (by omega)⟩
      rcases Nat.eq_or_lt_of_le hj with e | e
      · exact e ▸ h
      · exact h3 j e hj2
    · simp only [if_true]
      exact ⟨Nat.le_refl _, by omega, fun j hj hj2 => by omega, fun _ => h⟩
theorem firstFrom_eq (p : Nat → Bool) (m k r : Nat) (h1 : k ≤ r) (h2 : r ≤ k + m) (h3 : ∀ j, k ≤ j → j < r → p j = false) (h4 : r < k + m → p r = true) : firstFrom p m k = r := by
  obtain ⟨g1, g2, g3, g4⟩ := firstFrom_spec p m k
  rcases Nat.lt_trichotomy (firstFrom p m k) r with h | h | h
  · have := h3 _ g1 h; rw [g4 (by omega)] at this; cases this
  · exact h
  · have := g3 _ h1 h; rw [h4 (by omega)] at this; cases this
def sumTo (f : Nat → Int) : Nat → Int
  | 0 => 0
  | n + 1 => sumTo f n + f n
theorem sumTo_congr {f g : Nat → Int} {n : Nat} (h : ∀ i, i < n → f i = g i) : sumTo f n = sumTo g n := by
  induction n with
  | zero => rfl
  | succ n ih => simp only [sumTo, ih (fun i hi => h i (by omega)), h n (by omega)]
theorem sumTo_bd {f : Nat → Int} {n : Nat} {lo hi : Int} (h : ∀ i, i < n → lo ≤ f i ∧ f i ≤ hi) : (n : Int) * lo ≤ sumTo f n ∧ sumTo f n ≤ (n : Int) * hi := by
  induction n with
  | zero => simp [sumTo]
  | succ n ih =>
    obtain ⟨h1, h2⟩ := ih (fun i hi => h i (by omega))
    obtain ⟨h3, h4⟩ := h n (by omega)
    simp only [sumTo, Int.natCast_add, Int.natCast_one, Int.add_mul, Int.one_mul]
    omega

/-- the least Stand of m feet from a on (12 at the most) -/
def Sh.minSt (S : Sh) (a : Nat) : Nat → Int
  | 0 => 12
  | m + 1 => min (S.minSt a m) (S.rk (a + m)).stand
theorem Sh.minSt_bd {S : Sh} (ok : S.Ok) (a m : Nat) (h : a + m ≤ S.nf) : 0 ≤ S.minSt a m ∧ S.minSt a m ≤ 12 := by
  induction m with
  | zero => simp [Sh.minSt]
  | succ m ih =>
    have := ih (by omega)
    have h0 := (ok.rk (i := a + m) (by omega)).s0
    simp only [Sh.minSt]; omega
theorem Sh.minSt_lt {S : Sh} {a m : Nat} {x : Int} (hx : x ≤ 12) : S.minSt a m < x ↔ ∃ j, j < m ∧ (S.rk (a + j)).stand < x := by
  induction m with
  | zero => simp only [Sh.minSt]; exact ⟨fun h => by omega, fun ⟨j, h, _⟩ => by omega⟩
  | succ m ih =>
    simp only [Sh.minSt]
    constructor
    · intro h
      by_cases h1 : S.minSt a m < x
      · obtain ⟨j, hj, h2⟩ := ih.1 h1; exact ⟨j, by omega, h2⟩
      · exact ⟨m, by omega, by omega⟩
    · rintro ⟨j, hj, h2⟩
      by_cases h3 : j < m
      · have := ih.2 ⟨j, h3, h2⟩; omega
      · obtain rfl : j = m := by omega
        omega
/-- whether the shaft falls with the foot f, if the last ring is at a -/
def Sh.fallsAt (S : Sh) (a f : Nat) : Bool := decide (S.minSt a (f + 1 - a) < (f : Int) - a + 1)
theorem Sh.fallsAt_iff {S : Sh} {a f : Nat} (h : a ≤ f) (hf : f < 12) : S.fallsAt a f = true ↔ ∃ i, a ≤ i ∧ i ≤ f ∧ (S.rk i).stand < (f : Int) - a + 1 := by
  unfold Sh.fallsAt
  rw [decide_eq_true_iff, Sh.minSt_lt (by omega)]
  constructor
  · rintro ⟨j, hj, h2⟩; exact ⟨a + j, by omega, by omega, h2⟩
  · rintro ⟨i, h1, h2, h3⟩; exact ⟨i - a, by omega, by rw [show a + (i - a) = i from by omega]; exact h3⟩
/-- the first foot from a on with which it falls, if no ring is laid below a -/
def Sh.falls (S : Sh) (a : Nat) : Nat := firstFrom (S.fallsAt a) (S.nf - a) a
theorem Sh.falls_bd (S : Sh) {a : Nat} (h : a ≤ S.nf) : a ≤ S.falls a ∧ S.falls a ≤ S.nf := by
  have := firstFrom_spec (S.fallsAt a) (S.nf - a) a
  unfold Sh.falls; omega
/-- the last stop at or above f (0: there is none) -/
def lastS (mem : Nat → Bool) : Nat → Nat
  | 0 => 0
  | f + 1 => if mem (f + 1) then f + 1 else lastS mem f
theorem lastS_le (mem : Nat → Bool) (f : Nat) : lastS mem f ≤ f := by
  induction f with
  | zero => exact Nat.le_refl 0
  | succ f ih => unfold lastS; split <;> omega
/-- whether it falls with the foot f, with some stops -/
def Sh.fallAt (S : Sh) (mem : Nat → Bool) (f : Nat) : Bool := S.fallsAt (lastS mem f) f
/-- the first foot with which it falls, with some stops; the number of feet: there is none -/
def Sh.firstFall (S : Sh) (mem : Nat → Bool) : Nat := firstFrom (S.fallAt mem) S.nf 0
/-- the stops that a list of numbers is -/
def memOf (m : Nat) (g : Nat → Int) (d : Nat) : Bool := anyB (fun i => g i == (d : Int)) m
theorem memOf_iff {m : Nat} {g : Nat → Int} {d : Nat} : memOf m g d = true ↔ ∃ i, i < m ∧ g i = (d : Int) := by
  unfold memOf; rw [anyB_true]; simp

/-! ### Stops -/
def stBad (lo hi : Int) (g : Nat → Int) (i : Nat) : Bool := !inR (g i) lo hi || (decide (0 < i) && decide (g i ≤ g (i - 1)))
/-- whether numbers are strictly ascending, from lo to hi -/
def risingB (lo hi : Int) (n : Nat) (g : Nat → Int) : Bool := !anyB (stBad lo hi g) n
structure Rising (lo hi : Int) (n : Nat) (g : Nat → Int) : Prop where
  lo : ∀ i, i < n → lo ≤ g i
  hi : ∀ i, i < n → g i ≤ hi
  lt : ∀ i j, i < j → j < n → g i < g j
theorem rising_iff {lo hi : Int} {n : Nat} {g : Nat → Int} : risingB lo hi n g = true ↔ Rising lo hi n g := by
  unfold risingB
  rw [Bool.not_eq_true', anyB_false]
  constructor
  · intro h
    have h1 : ∀ i, i < n → lo ≤ g i ∧ g i ≤ hi := fun i hi => by
      have := h i hi; unfold stBad at this; simp only [Bool.or_eq_false_iff, Bool.not_eq_false', inR_iff] at this; exact this.1
    have h2 : ∀ i, i + 1 < n → g i < g (i + 1) := fun i hi => by
      have := h (i + 1) hi; unfold stBad at this; simp at this; exact this.2
    refine ⟨fun i hi => (h1 i hi).1, fun i hi => (h1 i hi).2, fun i j hij hj => ?_⟩
    induction j with
    | zero => omega
    | succ j ih =>
      have h3 := h2 j hj
      rcases Nat.lt_or_ge i j with h4 | h4
      · have := ih h4 (by omega); omega
      · obtain rfl : i = j := by omega
        exact h3
  · intro h i hi
    unfold stBad
    simp only [Bool.or_eq_false_iff, Bool.not_eq_false', inR_iff, Bool.and_eq_false_iff, decide_eq_false_iff_not]
    refine ⟨⟨h.lo i hi, h.hi i hi⟩, ?_⟩
    by_cases h0 : 0 < i
    · have := h.lt (i - 1) i (by omega) hi; exact .inr (by omega)
    · exact .inl h0
/-- the depth from which one goes on behind k stops -/
def stopAt (g : Nat → Int) : Nat → Nat
  | 0 => 0
  | k + 1 => (g k).toNat
theorem stopAt_le {hi : Int} {n : Nat} {g : Nat → Int} {N : Nat} (hN : hi = N) (h : Rising 1 hi n g) {k : Nat} (hk : k ≤ n) : stopAt g k ≤ N := by
  cases k with
  | zero => simp [stopAt]
  | succ k => have := h.hi k (by omega); simp only [stopAt]; omega
theorem lastS_between {hi : Int} {n : Nat} {g : Nat → Int} (h : Rising 1 hi n g) {k : Nat} (hk : k ≤ n) : ∀ f, stopAt g k ≤ f → (∀ i, i < n → k ≤ i → (f : Int) < g i) → lastS (memOf n g) f = stopAt g k
  | 0, h1, _ => by simp only [lastS]; omega
  | f + 1, h1, h2 => by
    unfold lastS
    cases hm : memOf n g (f + 1)
    · simp only [Bool.false_eq_true, if_false]
      refine lastS_between h hk f ?_ (fun i hi h3 => by have := h2 i hi h3; omega)
      rcases Nat.eq_or_lt_of_le h1 with e | e
      · cases k with
        | zero => simp only [stopAt] at e; omega
        | succ k =>
          have hl := h.lo k (by omega)
          have : memOf n g (f + 1) = true := memOf_iff.2 ⟨k, by omega, by simp only [stopAt] at e; omega⟩
          rw [hm] at this; cases this
      · omega
    · simp only [if_true]
      obtain ⟨i, hi, he⟩ := memOf_iff.1 hm
      have hik : i < k := by
        rcases Nat.lt_or_ge i k with h3 | h3
        · exact h3
        · have := h2 i hi h3; omega
      cases k with
      | zero => omega
      | succ k =>
        have hl := h.lo k (by omega)
        have : g i ≤ g k := by
          rcases Nat.lt_or_ge i k with h3 | h3
          · have := h.lt i k h3 (by omega); omega
          · obtain rfl : i = k := by omega
            omega
        simp only [stopAt] at h1 ⊢
        omega
/-- behind k stops: no fall before the next stop, or the first one is found -/
theorem Sh.fall_seg {S : Sh} {n : Nat} {g : Nat → Int} (h : Rising 1 S.nf n g) {k : Nat} (hk : k ≤ n) (hno : ∀ j, j < stopAt g k → S.fallAt (memOf n g) j = false) {b : Nat} (hb : ∀ i, i < n → k ≤ i → (b : Int) ≤ g i) :
    ∀ j, j < S.falls (stopAt g k) → j < b → S.fallAt (memOf n g) j = false := by
  intro j h1 h2
  rcases Nat.lt_or_ge j (stopAt g k) with h3 | h3
  · exact hno j h3
  · unfold Sh.fallAt
    rw [lastS_between h hk j h3 (fun i hi h4 => by have := hb i hi h4; omega)]
    exact (firstFrom_spec (S.fallsAt (stopAt g k)) (S.nf - stopAt g k) (stopAt g k)).2.2.1 j h3 h1
theorem Sh.fall_found {S : Sh} {n : Nat} {g : Nat → Int} (h : Rising 1 S.nf n g) {k : Nat} (hk : k ≤ n) (hno : ∀ j, j < stopAt g k → S.fallAt (memOf n g) j = false) (hb : ∀ i, i < n → k ≤ i → (S.falls (stopAt g k) : Int) < g i) :
    S.firstFall (memOf n g) = S.falls (stopAt g k) := by
  have hs := stopAt_le rfl h hk
  obtain ⟨b1, b2⟩ := S.falls_bd hs
  refine firstFrom_eq _ _ _ _ (Nat.zero_le _) (by omega) (fun j _ hj => Sh.fall_seg h hk hno (b := S.falls (stopAt g k)) (fun i hi h4 => Int.le_of_lt (hb i hi h4)) j hj hj) (fun hlt => ?_)
  unfold Sh.fallAt
  rw [lastS_between h hk _ b1 hb]
  exact (firstFrom_spec (S.fallsAt (stopAt g k)) (S.nf - stopAt g k) (stopAt g k)).2.2.2 (by unfold Sh.falls at hlt; omega)
theorem Rising.count {N : Nat} {n : Nat} {g : Nat → Int} (h : Rising 1 N n g) : n ≤ N := by
  have key : ∀ k, k < n → (k : Int) + 1 ≤ g k := by
    intro k
    induction k with
    | zero => intro hk; have := h.lo 0 hk; omega
    | succ k ih => intro hk; have := ih (by omega); have := h.lt k (k + 1) (by omega) hk; omega
  rcases Nat.eq_zero_or_pos n with h0 | h0
  · omega
  · have := key (n - 1) (by omega); have := h.hi (n - 1) (by omega); omega
/-- the price of a foot, and of a ring at a depth -/
def Sh.price (S : Sh) (i : Nat) : Int := (S.rk i).pence + i * S.deep
def Sh.ringc (S : Sh) (d : Nat) : Int := (S.rk (d - 1)).seat + d * S.haul
def Sh.restsB (S : Sh) (d : Nat) : Bool := (S.rk (d - 1)).seat != -1
def Sh.hour (S : Sh) (i : Nat) : Int := (S.rk i).hours
/-- stops that are a plan -/
structure Sh.Plan (S : Sh) (m : Nat) (g : Nat → Int) : Prop where
  rising : Rising 1 S.nf m g
  fall : S.firstFall (memOf m g) = S.nf
  rest : ∀ i, i < m → S.restsB (g i).toNat = true
  last : stopAt g m = S.nf
open Classical in
noncomputable def Sh.planB (S : Sh) (m : Nat) (g : Nat → Int) : Bool := if S.Plan m g then true else false
theorem Sh.planB_t {S : Sh} {m : Nat} {g : Nat → Int} (h : S.Plan m g) : S.planB m g = true := if_pos h
theorem Sh.planB_f {S : Sh} {m : Nat} {g : Nat → Int} (h : ¬ S.Plan m g) : S.planB m g = false := if_neg h
theorem Sh.planB_iff {S : Sh} {m : Nat} {g : Nat → Int} : S.planB m g = true ↔ S.Plan m g := by
  by_cases h : S.Plan m g
  · simp [Sh.planB_t h, h]
  · simp [Sh.planB_f h, h]
/-- what all feet and the rings of some stops cost, and how many hours they take -/
def Sh.costOf (S : Sh) (m : Nat) (g : Nat → Int) : Int := sumTo S.price S.nf + sumTo (fun i => S.ringc (g i).toNat) m
def Sh.hoursOf (S : Sh) (m : Nat) : Int := S.rest * m + sumTo S.hour S.nf
end Go.Proofs.YtbbnpneabmldnaaDoor
