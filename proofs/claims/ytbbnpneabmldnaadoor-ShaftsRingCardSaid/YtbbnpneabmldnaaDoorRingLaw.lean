/- The plain law of one more ring. No program in sight. -/
import Derived.Test.YtbbnpneabmldnaaDoorPlanLaw
namespace Go.Proofs.YtbbnpneabmldnaaDoor
open Go.RowKit Go.Sort
theorem lastS_mono {p q : Nat → Bool} (h : ∀ d, p d = true → q d = true) : ∀ f, lastS p f ≤ lastS q f
  | 0 => by have := lastS_le p 0; omega
  | f + 1 => by
    have h1 := lastS_mono h f
    have h2 := lastS_le p f
    simp only [lastS]
    cases e : p (f + 1)
    · cases q (f + 1)
      · simpa using h1
      · simp only [Bool.false_eq_true, if_false, if_true]; omega
    · rw [h _ e]
      exact Nat.le_refl _
theorem Sh.fallsAt_up {S : Sh} {a b f : Nat} (hab : a ≤ b) (hb : b ≤ f) (hf : f < 12) (h : S.fallsAt a f = false) : S.fallsAt b f = false := by
  cases e : S.fallsAt b f
  · rfl
  · obtain ⟨i, h1, h2, h3⟩ := (Sh.fallsAt_iff hb hf).1 e
    rw [(Sh.fallsAt_iff (by omega) hf).2 ⟨i, by omega, h2, by omega⟩] at h
    cases h
theorem Sh.firstFall_up {S : Sh} (ok : S.Ok) {p q : Nat → Bool} (h : ∀ d, p d = true → q d = true) : S.firstFall p ≤ S.firstFall q := by
  have hnf := ok.nf
  have h1 := firstFrom_spec (S.fallAt p) S.nf 0
  have h2 := firstFrom_spec (S.fallAt q) S.nf 0
  have e1 : S.firstFall p = firstFrom (S.fallAt p) S.nf 0 := rfl
  have e2 : S.firstFall q = firstFrom (S.fallAt q) S.nf 0 := rfl
  rcases Nat.lt_or_ge (S.firstFall q) (S.firstFall p) with h3 | h3
  · have h4 := h2.2.2.2 (by rw [← e2]; omega)
    have h5 : S.fallAt p (S.firstFall q) = false := h1.2.2.1 _ (Nat.zero_le _) (by rw [← e1]; exact h3)
    have h6 : S.fallAt q (S.firstFall q) = false := Sh.fallsAt_up (lastS_mono h _) (lastS_le _ _) (by omega) h5
    rw [← e2] at h4
    rw [h6] at h4
    cases h4
  · exact h3
/-- what a sum over the depths up to N is, of those that are held -/
def sumMem (c : Nat → Int) (p : Nat → Bool) (N : Nat) : Int := sumTo (fun i => if p (i + 1) then c (i + 1) else 0) N
theorem sumMem_congr {c : Nat → Int} {p q : Nat → Bool} {N : Nat} (h : ∀ d, 1 ≤ d → d ≤ N → p d = q d) : sumMem c p N = sumMem c q N :=
  sumTo_congr fun i hi => by rw [h (i + 1) (by omega) (by omega)]
theorem rising_sum (c : Nat → Int) {g : Nat → Int} : ∀ {N n : Nat}, Rising 1 (N : Int) n g → sumTo (fun i => c (g i).toNat) n = sumMem c (memOf n g) N
  | 0, n, h => by
    obtain rfl : n = 0 := by
      by_cases h0 : n = 0
      · exact h0
      · have := h.lo 0 (by omega); have := h.hi 0 (by omega); omega
    rfl
  | N + 1, n, h => by
    by_cases hm : memOf n g (N + 1) = true
    · obtain ⟨i, hi, e⟩ := memOf_iff.1 hm
      obtain rfl : n = i + 1 := by
        rcases Nat.lt_or_ge (i + 1) n with h1 | h1
        · have := h.lt i (i + 1) (by omega) h1; have := h.hi (i + 1) h1; omega
        · omega
      have h1 : Rising 1 (N : Int) i g := ⟨fun j hj => h.lo j (by omega), fun j hj => by have := h.lt j i hj (by omega); omega, fun j k hjk hk => h.lt j k hjk (by omega)⟩
      have ih := rising_sum c h1
      have e2 : sumMem c (memOf (i + 1) g) N = sumMem c (memOf i g) N := sumMem_congr fun d h1 h2 => by
        unfold memOf
        simp only [anyB]
        rw [show (g i == (d : Int)) = false from beq_eq_false_iff_ne.2 (by omega)]
        simp
      have e3 : (g i).toNat = N + 1 := by omega
      show sumTo _ i + c (g i).toNat = sumMem c (memOf (i + 1) g) N + if memOf (i + 1) g (N + 1) then c (N + 1) else 0
      rw [ih, e2, hm, e3]
      rfl
    · have h1 : Rising 1 (N : Int) n g := ⟨h.lo, fun j hj => by
        have h2 := h.hi j hj
        by_cases h3 : g j = ((N + 1 : Nat) : Int)
        · exact absurd (memOf_iff.2 ⟨j, hj, h3⟩) hm
        · omega, h.lt⟩
      have ih := rising_sum c h1
      show _ = sumMem c (memOf n g) N + if memOf n g (N + 1) then c (N + 1) else 0
      rw [ih, if_neg hm, Int.add_zero]
theorem sumMem_add {c : Nat → Int} {p q : Nat → Bool} {x : Nat} (h1 : 1 ≤ x) (hp : p x = false) : ∀ {N : Nat}, (∀ d, 1 ≤ d → d ≤ N → q d = (p d || d == x)) → sumMem c q N = sumMem c p N + if x ≤ N then c x else 0
  | 0, _ => by rw [if_neg (by omega)]; rfl
  | N + 1, hq => by
    have ih := sumMem_add h1 hp (N := N) (c := c) (q := q) fun d h2 h3 => hq d h2 (by omega)
    show sumMem c q N + (if q (N + 1) then c (N + 1) else 0) = sumMem c p N + (if p (N + 1) then c (N + 1) else 0) + _
    rw [ih, hq (N + 1) (by omega) (Nat.le_refl _)]
    by_cases e : x = N + 1
    · subst e
      rw [hp, if_neg (by omega), if_pos (Nat.le_refl _)]
      simp
    · rw [show (N + 1 == x) = false from beq_eq_false_iff_ne.2 (by omega), Bool.or_false]
      generalize (if p (N + 1) = true then c (N + 1) else 0) = z
      by_cases hx : x ≤ N
      · rw [if_pos hx, if_pos (Nat.le_succ_of_le hx), Int.add_right_comm]
      · rw [if_neg hx, if_neg (show ¬ x ≤ N + 1 by omega), Int.add_right_comm]
/-- stops and the same stops with one ring more -/
structure Ringed (S : Sh) (m : Nat) (g : Nat → Int) (n : Nat) (h : Nat → Int) (x : Nat) : Prop where
  one : Rising 1 (S.nf : Int) m g
  two : Rising 1 (S.nf : Int) n h
  lo : 1 ≤ x
  hi : x ≤ S.nf
  no : memOf m g x = false
  mem : ∀ d, 1 ≤ d → d ≤ S.nf → memOf n h d = (memOf m g d || d == x)
theorem Ringed.sum {S : Sh} {m n x : Nat} {g h : Nat → Int} (r : Ringed S m g n h x) (c : Nat → Int) : sumTo (fun i => c (h i).toNat) n = sumTo (fun i => c (g i).toNat) m + c x := by
  rw [rising_sum c r.one, rising_sum c r.two, sumMem_add r.lo r.no r.mem, if_pos r.hi]
theorem Ringed.count {S : Sh} {m n x : Nat} {g h : Nat → Int} (r : Ringed S m g n h x) : n = m + 1 := by
  have h1 := r.sum (fun _ => 1)
  have h2 : ∀ k, sumTo (fun _ => (1 : Int)) k = k := fun k => by
    induction k with
    | zero => rfl
    | succ k ih => simp only [sumTo, ih]; omega
  rw [h2, h2] at h1
  omega
theorem Ringed.cost {S : Sh} {m n x : Nat} {g h : Nat → Int} (r : Ringed S m g n h x) : S.costOf n h = S.costOf m g + S.ringc x := by
  unfold Sh.costOf
  rw [r.sum S.ringc]
  omega
theorem Ringed.hours {S : Sh} {m n x : Nat} {g h : Nat → Int} (r : Ringed S m g n h x) : S.hoursOf n = S.hoursOf m + S.rest := by
  unfold Sh.hoursOf
  rw [r.count, Int.natCast_add, Int.mul_add]
  simp
  omega
theorem Ringed.sub {S : Sh} {m n x : Nat} {g h : Nat → Int} (r : Ringed S m g n h x) (d : Nat) (hd : memOf m g d = true) : memOf n h d = true := by
  obtain ⟨i, hi, e⟩ := memOf_iff.1 hd
  have h1 := r.one.lo i hi
  have h2 := r.one.hi i hi
  rw [r.mem d (by omega) (by omega), hd]
  rfl
theorem Ringed.falls {S : Sh} {m n x : Nat} {g h : Nat → Int} (r : Ringed S m g n h x) (ok : S.Ok) : S.firstFall (memOf m g) ≤ S.firstFall (memOf n h) := Sh.firstFall_up ok r.sub
theorem Ringed.plan {S : Sh} {m n x : Nat} {g h : Nat → Int} (r : Ringed S m g n h x) (ok : S.Ok) (hP : S.Plan m g) : S.Plan n h ↔ S.restsB x = true := by
  constructor
  · intro hQ
    obtain ⟨i, hi, e⟩ := memOf_iff.1 (show memOf n h x = true by rw [r.mem x r.lo r.hi]; simp)
    have := hQ.rest i hi
    rw [e] at this
    simpa using this
  · intro hx
    have h1 := r.falls ok
    have h2 := hP.fall
    have h3 := (firstFrom_spec (S.fallAt (memOf n h)) S.nf 0).2.1
    have e3 : S.firstFall (memOf n h) = firstFrom (S.fallAt (memOf n h)) S.nf 0 := rfl
    refine ⟨r.two, by rw [h2] at h1; rw [← e3] at h3; omega, fun i hi => ?_, ?_⟩
    · have l1 := r.two.lo i hi
      have l2 := r.two.hi i hi
      have hm : memOf n h (h i).toNat = true := memOf_iff.2 ⟨i, hi, by omega⟩
      rw [r.mem _ (by omega) (by omega)] at hm
      rcases Bool.or_eq_true_iff.1 hm with hm | hm
      · obtain ⟨j, hj, e⟩ := memOf_iff.1 hm
        have h5 := hP.rest j hj
        rw [show (g j).toNat = (h i).toNat by omega] at h5
        exact h5
      · rw [eq_of_beq hm]; exact hx
    · have hl : 1 ≤ S.nf := Nat.le_trans r.lo r.hi
      cases m with
      | zero => have := hP.last; simp [stopAt] at this; omega
      | succ m =>
        have hl2 : (g m).toNat = S.nf := hP.last
        have hm := r.sub S.nf (memOf_iff.2 ⟨m, Nat.lt_succ_self m, by have := r.one.lo m (Nat.lt_succ_self m); omega⟩)
        obtain ⟨i, hi, e⟩ := memOf_iff.1 hm
        obtain rfl : n = i + 1 := by
          rcases Nat.lt_or_ge (i + 1) n with h4 | h4
          · have := r.two.lt i (i + 1) (by omega) h4; have := r.two.hi (i + 1) h4; omega
          · omega
        show (h i).toNat = S.nf
        omega
end Go.Proofs.YtbbnpneabmldnaaDoor
