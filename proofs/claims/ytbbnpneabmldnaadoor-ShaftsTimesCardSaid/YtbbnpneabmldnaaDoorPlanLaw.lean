/- The plain law of plans: what Fewest, Cheap, Plan and Cheapest say of all plans. No program in sight. -/
import Derived.Test.YtbbnpneabmldnaaDoorWayLaw
import Derived.Test.YtbbnpneabmldnaaDoorWalkZc
namespace Go.Proofs.YtbbnpneabmldnaaDoor
open Go.RowKit Go.Sort
def Sh.Has (S : Sh) : Prop := ∃ l, S.Chain 0 l
/-- what all feet and the rings at some stops cost -/
def Sh.pay (S : Sh) (l : List Nat) : Int := sumTo S.price S.nf + costL S.ringc l
structure Sh.IsFew (S : Sh) (m : Nat) : Prop where
  is : ∃ l, S.Chain 0 l ∧ l.length = m
  least : ∀ l, S.Chain 0 l → m ≤ l.length
structure Sh.IsCheap (S : Sh) (n : Int) : Prop where
  is : ∃ l, S.Chain 0 l ∧ S.pay l = n
  least : ∀ l, S.Chain 0 l → n ≤ S.pay l
section
variable {S : Sh} {lt : Way → Way → Bool} {μ : Way → Int} {c : Nat → Int}
theorem ways_has (M : Meas S lt μ c) : S.waysOf lt S.nf 0 ≠ noWay ↔ S.Has := by
  constructor
  · intro h
    obtain ⟨l, h1, _⟩ := waysOf_sound M S.nf 0 (Nat.zero_le _) h
    exact ⟨l, h1⟩
  · rintro ⟨l, h⟩
    exact (waysOf_best M S.nf 0 l h (by have := h.len; omega)).1
theorem chain_ways (M : Meas S lt μ c) {g : Nat → Int} : ∀ m k, (∀ i, k ≤ i → i < k + m → g i = (S.waysOf lt S.nf (stopAt g i)).next ∧ 0 < g i) → ¬ 0 < (S.waysOf lt S.nf (stopAt g (k + m))).next → stopAt g k ≤ S.nf → S.waysOf lt S.nf (stopAt g k) ≠ noWay →
    S.Chain (stopAt g k) (stopsL g k m) ∧ costL c (stopsL g k m) = μ (S.waysOf lt S.nf (stopAt g k))
  | 0, k, _, hend, hk, hn => by
    rcases Nat.eq_or_lt_of_le hk with e | e
    · simp only [stopsL, Sh.Chain, costL]
      refine ⟨e, ?_⟩
      rw [e, waysOf_end, M.zero]
    · obtain ⟨n, h1, h2, _⟩ := waysOf_last M e hn
      have := h2.1
      simp only [Nat.add_zero] at hend
      rw [h1] at hend
      omega
  | m + 1, k, hs, hend, hk, hn => by
    obtain ⟨hg, hp⟩ := hs k (Nat.le_refl _) (by omega)
    rcases Nat.eq_or_lt_of_le hk with e | e
    · rw [e, waysOf_end] at hg
      simp only at hg
      omega
    · obtain ⟨n, h1, h2, h3, h4⟩ := waysOf_last M e hn
      have hn' : stopAt g (k + 1) = n := by rw [stopAt_succ, hg, h1]; rfl
      have hf := S.falls_bd hk
      obtain ⟨g1, g2⟩ := chain_ways M m (k + 1) (fun i hi hi2 => hs i (by omega) (by omega)) (by rw [show k + 1 + m = k + (m + 1) from by omega]; exact hend) (by rw [hn']; have := h2.2.1; omega) (by rw [hn']; exact h3)
      rw [hn'] at g1 g2
      simp only [stopsL, Sh.Chain, costL]
      rw [← stopAt_succ, hn']
      exact ⟨⟨h2, g1⟩, by omega⟩
end
theorem rising_of_steps {S : Sh} {m : Nat} {g : Nat → Int} (hp : ∀ i, i < m → 0 < g i) (hs : ∀ i, i < m → S.okStep (stopAt g i) (stopAt g (i + 1))) (hle : stopAt g m = S.nf) : Rising 1 S.nf m g := by
  have hg : ∀ i, i < m → g i = (stopAt g (i + 1) : Nat) := fun i hi => by have := hp i hi; rw [stopAt_succ]; omega
  have hlt : ∀ j i, i < j → j < m → g i < g j := by
    intro j
    induction j with
    | zero => intro i hi; omega
    | succ j ih =>
      intro i hi hj
      have h1 := (hs (j + 1) hj).1
      have h2 := hg (j + 1) hj
      have h3 := hg j (by omega)
      rcases Nat.lt_or_ge i j with h | h
      · have := ih i h (by omega); omega
      · obtain rfl : i = j := by omega
        omega
  refine ⟨fun i hi => by have := hp i hi; omega, fun i hi => ?_, fun i j hij hj => hlt j i hij hj⟩
  rcases Nat.eq_or_lt_of_le (show i ≤ m - 1 by omega) with e | e
  · have h1 := hg i hi
    rw [show i + 1 = m from by omega, hle] at h1
    omega
  · have h1 := hlt (m - 1) i e (by omega)
    have h2 := hg (m - 1) (by omega)
    rw [show m - 1 + 1 = m from by omega, hle] at h2
    omega
/-- the stops that follow the last ways are a plan -/
theorem stops_plan {S : Sh} {lt : Way → Way → Bool} {μ : Way → Int} {c : Nat → Int} (M : Meas S lt μ c) {m : Nat} {g : Nat → Int} (h : ChainTo (S.waysOf lt S.nf) m g) (hend : ¬ 0 < (S.waysOf lt S.nf (stopAt g m)).next) (hn : S.waysOf lt S.nf 0 ≠ noWay) :
    Rising 1 S.nf m g ∧ S.Chain 0 (stopsL g 0 m) ∧ S.Plan m g ∧ costL c (stopsL g 0 m) = μ (S.waysOf lt S.nf 0) := by
  obtain ⟨h1, h2⟩ := chain_ways M (g := g) m 0 (fun i _ hi => ⟨h.step i (by omega), h.pos i (by omega)⟩) (by rw [Nat.zero_add]; exact hend) (Nat.zero_le _) hn
  have h3 := (chain_stops m 0).1 h1
  simp only [Nat.zero_add] at h3
  have hR := rising_of_steps h.pos (fun i hi => h3.1 i (Nat.zero_le _) hi) h3.2
  exact ⟨hR, h1, (plan_iff hR).2 h1, h2⟩
theorem plan_chain {S : Sh} {m : Nat} {g : Nat → Int} (h : S.Plan m g) : S.Chain 0 (stopsL g 0 m) := (plan_iff h.rising).1 h
theorem costOf_pay {S : Sh} {m : Nat} {g : Nat → Int} : S.costOf m g = S.pay (stopsL g 0 m) := by
  have := costL_stops S.ringc g m 0
  simp only [Nat.zero_add, sumTo] at this
  unfold Sh.costOf Sh.pay
  omega
theorem few_of {S : Sh} (h : S.Has) : ∃ m : Nat, (S.waysOf ltR S.nf 0).rings = m ∧ S.IsFew m := by
  have hn := (ways_has (measR S)).2 h
  obtain ⟨l, h1, _, h3, h4⟩ := waysOf_sound (measR S) S.nf 0 (Nat.zero_le _) hn
  refine ⟨l.length, h3, ⟨l, h1, rfl⟩, fun l' hl' => ?_⟩
  have h5 := (waysOf_best (measR S) S.nf 0 l' hl' (by have := hl'.len; omega)).2
  rw [costL_one] at h4 h5
  omega
theorem cheap_of {S : Sh} (h : S.Has) : S.IsCheap (sumTo S.price S.nf + (S.waysOf ltP S.nf 0).pence) := by
  have hn := (ways_has (measP S)).2 h
  obtain ⟨l, h1, _, _, h4⟩ := waysOf_sound (measP S) S.nf 0 (Nat.zero_le _) hn
  refine ⟨⟨l, h1, by unfold Sh.pay; rw [h4]⟩, fun l' hl' => ?_⟩
  have h5 := (waysOf_best (measP S) S.nf 0 l' hl' (by have := hl'.len; omega)).2
  unfold Sh.pay
  omega
theorem Sh.IsFew.le {S : Sh} {m : Nat} (h : S.IsFew m) : m ≤ S.nf := by
  obtain ⟨l, h1, h2⟩ := h.is
  have := h1.len
  omega
theorem Sh.IsFew.uniq {S : Sh} {m m' : Nat} (h : S.IsFew m) (h' : S.IsFew m') : m = m' := by
  obtain ⟨l, h1, h2⟩ := h.is
  obtain ⟨l', h1', h2'⟩ := h'.is
  have := h.least l' h1'
  have := h'.least l h1
  omega
theorem Sh.IsCheap.uniq {S : Sh} {m m' : Int} (h : S.IsCheap m) (h' : S.IsCheap m') : m = m' := by
  obtain ⟨l, h1, h2⟩ := h.is
  obtain ⟨l', h1', h2'⟩ := h'.is
  have := h.least l' h1'
  have := h'.least l h1
  omega
/-- Fewest and Cheap of a valid shaft -/
theorem out_cases {S : Sh} (ok : S.Ok) : (S.Has ∧ ∃ (m : Nat) (n : Int), S.fewestOut = ((m : Int), 0) ∧ S.cheapOut = (n, 0) ∧ S.IsFew m ∧ S.IsCheap n ∧ m ≤ S.nf ∧ 0 ≤ n ∧ n ≤ 4968) ∨ (¬ S.Has ∧ S.fewestOut = (0, 3) ∧ S.cheapOut = (0, 3)) := by
  by_cases h : S.Has
  · obtain ⟨m, h1, h2⟩ := few_of h
    have h3 := cheap_of h
    have h4 := cheapOut_some ok ((ways_has (measP S)).2 h)
    have h5 := cheapOut_bd ok
    rw [h4] at h5
    exact .inl ⟨h, m, _, by rw [fewestOut_some ok ((ways_has (measR S)).2 h), h1], h4, h2, h3, h2.le, h5.1, h5.2⟩
  · refine .inr ⟨h, fewestOut_none ok ?_, cheapOut_none ok ?_⟩
    · cases Classical.em (S.waysOf ltR S.nf 0 = noWay) with
      | inl e => exact e
      | inr e => exact absurd ((ways_has (measR S)).1 e) h
    · cases Classical.em (S.waysOf ltP S.nf 0 = noWay) with
      | inl e => exact e
      | inr e => exact absurd ((ways_has (measP S)).1 e) h
end Go.Proofs.YtbbnpneabmldnaaDoor
