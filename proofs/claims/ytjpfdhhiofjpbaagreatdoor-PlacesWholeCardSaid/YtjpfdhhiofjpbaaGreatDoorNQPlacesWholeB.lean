/- Parts joined: what the claim PlacesWhole needs beyond the others. -/
import Derived.Test.YtjpfdhhiofjpbaaGreatDoorNQPlacesWholeA
set_option linter.unusedSimpArgs false
set_option linter.unusedVariables false
namespace Go.Proofs.YtjpfdhhiofjpbaaGreatDoor
open Go.RowKit Go.Sort
/-- from the depth a the next ring can be at d -/
def Sh.okStep (S : Sh) (a d : Nat) : Prop := a < d ∧ d ≤ S.falls a ∧ S.restsB d = true
/-- stops from the depth a on to the bottom -/
def Sh.Chain (S : Sh) : Nat → List Nat → Prop
  | a, [] => a = S.nf
  | a, d :: l => S.okStep a d ∧ S.Chain d l
def costL (c : Nat → Int) : List Nat → Int
  | [] => 0
  | d :: l => c d + costL c l
theorem costL_one (l : List Nat) : costL (fun _ => 1) l = l.length := by
  induction l with
  | nil => rfl
  | cons d l ih => simp only [costL, ih, List.length_cons]; omega
theorem Sh.Chain.len {S : Sh} : ∀ {l : List Nat} {a : Nat}, S.Chain a l → a + l.length ≤ S.nf
  | [], a, h => by simp only [Sh.Chain] at h; simp; omega
  | d :: l, a, h => by have := Sh.Chain.len h.2; have := h.1.1; simp; omega
/-- what a comparison goes by -/
structure Meas (S : Sh) (lt : Way → Way → Bool) (μ : Way → Int) (c : Nat → Int) : Prop where
  iff : ∀ x y, lt x y = true ↔ μ x < μ y
  to : ∀ x d, μ (S.wayTo x d) = μ x + c d
  zero : μ ⟨0, 0, 0⟩ = 0
theorem measR (S : Sh) : Meas S ltR Way.rings (fun _ => 1) := ⟨fun x y => by simp [ltR], fun x d => rfl, rfl⟩
theorem measP (S : Sh) : Meas S ltP Way.pence S.ringc := ⟨fun x y => by simp [ltP], fun x d => rfl, rfl⟩
theorem wayTo_ne {S : Sh} {x : Way} {d : Nat} (h : 0 < d) : S.wayTo x d ≠ noWay := fun e => by
  have : (S.wayTo x d).next = noWay.next := by rw [e]
  simp only [Sh.wayTo, noWay] at this
  omega
/-- a depth that can be gone to -/
def Sh.cand (S : Sh) (prev : Nat → Way) (n : Nat) : Prop := prev n ≠ noWay ∧ S.restsB n = true
theorem look_no {S : Sh} {lt : Way → Way → Bool} {prev : Nat → Way} {cur : Way} {n : Nat} (h : ¬ S.cand prev n) : S.look lt prev cur n = cur := by
  unfold Sh.look
  rw [if_pos]
  unfold Sh.cand at h
  by_cases h1 : prev n = noWay
  · exact .inl h1
  · refine .inr ?_
    cases e : S.restsB n
    · rfl
    · exact absurd ⟨h1, e⟩ h
theorem look_yes {S : Sh} {lt : Way → Way → Bool} {μ : Way → Int} {c : Nat → Int} (M : Meas S lt μ c) {prev : Nat → Way} {cur : Way} {n : Nat} (h : S.cand prev n) :
    (S.look lt prev cur n = S.wayTo (prev n) n ∧ (cur = noWay ∨ μ (prev n) + c n < μ cur)) ∨ (S.look lt prev cur n = cur ∧ cur ≠ noWay ∧ ¬ μ (prev n) + c n < μ cur) := by
  unfold Sh.look
  rw [if_neg (by rintro (h1 | h1); exact h.1 h1; rw [h.2] at h1; cases h1)]
  by_cases h2 : cur = noWay
  · exact .inl ⟨if_pos (.inl h2), .inl h2⟩
  · by_cases h3 : μ (prev n) + c n < μ cur
    · exact .inl ⟨if_pos (.inr ((M.iff _ _).2 (by rw [M.to]; exact h3))), .inr h3⟩
    · exact .inr ⟨if_neg (by rintro (h4 | h4); exact h2 h4; exact h3 (by rw [← M.to]; exact (M.iff _ _).1 h4)), h2, h3⟩
structure LookSpec (S : Sh) (μ : Way → Int) (c : Nat → Int) (prev : Nat → Way) (d m : Nat) (r : Way) : Prop where
  from_ : r = prev d ∨ ∃ j, j < m ∧ S.cand prev (d + 1 + j) ∧ r = S.wayTo (prev (d + 1 + j)) (d + 1 + j)
  keep : prev d ≠ noWay → r ≠ noWay ∧ μ r ≤ μ (prev d)
  best : ∀ j, j < m → S.cand prev (d + 1 + j) → r ≠ noWay ∧ μ r ≤ μ (prev (d + 1 + j)) + c (d + 1 + j)
  first : prev d = noWay → ∀ j, j < m → S.cand prev (d + 1 + j) → μ r = μ (prev (d + 1 + j)) + c (d + 1 + j) → r.next ≤ (d + 1 + j : Nat)
  stay : prev d ≠ noWay → (∀ j, j < m → S.cand prev (d + 1 + j) → ¬ μ (prev (d + 1 + j)) + c (d + 1 + j) < μ (prev d)) → r = prev d
theorem lookTo_spec {S : Sh} {lt : Way → Way → Bool} {μ : Way → Int} {c : Nat → Int} (M : Meas S lt μ c) (prev : Nat → Way) (d : Nat) : ∀ m, LookSpec S μ c prev d m (S.lookTo lt prev d m)
  | 0 => ⟨.inl rfl, fun h => ⟨h, Int.le_refl _⟩, fun j hj => by omega, fun _ j hj => by omega, fun _ _ => rfl⟩
  | m + 1 => by
    obtain ⟨h1, h2, h3, h4, h5⟩ := lookTo_spec M prev d m
    show LookSpec S μ c prev d (m + 1) (S.look lt prev (S.lookTo lt prev d m) (d + 1 + m))
    generalize S.lookTo lt prev d m = cur at h1 h2 h3 h4 h5
    by_cases hc : S.cand prev (d + 1 + m)
    · rcases look_yes M (cur := cur) hc with ⟨e, hlt⟩ | ⟨e, hne, hnl⟩
      · rw [e]
        have hμ : μ (S.wayTo (prev (d + 1 + m)) (d + 1 + m)) = μ (prev (d + 1 + m)) + c (d + 1 + m) := M.to _ _
        have hne : S.wayTo (prev (d + 1 + m)) (d + 1 + m) ≠ noWay := wayTo_ne (by omega)
        refine ⟨.inr ⟨m, by omega, hc, rfl⟩, fun h => ⟨hne, ?_⟩, fun j hj hcj => ⟨hne, ?_⟩, fun h0 j hj hcj he => ?_, fun h h' => ?_⟩
        · obtain ⟨g1, g2⟩ := h2 h
          rcases hlt with hlt | hlt
          · exact absurd hlt g1
          · omega
        · rcases Nat.lt_or_ge j m with hj2 | hj2
          · obtain ⟨g1, g2⟩ := h3 j hj2 hcj
            rcases hlt with hlt | hlt
            · exact absurd hlt g1
            · omega
          · obtain rfl : j = m := by omega
            omega
        · rcases Nat.lt_or_ge j m with hj2 | hj2
          · obtain ⟨g1, g2⟩ := h3 j hj2 hcj
            rcases hlt with hlt | hlt
            · exact absurd hlt g1
            · omega
          · simp only [Sh.wayTo]; omega
        · obtain ⟨g1, g2⟩ := h2 h
          rcases hlt with hlt | hlt
          · exact absurd hlt g1
          · have h6 := h5 h (fun j hj => h' j (by omega))
            rw [h6] at hlt
            exact absurd hlt (h' m (by omega) hc)
      · rw [e]
        refine ⟨h1.imp id (fun ⟨j, hj, h⟩ => ⟨j, by omega, h⟩), h2, fun j hj hcj => ?_, fun h0 j hj hcj he => ?_, fun h h' => h5 h (fun j hj => h' j (by omega))⟩
        · rcases Nat.lt_or_ge j m with hj2 | hj2
          · exact h3 j hj2 hcj
          · obtain rfl : j = m := by omega
            exact ⟨hne, by omega⟩
        · rcases Nat.lt_or_ge j m with hj2 | hj2
          · exact h4 h0 j hj2 hcj he
          · rcases h1 with h1 | ⟨i, hi, hci, hr⟩
            · exact absurd (h1.trans h0) hne
            · rw [hr]; simp only [Sh.wayTo]; omega
    · rw [look_no hc]
      refine ⟨h1.imp id (fun ⟨j, hj, h⟩ => ⟨j, by omega, h⟩), h2, fun j hj hcj => ?_, fun h0 j hj hcj he => ?_, fun h h' => h5 h (fun j hj => h' j (by omega))⟩
      · rcases Nat.lt_or_ge j m with hj2 | hj2
        · exact h3 j hj2 hcj
        · obtain rfl : j = m := by omega
          exact absurd hcj hc
      · rcases Nat.lt_or_ge j m with hj2 | hj2
        · exact h4 h0 j hj2 hcj he
        · obtain rfl : j = m := by omega
          exact absurd hcj hc
section
variable {S : Sh} {lt : Way → Way → Bool} {μ : Way → Int} {c : Nat → Int}
theorem waysOf_end (k : Nat) : S.waysOf lt k S.nf = ⟨0, 0, 0⟩ := by
  induction k with
  | zero => unfold Sh.waysOf; rw [if_pos rfl]
  | succ k ih => show S.moreWays lt _ _ = _; unfold Sh.moreWays; rw [if_neg (by omega)]; exact ih
theorem waysOf_step (M : Meas S lt μ c) (k : Nat) {d : Nat} (hd : d < S.nf) : LookSpec S μ c (S.waysOf lt k) d (S.falls d - d) (S.waysOf lt (k + 1) d) := by
  have := lookTo_spec M (S.waysOf lt k) d (S.falls d - d)
  show LookSpec S μ c (S.waysOf lt k) d (S.falls d - d) (S.moreWays lt (S.waysOf lt k) d)
  unfold Sh.moreWays
  rwa [if_pos hd]
/-- where a way that is kept comes from -/
theorem waysOf_from (M : Meas S lt μ c) : ∀ k d, d < S.nf → S.waysOf lt k d ≠ noWay → ∃ j n, j < k ∧ S.okStep d n ∧ S.waysOf lt j n ≠ noWay ∧ S.waysOf lt k d = S.wayTo (S.waysOf lt j n) n
  | 0, d, hd, h => by
    unfold Sh.waysOf at h
    rw [if_neg (by omega)] at h
    exact absurd rfl h
  | k + 1, d, hd, h => by
    have hf := S.falls_bd (Nat.le_of_lt hd)
    rcases (waysOf_step M k hd).from_ with h1 | ⟨j, hj, hc, h1⟩
    · rw [h1] at h
      obtain ⟨j, n, g1, g2, g3, g4⟩ := waysOf_from M k d hd h
      exact ⟨j, n, by omega, g2, g3, h1.trans g4⟩
    · exact ⟨k, d + 1 + j, by omega, ⟨by omega, by omega, hc.2⟩, hc.1, h1⟩
theorem waysOf_sound (M : Meas S lt μ c) : ∀ k d, d ≤ S.nf → S.waysOf lt k d ≠ noWay → ∃ l, S.Chain d l ∧ l.length ≤ k ∧ (S.waysOf lt k d).rings = l.length ∧ μ (S.waysOf lt k d) = costL c l := by
  intro k
  induction k using Nat.strongRecOn with
  | _ k ih =>
    intro d hd h
    rcases Nat.eq_or_lt_of_le hd with e | e
    · subst e
      exact ⟨[], rfl, Nat.zero_le _, by rw [waysOf_end]; rfl, by rw [waysOf_end, M.zero]; rfl⟩
    · obtain ⟨j, n, h1, h2, h3, h4⟩ := waysOf_from M k d e h
      have hf := S.falls_bd hd
      obtain ⟨l, g1, g2, g3, g4⟩ := ih j h1 n (by have := h2.2.1; omega) h3
      refine ⟨n :: l, ⟨h2, g1⟩, by simp; omega, by rw [h4]; simp only [Sh.wayTo, List.length_cons, g3]; omega, ?_⟩
      rw [h4, M.to, g4]; simp only [costL]; omega
theorem waysOf_best (M : Meas S lt μ c) : ∀ k d l, S.Chain d l → l.length ≤ k → S.waysOf lt k d ≠ noWay ∧ μ (S.waysOf lt k d) ≤ costL c l
  | k, d, [], h, _ => by
    simp only [Sh.Chain] at h
    subst h
    rw [waysOf_end, M.zero]
    exact ⟨by decide, Int.le_refl _⟩
  | 0, d, n :: l, _, hl => by simp at hl
  | k + 1, d, n :: l, h, hl => by
    obtain ⟨⟨h1, h2, h3⟩, h4⟩ := h
    have hn := h4.len
    simp only [List.length_cons] at hl
    obtain ⟨g1, g2⟩ := waysOf_best M k n l h4 (by omega)
    have hb := (waysOf_step M k (d := d) (by omega)).best (n - (d + 1)) (by omega)
    rw [show d + 1 + (n - (d + 1)) = n from by omega] at hb
    obtain ⟨b1, b2⟩ := hb ⟨g1, h3⟩
    refine ⟨b1, ?_⟩
    simp only [costL]; omega
end
/-- the stops of m numbers from the k-th on -/
def stopsL (g : Nat → Int) : Nat → Nat → List Nat
  | _, 0 => []
  | k, m + 1 => (g k).toNat :: stopsL g (k + 1) m
theorem stopsL_len (g : Nat → Int) : ∀ m k, (stopsL g k m).length = m
  | 0, _ => rfl
  | m + 1, k => by simp [stopsL, stopsL_len g m (k + 1)]
theorem stopsL_get (g : Nat → Int) : ∀ m k i, i < m → (stopsL g k m)[i]? = some (g (k + i)).toNat
  | 0, _, i, h => by omega
  | m + 1, k, 0, h => by simp [stopsL]
  | m + 1, k, i + 1, h => by
    simp only [stopsL, List.getElem?_cons_succ]
    rw [stopsL_get g m (k + 1) i (by omega), show k + 1 + i = k + (i + 1) from by omega]
theorem costL_stops (c : Nat → Int) (g : Nat → Int) : ∀ m k, sumTo (fun i => c (g i).toNat) (k + m) = sumTo (fun i => c (g i).toNat) k + costL c (stopsL g k m)
  | 0, k => by simp [stopsL, costL]
  | m + 1, k => by
    have := costL_stops c g m (k + 1)
    rw [show k + (m + 1) = k + 1 + m from by omega, this]
    simp only [sumTo, stopsL, costL]; omega
theorem stopAt_succ (g : Nat → Int) (k : Nat) : stopAt g (k + 1) = (g k).toNat := rfl
/-- a chain of the stops, and its numbers -/
theorem chain_stops {S : Sh} {g : Nat → Int} : ∀ m k, S.Chain (stopAt g k) (stopsL g k m) ↔ (∀ i, k ≤ i → i < k + m → S.okStep (stopAt g i) (stopAt g (i + 1))) ∧ stopAt g (k + m) = S.nf
  | 0, k => by
    simp only [stopsL, Sh.Chain, Nat.add_zero]
    exact ⟨fun h => ⟨fun i h1 h2 => by omega, h⟩, fun h => h.2⟩
  | m + 1, k => by
    simp only [stopsL, Sh.Chain]
    rw [← stopAt_succ, chain_stops m (k + 1), show k + 1 + m = k + (m + 1) from by omega]
    constructor
    · rintro ⟨h1, h2, h3⟩
      refine ⟨fun i hi hi2 => ?_, h3⟩
      rcases Nat.eq_or_lt_of_le hi with e | e
      · exact e ▸ h1
      · exact h2 i e hi2
    · rintro ⟨h1, h2⟩
      exact ⟨h1 k (Nat.le_refl _) (by omega), fun i hi hi2 => h1 i (by omega) hi2, h2⟩
theorem Sh.falls_end (S : Sh) : S.falls S.nf = S.nf := by
  have := S.falls_bd (Nat.le_refl S.nf); omega
/-- with some stops it does not fall just if from none of them on it falls before the next one -/
theorem firstFall_iff {S : Sh} {m : Nat} {g : Nat → Int} (h : Rising 1 S.nf m g) :
    S.firstFall (memOf m g) = S.nf ↔ (∀ i, i < m → stopAt g (i + 1) ≤ S.falls (stopAt g i)) ∧ S.falls (stopAt g m) = S.nf := by
  have hno : S.firstFall (memOf m g) = S.nf → ∀ j, j < S.nf → S.fallAt (memOf m g) j = false := fun e j hj => by
    have := firstFrom_spec (S.fallAt (memOf m g)) S.nf 0
    exact this.2.2.1 j (Nat.zero_le _) (by unfold Sh.firstFall at e; omega)
  constructor
  · intro e
    have hn := hno e
    refine ⟨fun i hi => ?_, ?_⟩
    · rcases Nat.lt_or_ge (S.falls (stopAt g i)) (stopAt g (i + 1)) with hlt | hge
      · have h1 := Sh.fall_found h (k := i) (by omega) (fun j hj => hn j (by have := stopAt_le rfl h (k := i) (by omega); omega)) (fun i' hi' hle => by
          have h2 := h.lo i hi
          have h3 : g i ≤ g i' := by
            rcases Nat.eq_or_lt_of_le hle with e' | e'
            · subst e'; exact Int.le_refl _
            · exact Int.le_of_lt (h.lt i i' e' hi')
          simp only [stopAt_succ] at hlt
          omega)
        have h4 := h.hi i hi
        simp only [stopAt_succ] at hlt
        omega
      · exact hge
    · have h1 := Sh.fall_found h (k := m) (Nat.le_refl _) (fun j hj => hn j (by have := stopAt_le rfl h (k := m) (Nat.le_refl _); omega)) (fun i' hi' hle => by omega)
      omega
  · rintro ⟨h1, h2⟩
    have key : ∀ k, k ≤ m → ∀ j, j < stopAt g k → S.fallAt (memOf m g) j = false := by
      intro k
      induction k with
      | zero => intro _ j hj; simp [stopAt] at hj
      | succ k ih =>
        intro hk j hj
        have h3 := h1 k (by omega)
        refine Sh.fall_seg h (k := k) (by omega) (ih (by omega)) (b := stopAt g (k + 1)) (fun i hi hle => ?_) j (by omega) hj
        have h4 := h.lo k (by omega)
        have h5 : g k ≤ g i := by
          rcases Nat.eq_or_lt_of_le hle with e' | e'
          · subst e'; exact Int.le_refl _
          · exact Int.le_of_lt (h.lt k i e' hi)
        simp only [stopAt_succ]
        omega
    have h3 := Sh.fall_found h (k := m) (Nat.le_refl _) (key m (Nat.le_refl _)) (fun i' hi' hle => by omega)
    omega
/-- a plan is a chain of stops -/
theorem plan_iff {S : Sh} {m : Nat} {g : Nat → Int} (hR : Rising 1 S.nf m g) : S.Plan m g ↔ S.Chain 0 (stopsL g 0 m) := by
  rw [show S.Chain 0 (stopsL g 0 m) = S.Chain (stopAt g 0) (stopsL g 0 m) from rfl, chain_stops m 0]
  simp only [Nat.zero_add]
  have hst : ∀ i, i < m → stopAt g i < stopAt g (i + 1) := fun i hi => by
    cases i with
    | zero => have := hR.lo 0 hi; simp only [stopAt]; omega
    | succ i => have := hR.lo i (by omega); have := hR.lt i (i + 1) (by omega) hi; simp only [stopAt]; omega
  constructor
  · rintro ⟨_, h1, h2, h3⟩
    obtain ⟨h4, h5⟩ := (firstFall_iff hR).1 h1
    exact ⟨fun i _ hi => ⟨hst i hi, h4 i hi, h2 i hi⟩, h3⟩
  · rintro ⟨h1, h2⟩
    refine ⟨hR, (firstFall_iff hR).2 ⟨fun i hi => (h1 i (Nat.zero_le _) hi).2.1, by rw [h2]; exact S.falls_end⟩, fun i hi => (h1 i (Nat.zero_le _) hi).2.2, h2⟩
end Go.Proofs.YtjpfdhhiofjpbaaGreatDoor


namespace Go.Proofs.YtjpfdhhiofjpbaaGreatDoor
open Go.RowKit Go.Sort
def Sh.Has (S : Sh) : Prop := ∃ l, S.Chain 0 l
/-- what all feet and the rings at some stops cost -/
def Sh.pay (S : Sh) (l : List Nat) : Int := sumTo S.price S.nf + costL S.ringc l
structure Sh.IsFew (S : Sh) (m : Nat) : Prop where
  is : ∃ l, S.Chain 0 l ∧ l.length = m
  least : ∀ l, S.Chain 0 l → m ≤ l.length
structure Sh.IsCheap (S : Sh) (n : Int) : Prop where
  is : ∃ l, S.Chain 0 l ∧ S.pay l = n
  least : ∀ l, S.Chain 0 l → n ≤ S.pay l
section
variable {S : Sh} {lt : Way → Way → Bool} {μ : Way → Int} {c : Nat → Int}
theorem ways_has (M : Meas S lt μ c) : S.waysOf lt S.nf 0 ≠ noWay ↔ S.Has := by
  constructor
  · intro h
    obtain ⟨l, h1, _⟩ := waysOf_sound M S.nf 0 (Nat.zero_le _) h
    exact ⟨l, h1⟩
  · rintro ⟨l, h⟩
    exact (waysOf_best M S.nf 0 l h (by have := h.len; omega)).1
end
theorem plan_chain {S : Sh} {m : Nat} {g : Nat → Int} (h : S.Plan m g) : S.Chain 0 (stopsL g 0 m) := (plan_iff h.rising).1 h
theorem costOf_pay {S : Sh} {m : Nat} {g : Nat → Int} : S.costOf m g = S.pay (stopsL g 0 m) := by
  have := costL_stops S.ringc g m 0
  simp only [Nat.zero_add, sumTo] at this
  unfold Sh.costOf Sh.pay
  omega
theorem few_of {S : Sh} (h : S.Has) : ∃ m : Nat, (S.waysOf ltR S.nf 0).rings = m ∧ S.IsFew m := by
  have hn := (ways_has (measR S)).2 h
  obtain ⟨l, h1, _, h3, h4⟩ := waysOf_sound (measR S) S.nf 0 (Nat.zero_le _) hn
  refine ⟨l.length, h3, ⟨l, h1, rfl⟩, fun l' hl' => ?_⟩
  have h5 := (waysOf_best (measR S) S.nf 0 l' hl' (by have := hl'.len; omega)).2
  rw [costL_one] at h4 h5
  omega
theorem cheap_of {S : Sh} (h : S.Has) : S.IsCheap (sumTo S.price S.nf + (S.waysOf ltP S.nf 0).pence) := by
  have hn := (ways_has (measP S)).2 h
  obtain ⟨l, h1, _, _, h4⟩ := waysOf_sound (measP S) S.nf 0 (Nat.zero_le _) hn
  refine ⟨⟨l, h1, by unfold Sh.pay; rw [h4]⟩, fun l' hl' => ?_⟩
  have h5 := (waysOf_best (measP S) S.nf 0 l' hl' (by have := hl'.len; omega)).2
  unfold Sh.pay
  omega
theorem Sh.IsFew.le {S : Sh} {m : Nat} (h : S.IsFew m) : m ≤ S.nf := by
  obtain ⟨l, h1, h2⟩ := h.is
  have := h1.len
  omega
theorem Sh.IsCheap.uniq {S : Sh} {m m' : Int} (h : S.IsCheap m) (h' : S.IsCheap m') : m = m' := by
  obtain ⟨l, h1, h2⟩ := h.is
  obtain ⟨l', h1', h2'⟩ := h'.is
  have := h.least l' h1'
  have := h'.least l h1
  omega
/-- Fewest and Cheap of a valid shaft -/
theorem out_cases {S : Sh} (ok : S.Ok) : (S.Has ∧ ∃ (m : Nat) (n : Int), S.fewestOut = ((m : Int), 0) ∧ S.cheapOut = (n, 0) ∧ S.IsFew m ∧ S.IsCheap n ∧ m ≤ S.nf ∧ 0 ≤ n ∧ n ≤ 4968) ∨ (¬ S.Has ∧ S.fewestOut = (0, 3) ∧ S.cheapOut = (0, 3)) := by
  by_cases h : S.Has
  · obtain ⟨m, h1, h2⟩ := few_of h
    have h3 := cheap_of h
    have h4 := cheapOut_some ok ((ways_has (measP S)).2 h)
    have h5 := cheapOut_bd ok
    rw [h4] at h5
    exact .inl ⟨h, m, _, by rw [fewestOut_some ok ((ways_has (measR S)).2 h), h1], h4, h2, h3, h2.le, h5.1, h5.2⟩
  · refine .inr ⟨h, fewestOut_none ok ?_, cheapOut_none ok ?_⟩
    · cases Classical.em (S.waysOf ltR S.nf 0 = noWay) with
      | inl e => exact e
      | inr e => exact absurd ((ways_has (measR S)).1 e) h
    · cases Classical.em (S.waysOf ltP S.nf 0 = noWay) with
      | inl e => exact e
      | inr e => exact absurd ((ways_has (measP S)).1 e) h
end Go.Proofs.YtjpfdhhiofjpbaaGreatDoor


namespace Go.Proofs.YtjpfdhhiofjpbaaGreatDoor
open Go.RowKit Go.Sort
/-- the numbers of a list, 0 behind its end -/
def gOf (l : List Int) : Nat → Int := fun i => l.getD i 0
theorem gOf_get {l : List Int} {i : Nat} {x : Int} (h : l[i]? = some x) : gOf l i = x := by unfold gOf; rw [List.getD_eq_getElem?_getD, h]; rfl
theorem gOf_append {l t : List Int} {i : Nat} (h : i < l.length) : gOf (l ++ t) i = gOf l i := by
  unfold gOf
  rw [List.getD_eq_getElem?_getD, List.getD_eq_getElem?_getD, List.getElem?_append_left h]
theorem gOf_last (l : List Int) (x : Int) : gOf (l ++ [x]) l.length = x := by
  unfold gOf
  rw [List.getD_eq_getElem?_getD, List.getElem?_append_right (Nat.le_refl _), Nat.sub_self]
  rfl
/-- the lists that go on from l with numbers above nf - f -/
def behindL (nf : Nat) : Nat → List Int → List (List Int)
  | 0, _ => []
  | f + 1, l => ((l ++ [((nf - f : Nat) : Int)]) :: behindL nf f (l ++ [((nf - f : Nat) : Int)])) ++ behindL nf f l
theorem behindL_len (nf : Nat) : ∀ f l, (behindL nf f l).length + 1 = 2 ^ f
  | 0, _ => rfl
  | f + 1, l => by
    have h1 := behindL_len nf f (l ++ [((nf - f : Nat) : Int)])
    have h2 := behindL_len nf f l
    simp only [behindL, List.length_append, List.length_cons]
    rw [Nat.pow_succ]
    omega
/-- ascending numbers above lo, up to nf -/
def UpL (nf : Nat) : Nat → List Nat → Prop
  | _, [] => True
  | lo, d :: t => lo < d ∧ d ≤ nf ∧ UpL nf d t
def intsOf (l : List Nat) : List Int := l.map fun d => ((d : Nat) : Int)
theorem mem_behind {nf : Nat} : ∀ f, f ≤ nf → ∀ (t : List Nat) (l : List Int), t ≠ [] → UpL nf (nf - f) t → l ++ intsOf t ∈ behindL nf f l
  | 0, _, t, l, ht, hu => by
    cases t with
    | nil => exact absurd rfl ht
    | cons d t => have := hu.1; have := hu.2.1; omega
  | f + 1, hf, t, l, ht, hu => by
    cases t with
    | nil => exact absurd rfl ht
    | cons d t =>
      obtain ⟨h1, h2, h3⟩ := hu
      simp only [behindL, List.mem_append, List.mem_cons]
      by_cases e : d = nf - f
      · left
        subst e
        cases t with
        | nil => exact .inl rfl
        | cons d2 t =>
          right
          have := mem_behind f (by omega) (d2 :: t) (l ++ [((nf - f : Nat) : Int)]) (by simp) h3
          rw [List.append_assoc] at this
          exact this
      · right
        exact mem_behind f (by omega) (d :: t) l (by simp) ⟨by omega, h2, h3⟩
def allLists (nf : Nat) : List (List Int) := [] :: behindL nf nf []
theorem mem_all {nf : Nat} {t : List Nat} (h : UpL nf 0 t) : intsOf t ∈ allLists nf := by
  cases t with
  | nil => exact List.mem_cons_self ..
  | cons d t =>
    refine List.mem_cons_of_mem _ ?_
    have := mem_behind nf (Nat.le_refl _) (d :: t) [] (by simp) (by rw [Nat.sub_self]; exact h)
    simpa using this
theorem behind_lens {nf : Nat} : ∀ f (l : List Int) x, x ∈ behindL nf f l → x.length ≤ l.length + f
  | 0, l, x, h => by cases h
  | f + 1, l, x, h => by
    simp only [behindL, List.mem_append, List.mem_cons] at h
    rcases h with (rfl | h) | h
    · simp
    · have := behind_lens f _ _ h
      simp only [List.length_append, List.length_cons, List.length_nil] at this
      omega
    · have := behind_lens f _ _ h
      omega
theorem all_lens {nf : Nat} {x : List Int} (h : x ∈ allLists nf) : x.length ≤ nf := by
  rcases List.mem_cons.1 h with rfl | h
  · exact Nat.zero_le _
  · have := behind_lens nf [] x h
    simpa using this
/-! ### Plans -/
noncomputable def Sh.isPlanL (S : Sh) (l : List Int) : Bool := S.planB l.length (gOf l)
noncomputable def Sh.plansL (S : Sh) : List (List Int) := (allLists S.nf).filter S.isPlanL
theorem intsOf_len (l : List Nat) : (intsOf l).length = l.length := by simp [intsOf]
theorem stopsL_ints {l : List Int} (h : ∀ x ∈ l, 0 ≤ x) : intsOf (stopsL (gOf l) 0 l.length) = l := by
  refine List.ext_getElem? fun i => ?_
  unfold intsOf
  rw [List.getElem?_map]
  rcases Nat.lt_or_ge i l.length with h1 | h1
  · rw [stopsL_get _ _ _ _ h1, Nat.zero_add]
    have h2 : l[i]? = some l[i] := List.getElem?_eq_getElem h1
    rw [h2, gOf_get h2]
    have := h l[i] (List.getElem_mem h1)
    simp; omega
  · rw [List.getElem?_eq_none (by rw [stopsL_len]; exact h1), List.getElem?_eq_none h1]
    rfl
theorem ints_stops (l : List Nat) : stopsL (gOf (intsOf l)) 0 (intsOf l).length = l := by
  refine List.ext_getElem? fun i => ?_
  rcases Nat.lt_or_ge i l.length with h1 | h1
  · rw [stopsL_get _ _ _ _ (by rw [intsOf_len]; exact h1), Nat.zero_add]
    have h2 : l[i]? = some l[i] := List.getElem?_eq_getElem h1
    have h3 : (intsOf l)[i]? = some ((l[i] : Nat) : Int) := by unfold intsOf; rw [List.getElem?_map, h2]; rfl
    rw [gOf_get h3, h2]
    rfl
  · rw [List.getElem?_eq_none (by rw [stopsL_len, intsOf_len]; exact h1), List.getElem?_eq_none h1]
theorem chain_up {S : Sh} : ∀ {l : List Nat} {a : Nat}, S.Chain a l → UpL S.nf a l
  | [], _, _ => trivial
  | d :: l, a, h => ⟨h.1.1, by have := h.2.len; omega, chain_up h.2⟩
theorem up_mem {nf : Nat} : ∀ {l : List Nat} {a : Nat}, UpL nf a l → ∀ x ∈ l, a < x ∧ x ≤ nf
  | [], _, _, x, hx => by cases hx
  | d :: l, a, h, x, hx => by
    rcases List.mem_cons.1 hx with rfl | hx
    · exact ⟨h.1, h.2.1⟩
    · have := up_mem h.2.2 x hx; have := h.1; omega
theorem up_rising {nf : Nat} {l : List Nat} (h : UpL nf 0 l) : Rising 1 (nf : Int) (intsOf l).length (gOf (intsOf l)) := by
  have hg : ∀ i, (h1 : i < l.length) → gOf (intsOf l) i = ((l[i] : Nat) : Int) := fun i h1 => by
    refine gOf_get ?_
    unfold intsOf
    rw [List.getElem?_map, List.getElem?_eq_getElem h1]
    rfl
  have hlt : ∀ {l : List Nat} {a : Nat}, UpL nf a l → l.Pairwise (· < ·) := by
    intro l
    induction l with
    | nil => intro a _; exact List.Pairwise.nil
    | cons d t ih => intro a h; exact List.pairwise_cons.2 ⟨fun x hx => (up_mem h.2.2 x hx).1, ih h.2.2⟩
  rw [intsOf_len]
  refine ⟨fun i hi => ?_, fun i hi => ?_, fun i j hij hj => ?_⟩
  · rw [hg i hi]; have := up_mem h l[i] (List.getElem_mem hi); omega
  · rw [hg i hi]; have := up_mem h l[i] (List.getElem_mem hi); omega
  · rw [hg i (by omega), hg j hj]
    have := List.pairwise_iff_getElem.1 (hlt h) i j (by omega) hj hij
    omega
/-- the chains are just the plans that are listed -/
theorem chain_listed {S : Sh} {t : List Nat} (h : S.Chain 0 t) : intsOf t ∈ S.plansL := by
  refine List.mem_filter.2 ⟨mem_all (chain_up h), Sh.planB_t ((plan_iff (up_rising (chain_up h))).2 ?_)⟩
  rw [ints_stops]
  exact h
theorem listed_plan {S : Sh} {l : List Int} (h : l ∈ S.plansL) : S.Plan l.length (gOf l) := Sh.planB_iff.1 (List.mem_filter.1 h).2
theorem plan_nonneg {S : Sh} {l : List Int} (h : S.Plan l.length (gOf l)) : ∀ x ∈ l, 0 ≤ x := by
  intro x hx
  obtain ⟨i, hi, e⟩ := List.getElem_of_mem hx
  have := h.rising.lo i hi
  rw [gOf_get (x := x) (by rw [List.getElem?_eq_getElem hi, e])] at this
  omega
theorem plan_chainL {S : Sh} {l : List Int} (h : S.Plan l.length (gOf l)) : ∃ t, S.Chain 0 t ∧ l = intsOf t ∧ t = stopsL (gOf l) 0 l.length :=
  ⟨_, plan_chain h, (stopsL_ints (plan_nonneg h)).symm, rfl⟩
theorem plans_has {S : Sh} : S.plansL ≠ [] ↔ S.Has := by
  constructor
  · intro h
    obtain ⟨l, hl⟩ := List.exists_mem_of_ne_nil _ h
    obtain ⟨t, ht, _⟩ := plan_chainL (listed_plan hl)
    exact ⟨t, ht⟩
  · rintro ⟨t, ht⟩ e
    have := chain_listed ht
    rw [e] at this
    cases this
/-! ### The first one with the fewest -/
/-! ### What the ways with the fewest rings go on to -/
/-! ### The least cost -/
theorem min_cost {S : Sh} {b : List Int} {xs : List (List Int)} (_ : S.plansL = b :: xs) {n : Int} (h1 : ∃ l ∈ S.plansL, S.costOf l.length (gOf l) = n) (h2 : ∀ l ∈ S.plansL, n ≤ S.costOf l.length (gOf l)) : S.IsCheap n := by
  obtain ⟨l, hl, e⟩ := h1
  obtain ⟨t, t1, t2, t3⟩ := plan_chainL (listed_plan hl)
  refine ⟨⟨t, t1, by rw [← e, costOf_pay, t3]⟩, fun t' h' => ?_⟩
  have := h2 _ (chain_listed h')
  rw [costOf_pay, ints_stops] at this
  exact this
end Go.Proofs.YtjpfdhhiofjpbaaGreatDoor


namespace Go.Proofs.YtjpfdhhiofjpbaaGreatDoor
open Go.RowKit Go.Sort
theorem infoList : (Tryz.prog.info? 26).map (fun i => (i.zero, i.size, i.bytes)) = some (some (.slice none 0 0), 1, 24) := by kernel_rfl
/-- a slice that reads as a list of numbers, in a row of numbers -/
def SliceIs (w : World) (v : Value) (l : List Int) : Prop :=
  ∃ A c, v = .slice A l.length c ∧ IntsAt w A l.length (gOf l) ∧ (l = [] ∨ ∃ b o cur fr, A = some ⟨b, o, none⟩ ∧ w.heap[b]? = some (.cells cur 3 fr))
theorem heap_lt {w : World} {b : Nat} {o : Obj} (h : w.heap[b]? = some o) : b < w.heap.size := (Array.getElem?_eq_some_iff.1 h).1
theorem SliceIs.mono {w w' : World} {v : Value} {l : List Int} (h : SliceIs w v l) (hb : Below w.heap.size w w') : SliceIs w' v l := by
  obtain ⟨A, c, e, h1, h2⟩ := h
  refine ⟨A, c, e, h1.mono hb, h2.imp id ?_⟩
  rintro ⟨b, o, cur, fr, e1, e2⟩
  exact ⟨b, o, cur, fr, e1, (hb.block b (heap_lt e2)).trans e2⟩
theorem SliceIs.grown {w w' : World} {v : Value} {l : List Int} {row : Option Nat} (h : SliceIs w v l) (hg : w.grownBy w' row) (ht : ∀ g, row = some g → ∃ cur, w.heap[g]? = some (.cells cur 26 (0, 0))) : SliceIs w' v l := by
  obtain ⟨A, c, e, h1, h2⟩ := h
  rcases h2 with rfl | ⟨b, o, cur, fr, rfl, e2⟩
  · exact ⟨A, c, e, .inl rfl, .inl rfl⟩
  · have hne : some b ≠ row := fun e => by
      obtain ⟨cur', e3⟩ := ht b e.symm
      rw [e2] at e3
      injection e3 with e3
      injection e3 with _ e3
      exact absurd e3 (by decide)
    have hblk := hg.block b (heap_lt e2) hne
    refine ⟨_, c, e, ?_, .inr ⟨b, o, cur, fr, rfl, hblk.trans e2⟩⟩
    rcases h1 with h1 | ⟨b', o', e1, hlt, hc⟩
    · exact .inl h1
    · injection e1 with e1
      injection e1 with e1 e1'
      subst e1 e1'
      exact .inr ⟨b, o, rfl, Nat.lt_of_lt_of_le hlt hg.size, fun i hi => (World.cell?_of_block (w := w) (a := ⟨b, o + i, none⟩) hblk).trans (hc i hi)⟩
def RowsT (w : World) : List Value → List (List Int) → Prop
  | [], [] => True
  | v :: vs, l :: ls => SliceIs w v l ∧ RowsT w vs ls
  | _, _ => False
theorem RowsT.imp {w w' : World} (h : ∀ v l, SliceIs w v l → SliceIs w' v l) : ∀ {vs : List Value} {ls : List (List Int)}, RowsT w vs ls → RowsT w' vs ls
  | [], [], _ => trivial
  | _ :: _, _ :: _, hr => ⟨h _ _ hr.1, RowsT.imp h hr.2⟩
  | [], _ :: _, hr => hr.elim
  | _ :: _, [], hr => hr.elim
theorem RowsT.mono {w w' : World} {vs : List Value} {ls : List (List Int)} (h : RowsT w vs ls) (hb : Below w.heap.size w w') : RowsT w' vs ls := h.imp fun _ _ h => h.mono hb
theorem RowsT.append {w : World} : ∀ {vs us : List Value} {ls ks : List (List Int)}, RowsT w vs ls → RowsT w us ks → RowsT w (vs ++ us) (ls ++ ks)
  | [], _, [], _, _, h => h
  | _ :: _, _, _ :: _, _, h1, h => ⟨h1.1, RowsT.append h1.2 h⟩
  | [], _, _ :: _, _, h1, _ => h1.elim
  | _ :: _, _, [], _, h1, _ => h1.elim
theorem RowsT.get {w : World} : ∀ {vs : List Value} {ls : List (List Int)} {i : Nat} {l : List Int}, RowsT w vs ls → ls[i]? = some l → ∃ v, vs[i]? = some v ∧ SliceIs w v l
  | v :: _, k :: _, 0, l, h, e => ⟨v, rfl, by simp at e; exact e ▸ h.1⟩
  | _ :: _, _ :: _, i + 1, l, h, e => by simpa using RowsT.get (i := i) h.2 (by simpa using e)
  | [], [], i, l, _, e => by simp at e
  | [], _ :: _, _, _, h, _ => h.elim
  | _ :: _, [], _, _, h, _ => h.elim
theorem RowsT.one {w : World} : ∀ {vs : List Value} {ls : List (List Int)}, RowsT w vs ls → ∀ u ∈ vs, u.oneCell' = true
  | [], [], _, u, hu => by cases hu
  | v :: vs, l :: ls, h, u, hu => by
    rcases List.mem_cons.1 hu with rfl | hu
    · obtain ⟨A, c, e, _⟩ := h.1
      rw [e]; rfl
    · exact RowsT.one h.2 u hu
  | [], _ :: _, h, _, _ => h.elim
  | _ :: _, [], h, _, _ => h.elim
/-- a row of lists of the call's own -/
def Listed (base : Nat) (w : World) (L : List (List Int)) (v : Value) : Prop := ∃ vs, w.ownsRow base 26 1 v L.length vs ∧ RowsT w vs L
theorem Listed.mono {base : Nat} {w w' : World} {L : List (List Int)} {v : Value} (h : Listed base w L v) (hb : Below w.heap.size w w') : Listed base w' L v := by
  obtain ⟨vs, h1, h2⟩ := h
  exact ⟨vs, owns_below h1 hb, h2.mono hb⟩
theorem Listed.lower {base base' : Nat} {w : World} {L : List (List Int)} {v : Value} (h : Listed base w L v) (hb : base' ≤ base) : Listed base' w L v := by
  obtain ⟨vs, h1, h2⟩ := h
  exact ⟨vs, owns_lower h1 hb, h2⟩
/-- one row of lists behind another one -/
theorem Listed.more {base : Nat} {w w' : World} {L K : List (List Int)} {v v' : Value} {vs us : List Value} (h1 : w.ownsRow base 26 1 v L.length vs) (h2 : RowsT w vs L) (h3 : RowsT w us K) (hown : w'.ownsRow base 26 1 v' (L.length + K.length) (vs ++ us)) (hg : w.grownBy w' v.ownBlock) : Listed base w' (L ++ K) v' :=
  ⟨vs ++ us, by rw [List.length_append]; exact hown, (h2.append h3).imp fun _ _ h => h.grown hg fun g e => (owns_typed h1 g e).2⟩
def ListsOut (base : Nat) (w' : World) (L : List (List Int)) (e : Ending) : Prop := ∃ v, e = .returned v ∧ Listed base w' L v
def sh_oneR (u : Value) (w : World) (v : Value) : Prop := ∃ b, v = .slice (some ⟨b, 0, none⟩) 1 1 ∧ w.cell? ⟨b, 0, none⟩ = some u
theorem oneR_mono {u : Value} {w w' : World} {v : Value} (hb : Below w.heap.size w w') (h : sh_oneR u w v) : sh_oneR u w' v := by
  obtain ⟨b, e, h⟩ := h
  exact ⟨b, e, (hb.cell (World.block_lt_of_cell? w _ h)).trans h⟩
theorem oneR_on {u : Value} {N n : Nat} {e : TypeId} {w w' : World} {v : Value} (hb : RowOn N e 1 n w w') (h : sh_oneR u w v) : sh_oneR u w' v := by
  rcases hb with hb | ⟨hn, g, cur, cur', _, h2, h3, h4, h5, h6⟩
  · exact oneR_mono hb h
  · obtain ⟨b, e, h⟩ := h
    refine ⟨b, e, ?_⟩
    by_cases hbg : b = g
    · subst hbg
      have hl : w.cell? ⟨b, 0, none⟩ = cur[0]? := cell_of_row w b 0 cur _ _ h2
      have hl' : w'.cell? ⟨b, 0, none⟩ = cur'[0]? := cell_of_row w' b 0 cur' _ _ h3
      have e1 : ∀ c : Array Value, c[0]? = (c.toList.take (n * 1))[0]? := fun c => by
        rw [List.getElem?_take, if_pos (by omega)]
        simp
      rw [hl', e1 cur', h5, ← e1 cur, ← hl, h]
    · exact (World.cell?_of_block (w := w) (a := ⟨b, 0, none⟩) (h6.block b (World.block_lt_of_cell? w _ h) (fun e => hbg (by injection e)))).trans h
theorem oneR_get {u : Value} {w : World} {b : Nat} (h : sh_oneR u w (.slice (some ⟨b, 0, none⟩) 1 1)) : w.cell? ⟨b, 0, none⟩ = some u := by
  obtain ⟨b', e, h⟩ := h
  injection e with e
  injection e with e
  injection e with e
  subst e
  exact h
/-- a row of numbers that the call has made reads as a list -/
theorem sliceIs_own {w : World} {N : Nat} {v : Value} {l : List Int} (h : w.ownsRow N 3 1 v l.length (intL (gOf l) l.length)) : SliceIs w v l := by
  obtain ⟨A, c, e, h1, h2⟩ := intsAt_own h
  refine ⟨A, c, e, h1, ?_⟩
  rcases h.2 with ⟨_, h0⟩ | ⟨g, cap, cur, e2, _, e3, _⟩
  · exact .inl (List.eq_nil_of_length_eq_zero h0)
  · rw [e] at e2
    injection e2 with e2
    exact .inr ⟨g, 0, cur, _, e2, e3⟩
theorem intL_gOf_snoc (l : List Int) (x : Int) : intL (gOf (l ++ [x])) (l.length + 1) = intL (gOf l) l.length ++ [.int .i64 x] := by
  simp only [intL, gOf_last]
  rw [intL_congr fun i hi => gOf_append hi]
def listHeld (v SV : Value) (A : Option Addr) (m c : Nat) (g : Nat → Int) (d : Int) (N : Nat) (L : List (List Int)) : List Stir :=
  [.const v, .const SV, .held emptyS (fun _ _ => True), .const (.slice A m c), .held (ShapeOf m) (AtHand N 3 1 m (intL g m)), .const (.int .i64 d), .held oneS (sh_oneR (.int .i64 d)),
    .stir (ShapeOf (m + 1)) (fun w v => w.ownsRow N 3 1 v (m + 1) (intL g m ++ [.int .i64 d])) (RowOn N 3 1 m), .held (ShapeOf L.length) (fun w v => Listed N w L v)]
theorem listHeld_good (v SV : Value) (A : Option Addr) (m c : Nat) (g : Nat → Int) (d : Int) (N : Nat) (L : List (List Int)) : goodAllS (listHeld v SV A m c g d N L) :=
  ⟨trivial, trivial, ⟨⟨_, 0, rfl⟩, fun _ _ _ _ _ => trivial⟩, trivial, ⟨⟨_, 0, 0, rfl⟩, fun _ _ _ hb h => AtHand.mono hb h⟩, trivial, ⟨⟨_, 0, rfl⟩, fun _ _ _ hb h => oneR_mono hb h⟩, ⟨⟨_, 0, 0, rfl⟩, fun _ _ _ hb h => owns_below h hb⟩, ⟨⟨_, 0, 0, rfl⟩, fun _ _ _ hb h => h.mono hb⟩, trivial⟩
theorem listHeld_cross (md : Region.Mode) (ops : Array Oper) (v SV : Value) (A : Option Addr) (m c : Nat) (g : Nat → Int) (d : Int) (N : Nat) (L : List (List Int)) (h8 : reach md ops 6 8 7 = true) : crossAll md ops N (listHeld v SV A m c g d N L) := by
  intro i s r K hi
  match i, hi with
  | 7, hi =>
    injection hi with hi
    injection hi with e1 e2 e3
    subst e1 e2 e3
    refine ⟨fun w w' hN h => h.below hN, fun j h hj hne => ?_⟩
    match j, hj with
    | 0, hj => injection hj with hj; subst hj; exact .inr fun _ _ _ _ h => h
    | 1, hj => injection hj with hj; subst hj; exact .inr fun _ _ _ _ h => h
    | 2, hj => injection hj with hj; subst hj; exact .inr fun _ _ _ _ h => h
    | 3, hj => injection hj with hj; subst hj; exact .inr fun _ _ _ _ h => h
    | 4, hj => injection hj with hj; subst hj; exact .inr fun _ _ _ hb h => ⟨h.1, AtHand.on hb h.2⟩
    | 5, hj => injection hj with hj; subst hj; exact .inr fun _ _ _ _ h => h
    | 6, hj => injection hj with hj; subst hj; exact .inr fun _ _ _ hb h => ⟨h.1, oneR_on hb h.2⟩
    | 7, hj => exact absurd rfl hne
    | 8, hj => exact .inl h8
    | j + 9, hj => simp [listHeld] at hj
  | 0, hi => injection hi with hi; cases hi
  | 1, hi => injection hi with hi; cases hi
  | 2, hi => injection hi with hi; cases hi
  | 3, hi => injection hi with hi; cases hi
  | 4, hi => injection hi with hi; cases hi
  | 5, hi => injection hi with hi; cases hi
  | 6, hi => injection hi with hi; cases hi
  | 8, hi => injection hi with hi; cases hi
  | i + 9, hi => simp [listHeld] at hi
set_option maxHeartbeats 8000000 in
set_option maxRecDepth 100000 in
theorem lists_any (Ar Af : Option Addr) (cr cf : Nat) (S : Sh) (hnf : S.nf ≤ 12) : ∀ (f : Nat) (w : World) (A : Option Addr) (m c : Nat) (l : List Int), f ≤ S.nf → l.length = m → m + f ≤ S.nf → (m = 0 → f = S.nf) → (0 < m → gOf l (m - 1) = ((S.nf - f : Nat) : Int)) → ShAt w Ar Af S → SliceIs w (.slice A m c) l →
    Calls Tryz.prog 192 #[.agg #[.slice Ar S.nr cr, .slice Af S.nf cf, .int .i64 S.deep, .int .i64 S.haul, .int .i64 S.rest], .slice A m c] w fun e w' => ListsOut w.heap.size w' (l :: behindL S.nf f l) e ∧ Below w.heap.size w w' := by
  intro f
  induction f using Nat.strongRecOn with
  | _ f ih =>
  intro w A m c l hf hlm hmf hf0 hfl hS hI
  obtain ⟨i0, hi, iz0, iz1, iz2⟩ := info_parts infoList
  have hb0 := bAlloc (Below.refl w.heap.size w) (.cells #[.slice Ar S.nr cr, .slice Af S.nf cf, .int .i64 S.deep, .int .i64 S.haul, .int .i64 S.rest] 57)
  have hb1 := bAlloc (Below.refl (w.alloc (.cells #[.slice Ar S.nr cr, .slice Af S.nf cf, .int .i64 S.deep, .int .i64 S.haul, .int .i64 S.rest] 57)).heap.size (w.alloc (.cells #[.slice Ar S.nr cr, .slice Af S.nf cf, .int .i64 S.deep, .int .i64 S.haul, .int .i64 S.rest] 57))) (.cells #[.slice A m c] 26)
  have HS := Lib.hid ((hS.mono hb0).mono hb1)
  have HI := Lib.hid ((hI.mono hb0).mono hb1)
  have HI0 := Lib.hid (hI.mono hb0)
  have HS0 := Lib.hid (hS.mono hb0)
  have HB := Lib.hid hb0
  have HB1 := Lib.hid hb1
  have HLM := Lib.hid hlm
  have HF0 := Lib.hid hf0
  have HFL := Lib.hid hfl
  have HO1 := Lib.hid (World.ownsRow_lit (e := 26) (size := 1) (base := w.heap.size + 1) (w.alloc (.cells #[.slice Ar S.nr cr, .slice Af S.nf cf, .int .i64 S.deep, .int .i64 S.haul, .int .i64 S.rest] 57)) #[.slice A m c] 1 (by simp) (by decide) rfl)
  have HR1 := Lib.hid (show RowsT ((w.alloc (.cells #[.slice Ar S.nr cr, .slice Af S.nf cf, .int .i64 S.deep, .int .i64 S.haul, .int .i64 S.rest] 57)).alloc (.cells #[.slice A m c] 26)) [.slice A m c] [l] from ⟨HI.out, trivial⟩)
  have hints : IntsAt w A m (gOf l) := by
    obtain ⟨A', c', e, h1, _⟩ := hI
    injection e with e1 _ _
    subst e1
    rwa [hlm] at h1
  have HX := Lib.hid ((hints.mono hb0).mono hb1)
  clear hS hI hb0 hb1 hlm hf0 hfl hints
  obtain ⟨q, hq, hqm⟩ : ∃ q : Nat, q = S.nf - f + 1 ∧ ((m = 0 ∧ q = 1) ∨ (0 < m ∧ gOf l (m - 1) = (q : Int) - 1)) := by
    refine ⟨S.nf - f + 1, rfl, ?_⟩
    rcases Nat.eq_zero_or_pos m with h0 | h0
    · exact .inl ⟨h0, by have := HF0.out h0; omega⟩
    · exact .inr ⟨h0, by rw [HFL.out h0]; omega⟩
  have HQ := Lib.hid hq
  have hq1 : 1 ≤ q := by omega
  have hq2 : q ≤ S.nf + 1 := by omega
  clear hq
  rcases hqm with ⟨hm0, hq0⟩ | ⟨hm0, hgq⟩
  case' inl =>
    have hm1 : ¬ (0 : Int) < (m : Int) := by omega
    have HQ0 := Lib.hid hq0
    have HM := Lib.hid hm0
    clear hm0 hq0
    go_enter Tryz.func192, Tryz.ntmps192
    go_wp2_with fail
  case' inr =>
    have hm1 : (0 : Int) < (m : Int) := by omega
    have h0 : IntsAt _ A m (gOf l) := HX.out
    rcases h0 with h0 | ⟨b, o, hA, hb, hcell⟩
    · omega
    have c0 := hcell (m - 1) (by omega)
    rw [hgq] at c0
    clear hcell hgq
    subst hA
    have j1 : (0 : Int) ≤ (m : Int) - 1 := by omega
    have j2 : (m : Int) - 1 < (m : Int) := by omega
    have j3 : ((m : Int) - 1).toNat = m - 1 := by omega
    have HM := Lib.hid hm0
    have HQ0 := Lib.hid (show (q : Int) - 1 + 1 = q by omega)
    clear hm0
    go_enter Tryz.func192, Tryz.ntmps192
    go_wp2_with fail
    clear j1 j2 j3 c0 hb
    generalize (some (⟨b, o, none⟩ : Addr)) = A at *
  all_goals
    go_loopw [5, 7] (fun v i wr => ∃ (V : Value) (d : Nat) (xs : List (List Int)) (vs : List Value), V = v ∧ i = .int .i64 d ∧ q ≤ d ∧ d ≤ S.nf + 1 ∧ xs ++ behindL S.nf (S.nf + 1 - d) l = l :: behindL S.nf f l ∧ wr.ownsRow (w.heap.size + 1) 26 1 v xs.length vs ∧ RowsT wr vs xs ∧ Below (w.alloc (.cells #[.slice Ar S.nr cr, .slice Af S.nf cf, .int .i64 S.deep, .int .i64 S.haul, .int .i64 S.rest] 57)).heap.size (w.alloc (.cells #[.slice Ar S.nr cr, .slice Af S.nf cf, .int .i64 S.deep, .int .i64 S.haul, .int .i64 S.rest] 57)) wr) (fun _ i _ => S.nf + 1 - (intOf i).toNat)
    case atStart =>
      refine ⟨_, q, [l], [.slice _ m c], rfl, ?_, Nat.le_refl _, hq2, ?_, by simpa using HO1.out, HR1.out, HB1.out⟩
      · first | rfl | (rw [HQ0.out]; rfl) | rw [HQ0.out]
      · have e : S.nf + 1 - q = f := by have := HQ.out; omega
        rw [e]; rfl
    case round =>
      obtain ⟨V, d, xs, vs, hV, rfl, hd1, hd2, htot, hown, hrows, hbel⟩ := hrel
      subst hV
      have HT := Lib.hid htot
      have HO := Lib.hid hown
      have HR := Lib.hid hrows
      have HB3 := Lib.hid hbel
      have hIr := Lib.hid (HI0.out.mono hbel)
      have hSr := Lib.hid (HS0.out.mono hbel)
      obtain ⟨bc3, bf3⟩ := bcell hbel
      have hz3 := hbel.size
      simp only [World.size_alloc] at hz3
      have hy3 : w.heap.size < wr.heap.size := hz3
      have hxl : xs.length ≤ 4096 := by
        have h1 := congrArg List.length htot
        have h2 := behindL_len S.nf f l
        have h3 : 2 ^ f ≤ 2 ^ 12 := Nat.pow_le_pow_right (by omega) (by omega)
        simp only [List.length_append, List.length_cons] at h1
        have h4 : (2 : Nat) ^ 12 = 4096 := by decide
        omega
      clear htot hown hrows hbel
      by_cases hlt : d ≤ S.nf
      · have hmd : m + 1 ≤ d := by
          rcases Nat.eq_zero_or_pos m with h0 | h0
          · omega
          · have := HQ.out; omega
        have hX4 : IntsAt wr A m (gOf l) := by
          obtain ⟨A', c', e, h1, _⟩ := hIr.out
          injection e with e1 _ _
          subst e1
          rwa [HLM.out] at h1
        have HX4 := Lib.hid hX4
        have hFq := HQ.out
        obtain ⟨L, hL⟩ : ∃ L, L = (l ++ [(d : Int)]) :: behindL S.nf (S.nf - d) (l ++ [(d : Int)]) := ⟨_, rfl⟩
        have hL1 : 1 ≤ L.length := by rw [hL]; simp
        have hL2 : L.length ≤ 4096 := by
          have h2 := behindL_len S.nf (S.nf - d) (l ++ [(d : Int)])
          have h3 : 2 ^ (S.nf - d) ≤ 2 ^ 12 := Nat.pow_le_pow_right (by omega) (by omega)
          have h4 : (2 : Nat) ^ 12 = 4096 := by decide
          rw [hL, List.length_cons]
          omega
        have HTN := Lib.hid (show (xs ++ L) ++ behindL S.nf (S.nf + 1 - (d + 1)) l = l :: behindL S.nf f l by
          have h1 := HT.out
          rw [show S.nf + 1 - d = (S.nf - d) + 1 from by omega] at h1
          simp only [behindL] at h1
          rw [show S.nf - (S.nf - d) = d from by omega, ← hL] at h1
          rw [show S.nf + 1 - (d + 1) = S.nf - d from by omega, List.append_assoc]
          exact h1)
        have HIH := Lib.hid (fun (w' : World) (A' : Option Addr) (c' : Nat) (hb : Below wr.heap.size wr w') (h : SliceIs w' (.slice A' (m + 1) c') (l ++ [(d : Int)])) =>
          (hL ▸ ih (S.nf - d) (by omega) w' A' (m + 1) c' (l ++ [(d : Int)]) (by omega) (by rw [List.length_append, HLM.out]; rfl) (by omega) (fun h => by omega) (fun _ => by
            rw [Nat.add_sub_cancel, ← HLM.out, gOf_last]; congr 1; omega) (hSr.out.mono hb) h : Calls Tryz.prog 192 #[.agg #[.slice Ar S.nr cr, .slice Af S.nf cf, .int .i64 S.deep, .int .i64 S.haul, .int .i64 S.rest], .slice A' (m + 1) c'] w' fun e w'' => ListsOut w'.heap.size w'' L e ∧ Below w'.heap.size w' w''))
        have HLD := Lib.hid hL
        clear hX4 hFq hL
        go_wp2_with fail
        refine wp_region_stir 9 (listHeld V (.agg #[.slice Ar S.nr cr, .slice Af S.nf cf, .int .i64 S.deep, .int .i64 S.haul, .int .i64 S.rest]) A m c (gOf l) d wr.heap.size L) (by kernel_rfl) (by kernel_rfl) rfl (listHeld_good _ _ _ _ _ _ _ _ _) (listHeld_cross _ _ _ _ _ _ _ _ _ _ _ (by kernel_rfl)) ?_
        refine wpStir_const (by go_simp) ?_
        refine wpStir_const (by go_simp) ?_
        refine wpStir_held rfl (fun w' hb hd => ?_) (fun v hv => ?_)
        · go_simp
          exact ⟨bAlloc (Below.refl _ _) _, _, rfl⟩
        obtain ⟨b0, rfl⟩ := hv
        refine wpStir_const (by go_simp) ?_
        refine wpStir_held rfl (fun w' hb hd => ?_) (fun v hv => ?_)
        · exact stir_copy _ _ _ _ rfl 3 _ 1 8 infoInt Tryz.underlying26 rfl (by decide) b0 A m c (intL (gOf l) m) rfl rfl (by rw [intL_len]; omega) ((intsAt_row.1 HX4.out).mono hb) (by omega) (by decide) _ hb.size
        obtain ⟨b1, c1, rfl⟩ := hv
        refine wpStir_const (by go_simp) ?_
        refine wpStir_held rfl (fun w' hb hd => ?_) (fun v hv => ?_)
        · go_simp
          exact ⟨bAlloc (Below.refl _ _) _, ⟨_, rfl⟩, _, rfl, by go_simp⟩
        obtain ⟨b2, rfl⟩ := hv
        simp only [Act.put, List.setIfInBounds_toArray, List.set_cons_succ, List.set_cons_zero]
        refine wpStir_stir rfl (fun w' hb hd => ?_) (fun v hv => ?_)
        · have h1 : sh_oneR (.int .i64 d) w' (.slice (some ⟨b2, 0, none⟩) 1 1) := hd.1 (by kernel_rfl)
          have h2 : AtHand wr.heap.size 3 1 m (intL (gOf l) m) w' (.slice (some ⟨b1, 0, none⟩) m c1) := hd.2.1 (by kernel_rfl)
          clear hd
          have h3 := oneR_get h1
          refine stir_append w' (Operand.tmp 32) (Operand.tmp 34) 26 ?_ 3 (.int .i64 0) 1 8 ?_ ?_ ?_ ?_ (.slice (some ⟨b1, 0, none⟩) m c1) m (intL (gOf l) m) (some ⟨b2, 0, none⟩) 1 1 [.int .i64 d] wr.heap.size h2 ?_ ?_ ?_ ?_ ?_ ?_ ?_ ?_ ?_
          · rfl
          · exact infoInt
          · exact Tryz.underlying26
          · rfl
          · exact Nat.one_pos
          · rfl
          · rfl
          · exact Nat.one_pos
          · rfl
          · refine .inr ⟨b2, 0, rfl, World.block_lt_of_cell? w' _ h3, fun j u hj => ?_⟩
            match j, hj with
            | 0, hj => simp at hj; subst hj; exact h3
          · intro u hu; simp at hu; subst hu; rfl
          · omega
          · decide
          · exact hb.size
        obtain ⟨b3, c3, rfl⟩ := hv
        refine wpStir_held rfl (fun w' hb hd => ?_) (fun v hv => ?_)
        · have h1 : w'.ownsRow wr.heap.size 3 1 (.slice (some ⟨b3, 0, none⟩) (m + 1) c3) (m + 1) (intL (gOf l) m ++ [.int .i64 d]) := hd.1 (by kernel_rfl)
          clear hd
          have h2 : SliceIs w' (.slice (some ⟨b3, 0, none⟩) (m + 1) c3) (l ++ [(d : Int)]) := by
            refine sliceIs_own (N := wr.heap.size) ?_
            rw [List.length_append, show [(d : Int)].length = 1 from rfl, intL_gOf_snoc, HLM.out]
            exact h1
          go_simp
          refine (HIH.out w' _ _ hb h2).mono ?_
          rintro e w'' ⟨⟨u, he, hl⟩, hb'⟩
          obtain ⟨vs8, h8, _⟩ := id hl
          obtain ⟨g8, c8, h9⟩ := owns_form h8 hL1
          exact ⟨u, he, hb', ⟨g8, c8, h9⟩, hl.lower hb.size⟩
        obtain ⟨b4, c4, rfl⟩ := hv
        refine wpStir_end (fun w5 hb5 hd => ?_)
        have hl5 : Listed wr.heap.size w5 L (.slice (some ⟨b4, 0, none⟩) L.length c4) := hd.1
        clear hd
        simp only [List.drop_succ_cons, List.drop_zero]
        simp only [Act.put, List.setIfInBounds_toArray, List.set_cons_succ, List.set_cons_zero]
        obtain ⟨vs8, h8, hr8⟩ := hl5
        have HO5 := Lib.hid (owns_below HO.out hb5)
        have HR5 := Lib.hid (HR.out.mono hb5)
        have H8 := Lib.hid h8
        have HR8 := Lib.hid hr8
        have HB5 := Lib.hid (bTrans HB3.out hb5)
        have hlen8 := h8.1
        have hz5 : w.heap.size + 1 ≤ w5.heap.size := by have := HB5.out.size; simpa using this
        clear h8 hr8 hb5 bc3 bf3
        go_wp2_with (at_builtin; refine wpList_append_own _ rfl _ _ 58 rfl (w.heap.size + 1) 26 i0 (.slice none 0 0) 1 24 Tryz.underlying58 hi iz0 iz1 iz2 rfl (by decide) V xs.length vs rfl HO5.out ⟨b4, 0, none⟩ L.length c4 vs8 rfl hlen8 (fun j u h => H8.out.cells (g := b4) rfl j u h) HR8.out.one (by unfold maxLen; omega) (by omega) hz5 ?_)
        intro v' w6 hown6 hgrow _
        have HF6 := Lib.hid (Listed.more HO5.out HR5.out HR8.out hown6 hgrow)
        have HB6 := Lib.hid (HB5.out.grown hgrow HB5.out.size (fun k hk => by have := (HO5.out.lt k hk).1; simpa using this))
        clear hown6 hgrow
        go_wp2_with fail
        go_roundw
        case rel =>
          obtain ⟨vs9, h9, hr9⟩ := HF6.out
          exact ⟨v', d + 1, xs ++ L, vs9, rfl, by go_num, by omega, by omega, HTN.out, h9, hr9, HB6.out⟩
        case measure => simp [intOf]; omega
      · obtain rfl : d = S.nf + 1 := by omega
        have hfin := (⟨vs, owns_lower HO.out (Nat.le_succ _), HR.out⟩ : Listed w.heap.size wr xs _)
        rw [show xs = l :: behindL S.nf f l from by
          have h1 := HT.out
          rw [Nat.sub_self] at h1
          rw [← h1]
          exact (List.append_nil xs).symm] at hfin
        have HFIN := Lib.hid hfin
        clear hfin
        go_wp2_with fail
        go_ret
        exact ⟨⟨_, rfl, HFIN.out⟩, bTrans HB.out HB3.out⟩
theorem isPlan_at (Ar Af : Option Addr) (cr cf : Nat) (S : Sh) (w : World) (ok : S.Ok) (hS : ShAt w Ar Af S) {m : Nat} {g : Nat → Int} {b : Bool} (h : S.planB m g = b) (A : Option Addr) (c : Nat) (hm : m ≤ 9223372036854775807) (hg : IntsAt w A m g) :
    Calls Tryz.prog 193 #[.agg #[.slice Ar S.nr cr, .slice Af S.nf cf, .int .i64 S.deep, .int .i64 S.haul, .int .i64 S.rest], .slice A m c] w fun e w' => e = .returned (.bool b) ∧ Below w.heap.size w w' := by
  have := isPlan_any Ar Af cr cf S w ok hS A m c g hm hg
  rw [h] at this
  exact this
theorem sh_owns_slice {w : World} {base : Nat} {e : TypeId} {size : Nat} {v : Value} {n : Nat} {xs : List Value} (h : w.ownsRow base e size v n xs) : ∃ A c, v = .slice A n c := by
  rcases h.2 with ⟨rfl, rfl⟩ | ⟨g, cap, cur, rfl, _⟩
  · exact ⟨none, 0, rfl⟩
  · exact ⟨_, cap, rfl⟩
theorem news_one {w : World} {b : Nat} {u : Value} (h : w.cell? ⟨b, 0, none⟩ = some u) : ∀ j v, [u][j]? = some v → w.cell? ((⟨b, 0, none⟩ : Addr).add j) = some v := by
  intro j v hj
  match j, hj with
  | 0, hj => simp at hj; subst hj; simpa [Addr.add] using h
theorem one_one {u : Value} (h : u.oneCell' = true) : ∀ v ∈ [u], v.oneCell' = true := by
  intro v hv
  rw [List.mem_singleton.1 hv]
  exact h
/-- what is read at a place of a row of lists -/
theorem Listed.at_ {base : Nat} {w : World} {L : List (List Int)} {g c k : Nat} {vs : List Value} {l : List Int} (h1 : w.ownsRow base 26 1 (.slice (some ⟨g, 0, none⟩) L.length c) L.length vs) (h2 : RowsT w vs L) (hk : L[k]? = some l) :
    ∃ A m d, w.cell? ⟨g, k, none⟩ = some (.slice A m d) ∧ m = l.length ∧ IntsAt w A m (gOf l) ∧ SliceIs w (.slice A m d) l := by
  obtain ⟨v, e1, A, d, rfl, e2, e3⟩ := h2.get hk
  have := h1.cells (g := g) rfl k _ e1
  rw [show (⟨g, 0, none⟩ : Addr).add k = ⟨g, 0 + k, none⟩ from by unfold Addr.add; split <;> simp_all, Nat.zero_add] at this
  exact ⟨A, _, d, this, rfl, e2, A, d, rfl, e2, e3⟩
def PlansOut (base : Nat) (w' : World) (S : Sh) (e : Ending) : Prop :=
  (¬ S.Ok ∧ e = .returned (.tuple #[.slice none 0 0, .int .i64 20])) ∨ (S.Ok ∧ S.plansL = [] ∧ e = .returned (.tuple #[.slice none 0 0, .int .i64 3])) ∨
    (S.Ok ∧ S.plansL ≠ [] ∧ ∃ g c vs, e = .returned (.tuple #[.slice (some ⟨g, 0, none⟩) S.plansL.length c, .int .i64 0]) ∧ w'.ownsRow base 26 1 (.slice (some ⟨g, 0, none⟩) S.plansL.length c) S.plansL.length vs ∧ RowsT w' vs S.plansL)
theorem take_filter {p : List Int → Bool} {L : List (List Int)} {k : Nat} {l : List Int} (h : L[k]? = some l) : (L.take (k + 1)).filter p = (L.take k).filter p ++ if p l then [l] else [] := by
  rw [List.take_add_one, h, Option.toList_some, List.filter_append]
  congr 1
  simp [List.filter_cons]
set_option maxHeartbeats 8000000 in
set_option maxRecDepth 100000 in
theorem plans_any (Ar Af : Option Addr) (cr cf : Nat) (S : Sh) (w : World) (hr : S.nr ≤ 9223372036854775807) (hf : S.nf ≤ 9223372036854775807) (hS : ShAt w Ar Af S) :
    Calls Tryz.prog 179 #[.agg #[.slice Ar S.nr cr, .slice Af S.nf cf, .int .i64 S.deep, .int .i64 S.haul, .int .i64 S.rest]] w fun e w' => PlansOut w.heap.size w' S e ∧ Below w.heap.size w w' := by
  have hb0 := bAlloc (Below.refl w.heap.size w) (.cells #[.slice Ar S.nr cr, .slice Af S.nf cf, .int .i64 S.deep, .int .i64 S.haul, .int .i64 S.rest] 57)
  have HS := Lib.hid (hS.mono hb0)
  have HB := Lib.hid hb0
  clear hS hb0
  by_cases ok : S.Ok
  · have hnf := ok.nf
    obtain ⟨i0, hi, iz0, iz1, iz2⟩ := info_parts infoList
    go_enter Tryz.func179, Tryz.ntmps179
    go_wp2_with fail
    refine (refCheck_any _ _ _ _ S _ hr hf HS.out).mono ?_
    rintro e w1 ⟨he1, hb1⟩
    rw [show S.err = 0 from if_pos ok] at he1
    subst he1
    have HB1 := Lib.hid hb1
    obtain ⟨bc1, bf1⟩ := bcell hb1
    have hz1 := hb1.size
    simp only [World.size_alloc] at hz1
    have hy1 : w.heap.size < w1.heap.size := by omega
    clear hb1
    go_wp2_with fail
    refine (lists_any _ _ _ _ S hnf S.nf _ _ 0 0 [] (Nat.le_refl _) rfl (by omega) (fun _ => rfl) (fun h => absurd h (Nat.lt_irrefl 0)) (HS.out.mono HB1.out) ⟨none, 0, rfl, .inl rfl, .inl rfl⟩).mono ?_
    rintro e w2 ⟨⟨v2, rfl, vs, hown2, hrows2⟩, hb2⟩
    obtain ⟨L, hL⟩ : ∃ L, L = allLists S.nf := ⟨_, rfl⟩
    rw [show [] :: behindL S.nf S.nf [] = L from hL.symm] at hown2 hrows2
    have hL1 : 1 ≤ L.length := by rw [hL]; simp [allLists]
    have hL2 : L.length ≤ 4096 := by
      have h2 := behindL_len S.nf S.nf []
      have h3 : 2 ^ S.nf ≤ 2 ^ 12 := Nat.pow_le_pow_right (by omega) hnf
      have h4 : (2 : Nat) ^ 12 = 4096 := by decide
      rw [hL]
      simp only [allLists, List.length_cons]
      omega
    obtain ⟨g2, c2, rfl⟩ := owns_form hown2 hL1
    have HLD := Lib.hid hL
    have HO2 := Lib.hid hown2
    have HR2 := Lib.hid hrows2
    have HB2 := Lib.hid (bTrans HB1.out hb2)
    have hg2 : g2 < w2.heap.size := (hown2.lt g2 rfl).2
    obtain ⟨bc2, bf2⟩ := bcell HB2.out
    have hz2 := HB2.out.size
    simp only [World.size_alloc] at hz2
    have hy2 : w.heap.size < w2.heap.size := by omega
    clear hb2 bc1 bf1 hz1 hy1 HB1 hL hown2 hrows2
    go_wp2_with fail
    clear bc2 bf2
    go_loopw [5, 7] (fun v i wr => ∃ (V : Value) (k : Nat) (ks : List (List Int)) (us : List Value), V = v ∧ i = .int .i64 k ∧ k ≤ L.length ∧ ks = (L.take k).filter S.isPlanL ∧ wr.ownsRow w2.heap.size 26 1 V ks.length us ∧ RowsT wr us ks ∧ Below w2.heap.size w2 wr) (fun _ i _ => L.length - (intOf i).toNat)
    case atStart => exact ⟨_, 0, [], [], rfl, rfl, Nat.zero_le _, rfl, World.ownsRow_nil _ _ _ _, trivial, Below.refl _ _⟩
    case round =>
      obtain ⟨V, k, ks, us, hV, rfl, hk, hks, hown, hrows, hbel⟩ := hrel
      subst hV
      have HKS := Lib.hid hks
      have HO := Lib.hid hown
      have HR := Lib.hid hrows
      have HD3 := Lib.hid hbel
      have HB3 := Lib.hid (bTrans HB2.out hbel)
      obtain ⟨bc3, bf3⟩ := bcell HB3.out
      have hz3 := HB3.out.size
      simp only [World.size_alloc] at hz3
      have hy3 : w.heap.size < wr.heap.size := hz3
      have hg3 : g2 < wr.heap.size := Nat.lt_of_lt_of_le hg2 hbel.size
      have hkl : ks.length ≤ 4096 := by
        have h1 := List.length_filter_le S.isPlanL (L.take k)
        have h2 := List.length_take_le k L
        rw [hks]
        omega
      clear hks hown hrows hbel
      by_cases hlt : k < L.length
      · obtain ⟨l, hl⟩ : ∃ l, L[k]? = some l := ⟨_, List.getElem?_eq_getElem hlt⟩
        obtain ⟨Ak, mk, dk, hc, hmk, hint, hsl⟩ := Listed.at_ (owns_below HO2.out HD3.out) (HR2.out.mono HD3.out) hl
        have hm12 : mk ≤ 9223372036854775807 := by
          have h1 := List.mem_of_getElem? hl
          rw [HLD.out] at h1
          have := all_lens h1
          omega
        have hpl : S.planB mk (gOf l) = S.isPlanL l := by rw [hmk]; rfl
        have HI := Lib.hid hint
        have HSL := Lib.hid hsl
        have HTF := Lib.hid (take_filter (p := S.isPlanL) hl)
        have hlt2 : (k : Int) < (L.length : Int) := by omega
        clear hmk
        cases hp : S.isPlanL l
        all_goals
          rw [hp] at hpl
          have HP := Lib.hid hpl
          have HPL := Lib.hid hp
          clear hpl hp
          go_wp2_with fail
          refine wp_region_quiet_below (by kernel_rfl) (by kernel_rfl) ?_
          repeat (go_big_quiet_step ((go_at_call 193; exact Calls.regrown_of (isPlan_at _ _ _ _ S _ ok ((HS.out.mono HB3.out).mono (below_regrown _ _ _)) HP.out _ _ hm12 (HI.out.mono (below_regrown _ _ _))))))
          refine wpQuiet_nil ?_
          intro w4 hw4
          have hb4 := below_of_regrown hw4
          have HD4 := Lib.hid (bTrans HD3.out hb4)
          have HB4 := Lib.hid (bTrans HB3.out hb4)
          have HO4 := Lib.hid (owns_below HO.out hb4)
          have HR4 := Lib.hid (HR.out.mono hb4)
          have HSL4 := Lib.hid (HSL.out.mono hb4)
          have hz4 := hb4.size
          have hc4 := (hb4.cell (p := ⟨g2, k, none⟩) hg3).trans hc
          obtain ⟨bc4, bf4⟩ := bcell HB4.out
          have hy4 : w.heap.size < w4.heap.size := by omega
          have hg4 : g2 < w4.heap.size := by omega
          clear hw4 hb4 bc3 bf3 hz3 hy3 hg3 hc
        · go_wp2_with fail
          go_roundw
          case rel => exact ⟨V, k + 1, ks, us, rfl, by go_num, by omega, by rw [HTF.out, HPL.out, HKS.out]; simp, HO4.out, HR4.out, HD4.out⟩
          case measure => simp [intOf]; omega
        · clear bc4 bf4
          go_wp2_with (at_builtin; refine wpList_append_own _ rfl _ _ 58 rfl w2.heap.size 26 i0 (.slice none 0 0) 1 24 Tryz.underlying58 hi iz0 iz1 iz2 rfl (by decide) V ks.length us rfl (HO4.out.alloc _) ⟨w4.heap.size, 0, none⟩ 1 1 [.slice Ak mk dk] rfl rfl (news_one (by go_simp)) (one_one rfl) (by unfold maxLen; omega) (by omega) (by have := HD4.out.size; simp; omega) ?_)
          intro v' w5 hown5 hgrow _
          have HD5 := Lib.hid ((HD4.out.alloc HD4.out.size _).grown hgrow (by have := HD4.out.size; simp; omega) (fun k hk => (HO4.out.lt k hk).1))
          have hl5 := Listed.more (K := [l]) (HO4.out.alloc _) (HR4.out.mono (bAlloc (Below.refl _ _) _)) (us := [.slice Ak mk dk]) ⟨HSL4.out.mono (bAlloc (Below.refl _ _) _), trivial⟩ hown5 hgrow
          have HL5 := Lib.hid hl5
          clear hown5 hgrow hl5
          go_wp2_with fail
          go_roundw
          case rel =>
            obtain ⟨us', h1, h2⟩ := HL5.out
            exact ⟨v', k + 1, ks ++ [l], us', rfl, by go_num, by omega, by rw [HTF.out, HPL.out, HKS.out]; simp, h1, h2, HD5.out⟩
          case measure => simp [intOf]; omega
      · obtain rfl : k = L.length := by omega
        have hks2 : ks = S.plansL := by rw [HKS.out, List.take_length, HLD.out]; rfl
        have HK2 := Lib.hid hks2
        obtain ⟨AV, cV, rfl⟩ := sh_owns_slice HO.out
        rcases Nat.eq_zero_or_pos ks.length with h0 | h0
        · have hz : ((ks.length : Int) == 0) = true := by rw [h0]; rfl
          have HE := Lib.hid (show S.plansL = [] by rw [← hks2]; exact List.eq_nil_of_length_eq_zero h0)
          clear hks2 h0
          go_wp2_with fail
          go_ret2
          exact ⟨.inr (.inl ⟨ok, HE.out, rfl⟩), bTrans HB.out HB3.out⟩
        · have hz : ((ks.length : Int) == 0) = false := beq_eq_false_iff_ne.2 (by omega)
          obtain ⟨gV, cV', hV⟩ := owns_form HO.out h0
          injection hV with e1 e2 e3
          subst e1 e3
          have HE := Lib.hid (show S.plansL ≠ [] by rw [← hks2]; intro e; rw [e] at h0; exact absurd h0 (Nat.lt_irrefl 0))
          clear hks2 h0
          go_wp2_with fail
          go_ret2
          have hO := HO.out
          have hR := HR.out
          rw [HK2.out] at hO hR ⊢
          exact ⟨.inr (.inr ⟨ok, HE.out, gV, _, us, rfl, owns_lower hO (by omega), hR⟩), bTrans HB.out HB3.out⟩
  · go_enter Tryz.func179, Tryz.ntmps179
    go_wp2_with fail
    refine (refCheck_any _ _ _ _ S _ hr hf HS.out).mono ?_
    rintro e w1 ⟨he1, hb1⟩
    rw [show S.err = 20 from if_neg ok] at he1
    subst he1
    go_wp2_with fail
    go_ret2
    exact ⟨.inl ⟨ok, rfl⟩, bTrans HB.out hb1⟩
end Go.Proofs.YtjpfdhhiofjpbaaGreatDoor


namespace Go.Proofs.YtjpfdhhiofjpbaaGreatDoor
open Go.RowKit Go.Sort
theorem costOf_at (Ar Af : Option Addr) (cr cf : Nat) (S : Sh) (w : World) (ok : S.Ok) (hS : ShAt w Ar Af S) {m : Nat} {g : Nat → Int} {x : Int} (h : S.costOf m g = x) (A : Option Addr) (c : Nat) (hg : IntsAt w A m g) (hR : Rising 1 S.nf m g) :
    Calls Tryz.prog 180 #[.agg #[.slice Ar S.nr cr, .slice Af S.nf cf, .int .i64 S.deep, .int .i64 S.haul, .int .i64 S.rest], .slice A m c] w fun e w' => e = .returned (.int .i64 x) ∧ Below w.heap.size w w' := by
  have := costOf_any Ar Af cr cf S w ok hS A m c g hg hR
  rw [h] at this
  exact this
theorem plans_lens {S : Sh} (ok : S.Ok) : S.plansL.length ≤ 4096 ∧ ∀ l ∈ S.plansL, l.length ≤ 12 := by
  have hnf := ok.nf
  have h2 := behindL_len S.nf S.nf []
  have h3 : 2 ^ S.nf ≤ 2 ^ 12 := Nat.pow_le_pow_right (by omega) hnf
  have h4 : (2 : Nat) ^ 12 = 4096 := by decide
  have h5 : S.plansL.length ≤ (allLists S.nf).length := List.length_filter_le _ _
  simp only [allLists, List.length_cons] at h5
  refine ⟨by omega, fun l hl => ?_⟩
  have := all_lens (List.mem_filter.1 hl).1
  omega
theorem fewest_none {S : Sh} (ok : S.Ok) (h : S.plansL = []) : S.fewestOut = (0, 3) ∧ S.cheapOut = (0, 3) := by
  rcases out_cases ok with ⟨hh, _⟩ | ⟨_, h1, h2⟩
  · exact absurd h (plans_has.2 hh)
  · exact ⟨h1, h2⟩
theorem cheap_some {S : Sh} (ok : S.Ok) {b : List Int} {xs : List (List Int)} (hL : S.plansL = b :: xs) {n : Int} (h1 : ∃ l ∈ S.plansL, S.costOf l.length (gOf l) = n) (h2 : ∀ l ∈ S.plansL, n ≤ S.costOf l.length (gOf l)) : S.cheapOut = (n, 0) := by
  have hc := min_cost hL h1 h2
  rcases out_cases ok with ⟨_, m, n', _, h3, _, h4, _⟩ | ⟨h, _⟩
  · rw [h3, h4.uniq hc]
  · exact absurd (plans_has.1 (by rw [hL]; simp)) h
set_option maxHeartbeats 4000000 in
set_option maxRecDepth 100000 in
theorem refCheap_any (Ar Af : Option Addr) (cr cf : Nat) (S : Sh) (w : World) (hr : S.nr ≤ 9223372036854775807) (hf : S.nf ≤ 9223372036854775807) (hS : ShAt w Ar Af S) :
    Calls Tryz.prog 153 #[.agg #[.slice Ar S.nr cr, .slice Af S.nf cf, .int .i64 S.deep, .int .i64 S.haul, .int .i64 S.rest]] w fun e w' => e = .returned (.tuple #[.int .i64 S.cheapOut.1, .int .i64 S.cheapOut.2]) ∧ Below w.heap.size w w' := by
  have hb0 := bAlloc (Below.refl w.heap.size w) (.cells #[.slice Ar S.nr cr, .slice Af S.nf cf, .int .i64 S.deep, .int .i64 S.haul, .int .i64 S.rest] 57)
  have HS := Lib.hid (hS.mono hb0)
  have HB := Lib.hid hb0
  clear hS hb0
  go_enter Tryz.func153, Tryz.ntmps153
  go_wp2_with fail
  refine (plans_any _ _ _ _ S _ hr hf HS.out).mono ?_
  rintro e w2 ⟨hp, hb2⟩
  have HB2 := Lib.hid hb2
  obtain ⟨bc2, bf2⟩ := bcell hb2
  have hz2 := hb2.size
  simp only [World.size_alloc] at hz2
  have hy2 : w.heap.size < w2.heap.size := by omega
  clear hb2
  rcases hp with ⟨ok, rfl⟩ | ⟨ok, hno, rfl⟩ | ⟨ok, hne, g2, c2, vs, rfl, hown, hrows⟩
  · have HE := Lib.hid (cheapOut_bad ok)
    go_wp2_with fail
    go_ret2
    exact ⟨by rw [HE.out]; rfl, bTrans HB.out HB2.out⟩
  · have HE := Lib.hid (fewest_none ok hno).2
    clear hno
    go_wp2_with fail
    go_ret2
    exact ⟨by rw [HE.out]; rfl, bTrans HB.out HB2.out⟩
  · obtain ⟨b, xs, hbx⟩ : ∃ b xs, S.plansL = b :: xs := by
      cases h : S.plansL with
      | nil => exact absurd h hne
      | cons b xs => exact ⟨b, xs, rfl⟩
    obtain ⟨hle, hlens⟩ := plans_lens ok
    obtain ⟨L, hL⟩ : ∃ L, L = S.plansL := ⟨_, rfl⟩
    rw [← hL] at hown hrows hne hle hlens
    have hL1 : 0 < L.length := by rw [hL, hbx]; simp
    have hL1' : (0 : Int) < (L.length : Int) := by omega
    have HBX := Lib.hid hbx
    have HLX := Lib.hid hL
    rw [← hL]
    have HO := Lib.hid hown
    have HR := Lib.hid hrows
    have hg2 : g2 < w2.heap.size := (hown.lt g2 rfl).2
    have HPL := Lib.hid (fun (l : List Int) (h : l ∈ L) => listed_plan (hL ▸ h : l ∈ S.plansL))
    have hb0L : b ∈ L := by rw [hL, hbx]; exact List.mem_cons_self ..
    have HBL := Lib.hid hb0L
    obtain ⟨A0, m0, d0, hc0, hm0, hint0, _⟩ := Listed.at_ hown hrows (show L[0]? = some b by rw [hL, hbx]; rfl)
    obtain ⟨x0, hx0⟩ : ∃ x0, S.costOf m0 (gOf b) = x0 := ⟨_, rfl⟩
    have HI0 := Lib.hid hint0
    have HX0 := Lib.hid hx0
    have HR0 := Lib.hid (show Rising 1 S.nf m0 (gOf b) by rw [hm0]; exact (HPL.out b hb0L).rising)
    have HXX := Lib.hid (show S.costOf b.length (gOf b) = x0 by rw [← hm0]; exact hx0)
    clear hown hrows hne hlens hbx hL hint0 hm0 hx0 hb0L
    go_wp2_with fail
    refine wp_region_quiet_below (by kernel_rfl) (by kernel_rfl) ?_
    repeat (go_big_quiet_step ((go_at_call 180; exact Calls.regrown_of (costOf_at _ _ _ _ S _ ok ((HS.out.mono HB2.out).mono (below_regrown _ _ _)) HX0.out _ _ (HI0.out.mono (below_regrown _ _ _)) HR0.out))))
    refine wpQuiet_nil ?_
    intro w3 hw3
    have hb3 := below_of_regrown hw3
    have HB3 := Lib.hid (bTrans HB2.out hb3)
    have HO3 := Lib.hid (owns_below HO.out hb3)
    have HR3 := Lib.hid (HR.out.mono hb3)
    have hz3 := hb3.size
    have hg3 : g2 < w3.heap.size := by omega
    have hy3 : w.heap.size < w3.heap.size := by omega
    clear hw3 hb3 bc2 bf2 hz2 hy2 hc0 hg2 HO HR
    go_wp2_with fail
    go_loopw [6, 7] (fun v i wr => ∃ (k : Nat) (n : Int), v = .int .i64 n ∧ i = .int .i64 k ∧ k ≤ L.length ∧ (∃ l ∈ L, S.costOf l.length (gOf l) = n) ∧ (∀ j l, j < k → L[j]? = some l → n ≤ S.costOf l.length (gOf l)) ∧ Below w3.heap.size w3 wr) (fun _ i _ => L.length - (intOf i).toNat)
    case atStart => exact ⟨0, x0, rfl, rfl, Nat.zero_le _, ⟨b, HBL.out, HXX.out⟩, fun j l h => absurd h (Nat.not_lt_zero _), Below.refl _ _⟩
    case round =>
      obtain ⟨k, n, rfl, rfl, hk, hex, hmin, hbel⟩ := hrel
      have HEX := Lib.hid hex
      have HMIN := Lib.hid hmin
      have HD4 := Lib.hid hbel
      have HB4 := Lib.hid (bTrans HB3.out hbel)
      obtain ⟨bc4, bf4⟩ := bcell HB4.out
      have hz4 := HB4.out.size
      simp only [World.size_alloc] at hz4
      have hy4 : w.heap.size < wr.heap.size := hz4
      have hg4 : g2 < wr.heap.size := Nat.lt_of_lt_of_le hg3 hbel.size
      clear hex hmin hbel
      by_cases hlt : k < L.length
      · obtain ⟨l, hl⟩ : ∃ l, L[k]? = some l := ⟨_, List.getElem?_eq_getElem hlt⟩
        obtain ⟨Ak, mk, dk, hc, hmk, hint, _⟩ := Listed.at_ (owns_below HO3.out HD4.out) (HR3.out.mono HD4.out) hl
        have hlt2 : (k : Int) < (L.length : Int) := by omega
        obtain ⟨x, hx⟩ : ∃ x, S.costOf mk (gOf l) = x := ⟨_, rfl⟩
        have HX := Lib.hid hx
        have HI := Lib.hid hint
        have HL := Lib.hid hl
        have HML := Lib.hid (List.mem_of_getElem? hl)
        have HRK := Lib.hid (show Rising 1 S.nf mk (gOf l) by rw [hmk]; exact (HPL.out l HML.out).rising)
        have hxl : S.costOf l.length (gOf l) = x := by rw [← hmk]; exact hx
        have hmn : ∃ y, (if x < n then x else n) = y ∧ (∃ l ∈ L, S.costOf l.length (gOf l) = y) ∧ ∀ j l, j < k + 1 → L[j]? = some l → y ≤ S.costOf l.length (gOf l) := by
          by_cases hxn : x < n
          · refine ⟨x, if_pos hxn, ⟨l, HML.out, hxl⟩, fun j l' hj hl' => ?_⟩
            rcases Nat.lt_or_ge j k with h1 | h1
            · have := HMIN.out j l' h1 hl'; omega
            · obtain rfl : j = k := by omega
              rw [hl] at hl'
              injection hl' with hl'
              subst hl'
              omega
          · refine ⟨n, if_neg hxn, HEX.out, fun j l' hj hl' => ?_⟩
            rcases Nat.lt_or_ge j k with h1 | h1
            · exact HMIN.out j l' h1 hl'
            · obtain rfl : j = k := by omega
              rw [hl] at hl'
              injection hl' with hl'
              subst hl'
              omega
        obtain ⟨y, hy, hy1, hy2⟩ := hmn
        have HY1 := Lib.hid hy1
        have HY2 := Lib.hid hy2
        clear hx hint hl hmk hxl hy1 hy2
        go_wp2_with fail
        refine wp_region_quiet_below (by kernel_rfl) (by kernel_rfl) ?_
        repeat (go_big_quiet_step ((go_at_call 180; exact Calls.regrown_of (costOf_at _ _ _ _ S _ ok ((HS.out.mono HB4.out).mono (below_regrown _ _ _)) HX.out _ _ (HI.out.mono (below_regrown _ _ _)) HRK.out))))
        refine wpQuiet_nil ?_
        intro w5 hw5
        have HD5 := Lib.hid (bTrans HD4.out (below_of_regrown hw5))
        clear hw5
        go_wp2_with fail
        go_roundw
        case rel => exact ⟨k + 1, y, by first | rfl | (rw [hy]), by go_num, by omega, HY1.out, HY2.out, HD5.out⟩
        case measure => simp [intOf]; omega
      · obtain rfl : k = L.length := by omega
        have HE := Lib.hid (cheap_some ok HBX.out (n := n) (by rw [← HLX.out]; exact HEX.out) (fun l hl => by
          rw [← HLX.out] at hl
          obtain ⟨j, hj, e⟩ := List.getElem_of_mem hl
          exact HMIN.out j l hj (by rw [List.getElem?_eq_getElem hj, e])))
        go_wp2_with fail
        go_ret2
        exact ⟨by rw [HE.out]; rfl, bTrans HB.out HB4.out⟩
end Go.Proofs.YtjpfdhhiofjpbaaGreatDoor


namespace Go.Proofs.YtjpfdhhiofjpbaaGreatDoor
open Go.RowKit Go.Sort
/-- the price of a spot, below 0 if it cannot be dug -/
noncomputable def Pt.priceV (t : Pt) (s : Nat) : Int := if (t.cheap s).2 = 0 then (t.cheap s).1 else -1
set_option maxHeartbeats 4000000 in
set_option maxRecDepth 100000 in
theorem priceOf9_any (Aw Af Ao Ap As : Option Addr) (cw cf co cp cs : Nat) (t : Pt) (i : Nat) (w : World) (hs : t.Small) (hT : PAt w Aw Af Ao Ap As t) (hi : i < t.ns) :
    Calls Tryz.prog 91 #[.agg #[.int .i64 t.q.wells, .slice Aw t.q.nw cw, .slice Af t.q.nf cf, .slice Ao t.no co, .slice Ap t.np cp, .slice As t.ns cs, .int .i64 t.far, .int .i64 t.harm, .int .i64 t.many], .int .i64 (i : Int)] w fun e w' => e = .returned (.int .i64 (t.priceV i)) ∧ Below w.heap.size w w' := by
  obtain ⟨b, o, Ar, Af2, Ax, cr, cf2, cx, hA, hb7, hsh, hrow, s0, s1, s2, s3, s4, s5, s6⟩ := hT.spots.get hi
  have hxs := hs.spot i hi
  have hi1 : (i : Int) < (t.ns : Int) := by omega
  have hi0 : (0 : Int) ≤ (i : Int) := by omega
  obtain ⟨x, hxx⟩ : ∃ x, t.spot i = x := ⟨_, rfl⟩
  rw [hxx] at s0 s1 s2 s3 s4 s5 s6 hsh hrow hxs
  subst hA
  obtain ⟨y, hy⟩ : ∃ y, (t.cheap i).1 = y := ⟨_, rfl⟩
  obtain ⟨z, hz⟩ : ∃ z, (t.cheap i).2 = z := ⟨_, rfl⟩
  have HE := Lib.hid (show t.priceV i = if z = 0 then y else -1 by unfold Pt.priceV; rw [hy, hz])
  have HC := Lib.hid (fun (w' : World) (hb : Below w.heap.size w w') => (by have := refCheap_any Ar Af2 cr cf2 x.sh w' hxs.nr hxs.nf (hsh.mono hb); rw [← hxx] at this ⊢; unfold Pt.cheap at hy hz; rw [hy, hz] at this; exact this : Calls Tryz.prog 153 #[.agg #[.slice Ar x.sh.nr cr, .slice Af2 x.sh.nf cf2, .int .i64 x.sh.deep, .int .i64 x.sh.haul, .int .i64 x.sh.rest]] w' fun e w'' => e = .returned (.tuple #[.int .i64 y, .int .i64 z]) ∧ Below w'.heap.size w' w''))
  clear hy hz hsh hrow hxs hxx hi
  have HD0 := Lib.hid (Below.refl w.heap.size w)
  have HSM := Lib.hid hs
  have HT0 := Lib.hid hT
  clear hs hT
  go_enter Tryz.func91, Tryz.ntmps91
  go_wp2_with fail
  refine (HC.out _ (bTrans HD0.out (bAlloc (Below.refl _ _) (.cells #[.int .i64 t.q.wells, .slice Aw t.q.nw cw, .slice Af t.q.nf cf, .slice Ao t.no co, .slice Ap t.np cp, .slice (some ⟨b, o, none⟩) t.ns cs, .int .i64 t.far, .int .i64 t.harm, .int .i64 t.many] 29)))).mono ?_
  rintro e w1 ⟨rfl, hb⟩
  have hB1 : Below w.heap.size w w1 := bTrans (bAlloc (Below.refl _ _) (.cells #[.int .i64 t.q.wells, .slice Aw t.q.nw cw, .slice Af t.q.nf cf, .slice Ao t.no co, .slice Ap t.np cp, .slice (some ⟨b, o, none⟩) t.ns cs, .int .i64 t.far, .int .i64 t.harm, .int .i64 t.many] 29)) hb
  have HD1 := Lib.hid (bTrans HD0.out hB1)
  have HT1 := Lib.hid (HT0.out.mono hB1)
  have T1 := Lib.hid (show TBox w1 w.heap.size 29 #[.int .i64 t.q.wells, .slice Aw t.q.nw cw, .slice Af t.q.nf cf, .slice Ao t.no co, .slice Ap t.np cp, .slice (some ⟨b, o, none⟩) t.ns cs, .int .i64 t.far, .int .i64 t.harm, .int .i64 t.many] from by have := ((TBox.new w #[.int .i64 t.q.wells, .slice Aw t.q.nw cw, .slice Af t.q.nf cf, .slice Ao t.no co, .slice Ap t.np cp, .slice (some ⟨b, o, none⟩) t.ns cs, .int .i64 t.far, .int .i64 t.harm, .int .i64 t.many] 29).mono (Below.refl _ _)).mono hb; simpa using this)
  clear hb hB1 HD0 HT0
  obtain ⟨T_0, T_1, T_2, T_3, T_4, T_5, T_6, T_7, T_8, T_l⟩ := T1.out.c9
  by_cases h0 : z = 0
  case neg =>
    have e1 : (z != 0) = true := by simp [h0]
    have HZ0 := Lib.hid (show t.priceV i = -1 by rw [HE.out, if_neg h0])
    clear h0
    go_wp2_with fail
    go_ret
    exact ⟨by rw [HZ0.out] <;> rfl, HD1.out⟩
  subst h0
  have HZ0 := Lib.hid (show t.priceV i = y by rw [HE.out, if_pos rfl])
  go_wp2_with fail
  go_ret
  exact ⟨by rw [HZ0.out] <;> rfl, HD1.out⟩
set_option maxHeartbeats 8000000 in
set_option maxRecDepth 100000 in
theorem isForb9_any (Aw Af Ao Ap As : Option Addr) (cw cf co cp cs : Nat) (t : Pt) (a i v : Nat) (w : World) (ok : t.Ok) (hT : PAt w Aw Af Ao Ap As t) (hi : i < t.ns) (hv : (v : Int) < t.q.wells) (ha : a < t.q.nw) :
    Calls Tryz.prog 44 #[.agg #[.int .i64 t.q.wells, .slice Aw t.q.nw cw, .slice Af t.q.nf cf, .slice Ao t.no co, .slice Ap t.np cp, .slice As t.ns cs, .int .i64 t.far, .int .i64 t.harm, .int .i64 t.many], .int .i64 (a : Int), .int .i64 (i : Int), .int .i64 (v : Int)] w fun e w' => e = .returned (.bool (t.forb i v (a : Int))) ∧ Below w.heap.size w w' := by
  obtain ⟨b, o, Ar, Af2, Ax, cr, cf2, cx, hA, hb7, hsh, hrow, s0, s1, s2, s3, s4, s5, s6⟩ := hT.spots.get hi
  have hxs := ok.spot i hi
  have hi1 : (i : Int) < (t.ns : Int) := by omega
  have hi0 : (0 : Int) ≤ (i : Int) := by omega
  obtain ⟨x, hxx⟩ : ∃ x, t.spot i = x := ⟨_, rfl⟩
  rw [hxx] at s0 s1 s2 s3 s4 s5 s6 hsh hrow hxs
  subst hA
  have hvn : v < t.no := by have := ok.no; omega
  obtain ⟨bo, oo, hO, hbo, co0⟩ := hT.old.get hvn
  obtain ⟨br, or_, bq, oq, cq, hR, hbr, r0, hbq, r1⟩ := hrow.get (k := a) (j := v) (by rw [hxs.n]; exact ha) (by have := hxs.len a (by rw [hxs.n]; exact ha); omega)
  have hxa := And.intro hxs.a0 hxs.a1
  have hol := ok.old v hvn
  have hfa := hxs.fall a (by rw [hxs.n]; exact ha) v (by have := hxs.len a (by rw [hxs.n]; exact ha); omega)
  have hmm := ok.many
  have hln : (v : Int) < (x.fl.len a : Int) := by have := hxs.len a (by rw [hxs.n]; exact ha); omega
  have han : (a : Int) < (x.fl.n : Int) := by have := hxs.n; omega
  have hvo : (v : Int) < (t.no : Int) := by omega
  obtain ⟨fa, hfx⟩ : ∃ f, x.fl.fall a v = f := ⟨_, rfl⟩
  obtain ⟨u, hu⟩ : ∃ u, t.old v = u := ⟨_, rfl⟩
  rw [hfx] at r1 hfa
  rw [hu] at co0 hol
  obtain ⟨d, hd⟩ : ∃ d, dst x.at_ u = d := ⟨_, rfl⟩
  have hwr : IntKind.i64.wrap (fa * t.many) = fa * t.many := IntWalk.i64_in _ (by
    have h1 : 0 ≤ fa * t.many := Int.mul_nonneg hfa.1 hmm.1
    have h2 : fa * t.many ≤ 9 * 9 := Int.mul_le_mul hfa.2 hmm.2 hmm.1 (by decide)
    omega)
  have HF := Lib.hid (show t.forb i v (a : Int) = (decide (d < t.far) || decide (t.harm < fa * t.many)) by unfold Pt.forb; rw [Int.toNat_natCast, hxx, hu, dst_comm, hd, ← hfx])
  have HDI := Lib.hid (fun w' => hd ▸ dist9_any x.at_ u w' hxa hol : ∀ w' : World, Calls Tryz.prog 58 #[.int .i64 x.at_, .int .i64 u] w' fun e w'' => e = .returned (.int .i64 d) ∧ Below w'.heap.size w' w'')
  subst hO hR
  rw [HF.out]
  clear hvn hsh hrow hxs hxx hi hxa hol hfa hmm hd hfx hu HF ha hv ok
  have HD0 := Lib.hid (Below.refl w.heap.size w)
  go_enter Tryz.func44, Tryz.ntmps44
  go_wp2_with fail
  by_cases hdf : d < t.far
  case pos =>
    have hdd : decide (d < t.far) = true := by simpa using hdf
    refine wp_region_quiet_below (by kernel_rfl) (by kernel_rfl) ?_
    repeat (go_big_quiet_step ((go_at_call 58; exact Calls.regrown_of (HDI.out _))))
    refine wpQuiet_nil ?_
    intro w1 hw9
    have hb := below_of_regrown hw9
    clear hw9
    have hB1 : Below w.heap.size w w1 := bTrans (bAlloc (Below.refl _ _) (.cells #[.int .i64 t.q.wells, .slice Aw t.q.nw cw, .slice Af t.q.nf cf, .slice (some ⟨bo, oo, none⟩) t.no co, .slice Ap t.np cp, .slice (some ⟨b, o, none⟩) t.ns cs, .int .i64 t.far, .int .i64 t.harm, .int .i64 t.many] 29)) hb
    have HD1 := Lib.hid (bTrans HD0.out hB1)
    have T1 := Lib.hid (show TBox w1 w.heap.size 29 #[.int .i64 t.q.wells, .slice Aw t.q.nw cw, .slice Af t.q.nf cf, .slice (some ⟨bo, oo, none⟩) t.no co, .slice Ap t.np cp, .slice (some ⟨b, o, none⟩) t.ns cs, .int .i64 t.far, .int .i64 t.harm, .int .i64 t.many] from by have := ((TBox.new w #[.int .i64 t.q.wells, .slice Aw t.q.nw cw, .slice Af t.q.nf cf, .slice (some ⟨bo, oo, none⟩) t.no co, .slice Ap t.np cp, .slice (some ⟨b, o, none⟩) t.ns cs, .int .i64 t.far, .int .i64 t.harm, .int .i64 t.many] 29).mono (Below.refl _ _)).mono hb; simpa using this)
    clear hb hB1 HD0
    obtain ⟨T_0, T_1, T_2, T_3, T_4, T_5, T_6, T_7, T_8, T_l⟩ := T1.out.c9
    go_wp2_with fail
    go_ret
    exact ⟨by simp [hdd], HD1.out⟩
  have hdd : decide (d < t.far) = false := by simpa using hdf
  cases hbh : decide (t.harm < fa * t.many)
  · skip
    refine wp_region_quiet_below (by kernel_rfl) (by kernel_rfl) ?_
    repeat (go_big_quiet_step ((go_at_call 58; exact Calls.regrown_of (HDI.out _))))
    refine wpQuiet_nil ?_
    intro w1 hw9
    have hb := below_of_regrown hw9
    clear hw9
    have hB1 : Below w.heap.size w w1 := bTrans (bAlloc (Below.refl _ _) (.cells #[.int .i64 t.q.wells, .slice Aw t.q.nw cw, .slice Af t.q.nf cf, .slice (some ⟨bo, oo, none⟩) t.no co, .slice Ap t.np cp, .slice (some ⟨b, o, none⟩) t.ns cs, .int .i64 t.far, .int .i64 t.harm, .int .i64 t.many] 29)) hb
    have HD1 := Lib.hid (bTrans HD0.out hB1)
    have T1 := Lib.hid (show TBox w1 w.heap.size 29 #[.int .i64 t.q.wells, .slice Aw t.q.nw cw, .slice Af t.q.nf cf, .slice (some ⟨bo, oo, none⟩) t.no co, .slice Ap t.np cp, .slice (some ⟨b, o, none⟩) t.ns cs, .int .i64 t.far, .int .i64 t.harm, .int .i64 t.many] from by have := ((TBox.new w #[.int .i64 t.q.wells, .slice Aw t.q.nw cw, .slice Af t.q.nf cf, .slice (some ⟨bo, oo, none⟩) t.no co, .slice Ap t.np cp, .slice (some ⟨b, o, none⟩) t.ns cs, .int .i64 t.far, .int .i64 t.harm, .int .i64 t.many] 29).mono (Below.refl _ _)).mono hb; simpa using this)
    clear hb hB1 HD0
    obtain ⟨T_0, T_1, T_2, T_3, T_4, T_5, T_6, T_7, T_8, T_l⟩ := T1.out.c9
    go_wp2_with fail
    go_ret
    exact ⟨by simp [hdd, hbh], HD1.out⟩
  · skip
    refine wp_region_quiet_below (by kernel_rfl) (by kernel_rfl) ?_
    repeat (go_big_quiet_step ((go_at_call 58; exact Calls.regrown_of (HDI.out _))))
    refine wpQuiet_nil ?_
    intro w1 hw9
    have hb := below_of_regrown hw9
    clear hw9
    have hB1 : Below w.heap.size w w1 := bTrans (bAlloc (Below.refl _ _) (.cells #[.int .i64 t.q.wells, .slice Aw t.q.nw cw, .slice Af t.q.nf cf, .slice (some ⟨bo, oo, none⟩) t.no co, .slice Ap t.np cp, .slice (some ⟨b, o, none⟩) t.ns cs, .int .i64 t.far, .int .i64 t.harm, .int .i64 t.many] 29)) hb
    have HD1 := Lib.hid (bTrans HD0.out hB1)
    have T1 := Lib.hid (show TBox w1 w.heap.size 29 #[.int .i64 t.q.wells, .slice Aw t.q.nw cw, .slice Af t.q.nf cf, .slice (some ⟨bo, oo, none⟩) t.no co, .slice Ap t.np cp, .slice (some ⟨b, o, none⟩) t.ns cs, .int .i64 t.far, .int .i64 t.harm, .int .i64 t.many] from by have := ((TBox.new w #[.int .i64 t.q.wells, .slice Aw t.q.nw cw, .slice Af t.q.nf cf, .slice (some ⟨bo, oo, none⟩) t.no co, .slice Ap t.np cp, .slice (some ⟨b, o, none⟩) t.ns cs, .int .i64 t.far, .int .i64 t.harm, .int .i64 t.many] 29).mono (Below.refl _ _)).mono hb; simpa using this)
    clear hb hB1 HD0
    obtain ⟨T_0, T_1, T_2, T_3, T_4, T_5, T_6, T_7, T_8, T_l⟩ := T1.out.c9
    go_wp2_with fail
    go_ret
    exact ⟨by simp [hdd, hbh], HD1.out⟩
end Go.Proofs.YtjpfdhhiofjpbaaGreatDoor

namespace Go.Proofs.YtjpfdhhiofjpbaaGreatDoor
open Go.RowKit Go.Sort
/-- what known hands back -/
def Kn9 (w : World) (t : Pt) (er : Int) (e : Ending) : Prop := (er ≠ 0 → e = .returned (.tuple #[.slice none 0 0, .int .i64 er])) ∧ (er = 0 → ∃ A c, e = .returned (.tuple #[.slice A t.q.leftL.length c, .int .i64 0]) ∧ IntsAt w A t.q.leftL.length (intL0 t.q.leftL))
theorem Kn9.ret {w : World} {t : Pt} {er : Int} {e : Ending} (h : Kn9 w t er e) : ∃ v, e = .returned v := by
  by_cases h0 : er = 0
  · obtain ⟨A, c, h1, _⟩ := h.2 h0
    exact ⟨_, h1⟩
  · exact ⟨_, h.1 h0⟩
theorem left_get {t : Pt} {w : World} {A : Option Addr} (hL : IntsAt w A t.q.leftL.length (intL0 t.q.leftL)) {k : Nat} (hk : k < t.q.leftL.length) : ∃ (b o i : Nat), A = some ⟨b, o, none⟩ ∧ b < w.heap.size ∧ w.cell? ⟨b, o + k, none⟩ = some (.int .i64 (i : Int)) ∧ intL0 t.q.leftL k = (i : Int) ∧ i < t.q.nw := by
  obtain ⟨i, h1, h2, _⟩ := left_at hk
  obtain ⟨b, o, h3, h4, h5⟩ := hL.get hk
  rw [h1] at h5
  exact ⟨b, o, i, h3, h4, h5, h1, h2⟩
set_option maxHeartbeats 4000000 in
set_option maxRecDepth 100000 in
theorem leftOf9_any (Aw Af Ao Ap As : Option Addr) (cw cf co cp cs : Nat) (t : Pt) (w : World) (ok : t.Ok) (hT : PAt w Aw Af Ao Ap As t) :
    Calls Tryz.prog 42 #[.agg #[.int .i64 t.q.wells, .slice Aw t.q.nw cw, .slice Af t.q.nf cf, .slice Ao t.no co, .slice Ap t.np cp, .slice As t.ns cs, .int .i64 t.far, .int .i64 t.harm, .int .i64 t.many]] w fun e w' => (∃ A c, e = .returned (.slice A t.q.leftL.length c) ∧ IntsAt w' A t.q.leftL.length (intL0 t.q.leftL)) ∧ Below w.heap.size w w' := by
  have HD0 := Lib.hid (Below.refl w.heap.size w)
  have HOK := Lib.hid ok
  have HT0 := Lib.hid hT
  clear ok hT
  go_enter Tryz.func42, Tryz.ntmps42
  go_wp2_with fail
  refine (refLeftOf Aw Af cw cf t.q _ HOK.out.q (HT0.out.mono (bAlloc (Below.refl _ _) (.cells #[.int .i64 t.q.wells, .slice Aw t.q.nw cw, .slice Af t.q.nf cf, .slice Ao t.no co, .slice Ap t.np cp, .slice As t.ns cs, .int .i64 t.far, .int .i64 t.harm, .int .i64 t.many] 29))).q).mono ?_
  rintro e w1 ⟨⟨v, rfl, hv⟩, hb⟩
  obtain ⟨A4, c4, rfl, hi4, _⟩ := left_base hv
  have hB1 : Below w.heap.size w w1 := bTrans (bAlloc (Below.refl _ _) (.cells #[.int .i64 t.q.wells, .slice Aw t.q.nw cw, .slice Af t.q.nf cf, .slice Ao t.no co, .slice Ap t.np cp, .slice As t.ns cs, .int .i64 t.far, .int .i64 t.harm, .int .i64 t.many] 29)) hb
  have HD1 := Lib.hid (bTrans HD0.out hB1)
  have HT1 := Lib.hid (HT0.out.mono hB1)
  have HI41 := Lib.hid (hi4)
  have T1 := Lib.hid (show TBox w1 w.heap.size 29 #[.int .i64 t.q.wells, .slice Aw t.q.nw cw, .slice Af t.q.nf cf, .slice Ao t.no co, .slice Ap t.np cp, .slice As t.ns cs, .int .i64 t.far, .int .i64 t.harm, .int .i64 t.many] from by have := ((TBox.new w #[.int .i64 t.q.wells, .slice Aw t.q.nw cw, .slice Af t.q.nf cf, .slice Ao t.no co, .slice Ap t.np cp, .slice As t.ns cs, .int .i64 t.far, .int .i64 t.harm, .int .i64 t.many] 29).mono (Below.refl _ _)).mono hb; simpa using this)
  clear hb hB1 HD0 HT0
  obtain ⟨T_0, T_1, T_2, T_3, T_4, T_5, T_6, T_7, T_8, T_l⟩ := T1.out.c9
  clear hv hi4
  go_wp2_with fail
  go_ret
  exact ⟨⟨A4, c4, rfl, HI41.out⟩, HD1.out⟩
set_option maxHeartbeats 4000000 in
set_option maxRecDepth 100000 in
theorem known9_any (Aw Af Ao Ap As : Option Addr) (cw cf co cp cs : Nat) (t : Pt) (is : Bool) (w : World) (hs : t.Small) (hT : PAt w Aw Af Ao Ap As t) :
    Calls Tryz.prog 97 #[.agg #[.int .i64 t.q.wells, .slice Aw t.q.nw cw, .slice Af t.q.nf cf, .slice Ao t.no co, .slice Ap t.np cp, .slice As t.ns cs, .int .i64 t.far, .int .i64 t.harm, .int .i64 t.many], .bool is] w fun e w' => Kn9 w' t (t.knowErr is) e ∧ Below w.heap.size w w' := by
  have HD0 := Lib.hid (Below.refl w.heap.size w)
  have HSM := Lib.hid hs
  have HT0 := Lib.hid hT
  clear hs hT
  go_enter Tryz.func97, Tryz.ntmps97
  go_wp2_with fail
  refine (ask9_any Aw Af Ao Ap As cw cf co cp cs t is _ HSM.out (HT0.out.mono (bAlloc (Below.refl _ _) (.cells #[.int .i64 t.q.wells, .slice Aw t.q.nw cw, .slice Af t.q.nf cf, .slice Ao t.no co, .slice Ap t.np cp, .slice As t.ns cs, .int .i64 t.far, .int .i64 t.harm, .int .i64 t.many] 29)))).mono ?_
  rintro e w1 ⟨rfl, hb⟩
  have hB1 : Below w.heap.size w w1 := bTrans (bAlloc (Below.refl _ _) (.cells #[.int .i64 t.q.wells, .slice Aw t.q.nw cw, .slice Af t.q.nf cf, .slice Ao t.no co, .slice Ap t.np cp, .slice As t.ns cs, .int .i64 t.far, .int .i64 t.harm, .int .i64 t.many] 29)) hb
  have HD1 := Lib.hid (bTrans HD0.out hB1)
  have HT1 := Lib.hid (HT0.out.mono hB1)
  have T1 := Lib.hid (show TBox w1 w.heap.size 29 #[.int .i64 t.q.wells, .slice Aw t.q.nw cw, .slice Af t.q.nf cf, .slice Ao t.no co, .slice Ap t.np cp, .slice As t.ns cs, .int .i64 t.far, .int .i64 t.harm, .int .i64 t.many] from by have := ((TBox.new w #[.int .i64 t.q.wells, .slice Aw t.q.nw cw, .slice Af t.q.nf cf, .slice Ao t.no co, .slice Ap t.np cp, .slice As t.ns cs, .int .i64 t.far, .int .i64 t.harm, .int .i64 t.many] 29).mono (Below.refl _ _)).mono hb; simpa using this)
  clear hb hB1 HD0 HT0
  obtain ⟨T_0, T_1, T_2, T_3, T_4, T_5, T_6, T_7, T_8, T_l⟩ := T1.out.c9
  obtain ⟨ae, hae⟩ : ∃ v, t.askErr is = v := ⟨_, rfl⟩
  rw [hae]
  have HAE := Lib.hid hae
  clear hae
  by_cases h0 : ae = 0
  case neg =>
    have g0 : (ae != 0) = true := by simp [h0]
    have HE := Lib.hid (show t.knowErr is = ae by unfold Pt.knowErr; rw [HAE.out, if_neg h0])
    have HZ := Lib.hid h0
    clear h0
    go_wp2_with fail
    go_ret2
    exact ⟨⟨fun _ => by rw [HE.out]; rfl, fun h => by rw [HE.out] at h; exact absurd h HZ.out⟩, HD1.out⟩
  subst h0
  obtain ⟨ok, rfl⟩ := Pt.askErr_zero HAE.out
  have HOK := Lib.hid ok
  clear ok
  go_wp2_with fail
  refine (leftOf9_any Aw Af Ao Ap As cw cf co cp cs t _ HOK.out HT1.out).mono ?_
  rintro e w2 ⟨⟨A4, c4, rfl, hi4⟩, hb⟩
  have hB2 : Below w1.heap.size w1 w2 := bTrans (Below.refl _ _) hb
  have HD2 := Lib.hid (bTrans HD1.out hB2)
  have HT2 := Lib.hid (HT1.out.mono hB2)
  have HI42 := Lib.hid (hi4)
  have T2 := Lib.hid (T1.out.mono hB2)
  clear hb hB2 HD1 HT1 T1 T_0 T_1 T_2 T_3 T_4 T_5 T_6 T_7 T_8 T_l
  obtain ⟨T_0, T_1, T_2, T_3, T_4, T_5, T_6, T_7, T_8, T_l⟩ := T2.out.c9
  clear hi4
  obtain ⟨n, hn⟩ : ∃ n, t.q.leftL.length = n := ⟨_, rfl⟩
  have HN := Lib.hid hn
  rw [hn]
  by_cases hz : n = 0
  case pos =>
    have HE := Lib.hid (Pt.knowErr_none HOK.out (List.eq_nil_of_length_eq_zero (hn.trans hz)))
    have g0 : ((n : Int) == 0) = true := by simp [hz]
    have g1 : (n == 0) = true := by simp [hz]
    clear hn hz
    go_wp2_with fail
    go_ret2
    exact ⟨⟨fun _ => by rw [HE.out]; rfl, fun h => by rw [HE.out] at h; exact absurd h (by decide)⟩, HD2.out⟩
  have HE := Lib.hid (Pt.knowErr_ok HOK.out (fun e => hz (by rw [← hn, e]; rfl)))
  have g0 : ((n : Int) == 0) = false := by simp [hz]
  have g1 : (n == 0) = false := by simp [hz]
  clear hn hz
  go_wp2_with fail
  go_ret2
  exact ⟨⟨fun h => absurd HE.out h, fun _ => ⟨A4, c4, by rw [HN.out]; rfl, HI42.out⟩⟩, HD2.out⟩
set_option maxHeartbeats 4000000 in
set_option maxRecDepth 100000 in
theorem forbs9_any (Aw Af Ao Ap As : Option Addr) (cw cf co cp cs : Nat) (t : Pt) (Al : Option Addr) (cl i v : Nat) (w : World) (ok : t.Ok) (hT : PAt w Aw Af Ao Ap As t) (hL : IntsAt w Al t.q.leftL.length (intL0 t.q.leftL)) (hi : i < t.ns) (hv : (v : Int) < t.q.wells) :
    Calls Tryz.prog 100 #[.agg #[.int .i64 t.q.wells, .slice Aw t.q.nw cw, .slice Af t.q.nf cf, .slice Ao t.no co, .slice Ap t.np cp, .slice As t.ns cs, .int .i64 t.far, .int .i64 t.harm, .int .i64 t.many], .slice Al t.q.leftL.length cl, .int .i64 (i : Int), .int .i64 (v : Int)] w fun e w' => e = .returned (.int .i64 ((t.inN i v : Int))) ∧ Below w.heap.size w w' := by
  have hl6 := left_len ok.q
  obtain ⟨n, hn⟩ : ∃ n, t.q.leftL.length = n := ⟨_, rfl⟩
  have HN := Lib.hid hn
  have HIN := Lib.hid (show t.inN i v = t.inTo i v n by unfold Pt.inN; rw [hn])
  have hL := (hn ▸ hL : IntsAt w Al n (intL0 t.q.leftL))
  rw [hn] at hl6
  rw [hn, HIN.out]
  clear hn
  have HD0 := Lib.hid (Below.refl w.heap.size w)
  have HOK := Lib.hid ok
  have HT0 := Lib.hid hT
  have HL0 := Lib.hid hL
  have HI := Lib.hid hi
  have HV := Lib.hid hv
  clear ok hT hL hi hv
  go_enter Tryz.func100, Tryz.ntmps100
  go_wp2_with fail
  go_loopw [9, 10] (fun s9 s10 wr => ∃ k : Nat, k ≤ n ∧ s9 = .int .i64 (t.inTo i v k : Int) ∧ s10 = .int .i64 (k : Int) ∧ Below (w.alloc (.cells #[.int .i64 t.q.wells, .slice Aw t.q.nw cw, .slice Af t.q.nf cf, .slice Ao t.no co, .slice Ap t.np cp, .slice As t.ns cs, .int .i64 t.far, .int .i64 t.harm, .int .i64 t.many] 29)).heap.size (w.alloc (.cells #[.int .i64 t.q.wells, .slice Aw t.q.nw cw, .slice Af t.q.nf cf, .slice Ao t.no co, .slice Ap t.np cp, .slice As t.ns cs, .int .i64 t.far, .int .i64 t.harm, .int .i64 t.many] 29)) wr) (fun _ s10 _ => n - (intOf s10).toNat)
  case atStart => exact ⟨0, Nat.zero_le _, rfl, rfl, Below.refl _ _⟩
  case round =>
    obtain ⟨k, hk_k, rfl, rfl, hb⟩ := hrel
    have HBk := Lib.hid hb
    have hB1 : Below w.heap.size w wr := bTrans (bAlloc (Below.refl _ _) (.cells #[.int .i64 t.q.wells, .slice Aw t.q.nw cw, .slice Af t.q.nf cf, .slice Ao t.no co, .slice Ap t.np cp, .slice As t.ns cs, .int .i64 t.far, .int .i64 t.harm, .int .i64 t.many] 29)) hb
    have HD1 := Lib.hid (bTrans HD0.out hB1)
    have HT1 := Lib.hid (HT0.out.mono hB1)
    have HL1 := Lib.hid (HL0.out.mono hB1)
    have HU_k1 := Lib.hid ((show Upto (w.alloc (.cells #[.int .i64 t.q.wells, .slice Aw t.q.nw cw, .slice Af t.q.nf cf, .slice Ao t.no co, .slice Ap t.np cp, .slice As t.ns cs, .int .i64 t.far, .int .i64 t.harm, .int .i64 t.many] 29)) wr from HBk.out))
    have T1 := Lib.hid (show TBox wr w.heap.size 29 #[.int .i64 t.q.wells, .slice Aw t.q.nw cw, .slice Af t.q.nf cf, .slice Ao t.no co, .slice Ap t.np cp, .slice As t.ns cs, .int .i64 t.far, .int .i64 t.harm, .int .i64 t.many] from by have := ((TBox.new w #[.int .i64 t.q.wells, .slice Aw t.q.nw cw, .slice Af t.q.nf cf, .slice Ao t.no co, .slice Ap t.np cp, .slice As t.ns cs, .int .i64 t.far, .int .i64 t.harm, .int .i64 t.many] 29).mono (Below.refl _ _)).mono hb; simpa using this)
    clear hb hB1
    obtain ⟨T_0, T_1, T_2, T_3, T_4, T_5, T_6, T_7, T_8, T_l⟩ := T1.out.c9
    by_cases hlt_k : k < n
    case pos =>
      have h1_k : (k : Int) < (n : Int) := by omega
      have h0_k : (0 : Int) ≤ (k : Int) := by omega
      obtain ⟨m, hm⟩ : ∃ m, t.inTo i v k = m := ⟨_, rfl⟩
      have HM := Lib.hid hm
      have hm6 : m ≤ 6 := by rw [← hm]; have := cntB_le (fun j => t.forb i v (intL0 t.q.leftL j)) k; unfold Pt.inTo; omega
      rw [hm]
      clear hm
      obtain ⟨bl, ol, j, hA, hbl, cl0, hj, hjw⟩ := left_get (t := t) (HN.out.symm ▸ HL1.out) (by rw [HN.out]; exact hlt_k : k < t.q.leftL.length)
      have HJ := Lib.hid hj
      have HJW := Lib.hid hjw
      have hwm : IntKind.i64.wrap ((m : Int) + 1) = ((m + 1 : Nat) : Int) := IntWalk.i64_in _ (by omega)
      obtain ⟨bf, hbf⟩ : ∃ b, t.forb i v (j : Int) = b := ⟨_, rfl⟩
      have HF := Lib.hid hbf
      subst hA
      clear hj hjw hbf
      have HFB := Lib.hid (fun (w' : World) (hb : Below wr.heap.size wr w') => (HF.out ▸ isForb9_any Aw Af Ao Ap As cw cf co cp cs t j i v w' HOK.out (HT1.out.mono hb) HI.out HV.out HJW.out : Calls Tryz.prog 44 #[.agg #[.int .i64 t.q.wells, .slice Aw t.q.nw cw, .slice Af t.q.nf cf, .slice Ao t.no co, .slice Ap t.np cp, .slice As t.ns cs, .int .i64 t.far, .int .i64 t.harm, .int .i64 t.many], .int .i64 (j : Int), .int .i64 (i : Int), .int .i64 (v : Int)] w' fun e w'' => e = .returned (.bool bf) ∧ Below w'.heap.size w' w''))
      go_wp2_with fail
      refine wp_region_quiet_below (by kernel_rfl) (by kernel_rfl) ?_
      repeat (go_big_quiet_step (((go_at_call 44; with_reducible exact Calls.regrown_of (HFB.out _ (below_regrown _ _ _))))))
      refine wpQuiet_nil ?_
      intro w2 hw9
      have hb := below_of_regrown hw9
      clear hw9
      clear cl0 hbl HFB
      have hB2 : Below wr.heap.size wr w2 := bTrans (Below.refl _ _) hb
      have HD2 := Lib.hid (bTrans HD1.out hB2)
      have HT2 := Lib.hid (HT1.out.mono hB2)
      have HL2 := Lib.hid (HL1.out.mono hB2)
      have HU_k2 := Lib.hid (HU_k1.out.mono hB2)
      have T2 := Lib.hid (T1.out.mono hB2)
      clear hb hB2 HD1 HT1 HL1 HU_k1 T1 T_0 T_1 T_2 T_3 T_4 T_5 T_6 T_7 T_8 T_l
      obtain ⟨T_0, T_1, T_2, T_3, T_4, T_5, T_6, T_7, T_8, T_l⟩ := T2.out.c9
      cases bf
      · skip
        have HR := Lib.hid (show t.inTo i v (k + 1) = m by unfold Pt.inTo cntB; rw [HJ.out, HF.out]; exact HM.out)
        go_wp2_with fail
        go_roundw
        case rel =>
          first
          | exact ⟨k + 1, by omega, by rw [HR.out], by go_num, HU_k2.out⟩
          | ((repeat apply Exists.intro)
             refine ⟨⟨k + 1, by omega, by rw [HR.out], ?_, HU_k2.out⟩, rfl⟩
             go_num)
        case measure => simp [intOf]; omega
      · skip
        have HR := Lib.hid (show t.inTo i v (k + 1) = m + 1 by unfold Pt.inTo cntB; rw [HJ.out, HF.out]; exact congrArg (· + 1) HM.out)
        go_wp2_with fail
        go_roundw
        case rel =>
          first
          | exact ⟨k + 1, by omega, by rw [HR.out]; rfl, by go_num, HU_k2.out⟩
          | ((repeat apply Exists.intro)
             refine ⟨⟨k + 1, by omega, by rw [HR.out]; rfl, ?_, HU_k2.out⟩, rfl⟩
             go_num)
        case measure => simp [intOf]; omega
    have he_k : k = n := by omega
    have hk9 : ¬ (k : Int) < (n : Int) := by omega
    have hk8 : ¬ k < n := by omega
    have HR := Lib.hid (show t.inTo i v n = t.inTo i v k by rw [he_k])
    clear he_k
    go_wp2_with fail
    go_ret
    exact ⟨by rw [HR.out]; rfl, HD1.out⟩
set_option maxHeartbeats 4000000 in
set_option maxRecDepth 100000 in
theorem whoOf9_any (Aw Af Ao Ap As : Option Addr) (cw cf co cp cs : Nat) (t : Pt) (Al : Option Addr) (cl i : Nat) (w : World) (ok : t.Ok) (hT : PAt w Aw Af Ao Ap As t) (hL : IntsAt w Al t.q.leftL.length (intL0 t.q.leftL)) (hi : i < t.ns) :
    Calls Tryz.prog 103 #[.agg #[.int .i64 t.q.wells, .slice Aw t.q.nw cw, .slice Af t.q.nf cf, .slice Ao t.no co, .slice Ap t.np cp, .slice As t.ns cs, .int .i64 t.far, .int .i64 t.harm, .int .i64 t.many], .slice Al t.q.leftL.length cl, .int .i64 (i : Int)] w fun e w' => (∃ v, e = .returned v ∧ OwnL w' w.heap.size v (t.who i)) ∧ Below w.heap.size w w' := by
  have hl6 := left_len ok.q
  have hno4 : t.no ≤ 4 := by have := ok.no; have := ok.q.w1; omega
  obtain ⟨n, hn⟩ : ∃ n, t.q.leftL.length = n := ⟨_, rfl⟩
  have HN := Lib.hid hn
  have HWH := Lib.hid (show t.who i = selTo (t.whoB i) t.no by unfold Pt.who; rw [Pt.m_no ok])
  have hL := (hn ▸ hL : IntsAt w Al n (intL0 t.q.leftL))
  rw [hn] at hl6
  rw [hn, HWH.out]
  clear hn
  have HD0 := Lib.hid (Below.refl w.heap.size w)
  have HOK := Lib.hid ok
  have HT0 := Lib.hid hT
  have HL0 := Lib.hid hL
  have HI := Lib.hid hi
  clear ok hT hL hi
  go_enter Tryz.func103, Tryz.ntmps103
  go_wp2_with fail
  go_loopw [7, 8] (fun s7 s8 wr => ∃ k : Nat, k ≤ t.no ∧ s8 = .int .i64 (k : Int) ∧ OwnL wr (w.heap.size + 1) s7 (selTo (t.whoB i) k) ∧ Below (w.alloc (.cells #[.int .i64 t.q.wells, .slice Aw t.q.nw cw, .slice Af t.q.nf cf, .slice Ao t.no co, .slice Ap t.np cp, .slice As t.ns cs, .int .i64 t.far, .int .i64 t.harm, .int .i64 t.many] 29)).heap.size (w.alloc (.cells #[.int .i64 t.q.wells, .slice Aw t.q.nw cw, .slice Af t.q.nf cf, .slice Ao t.no co, .slice Ap t.np cp, .slice As t.ns cs, .int .i64 t.far, .int .i64 t.harm, .int .i64 t.many] 29)) wr) (fun _ s8 _ => t.no - (intOf s8).toNat)
  case atStart => exact ⟨0, Nat.zero_le _, rfl, OwnL.nil _ _, Below.refl _ _⟩
  case round =>
    obtain ⟨k, hk_k, rfl, hown, hb⟩ := hrel
    have HBk := Lib.hid hb
    have HOWN := Lib.hid hown
    clear hown
    have hB1 : Below w.heap.size w wr := bTrans (bAlloc (Below.refl _ _) (.cells #[.int .i64 t.q.wells, .slice Aw t.q.nw cw, .slice Af t.q.nf cf, .slice Ao t.no co, .slice Ap t.np cp, .slice As t.ns cs, .int .i64 t.far, .int .i64 t.harm, .int .i64 t.many] 29)) hb
    have HD1 := Lib.hid (bTrans HD0.out hB1)
    have HT1 := Lib.hid (HT0.out.mono hB1)
    have HL1 := Lib.hid (HL0.out.mono hB1)
    have HU_k1 := Lib.hid ((show Upto (w.alloc (.cells #[.int .i64 t.q.wells, .slice Aw t.q.nw cw, .slice Af t.q.nf cf, .slice Ao t.no co, .slice Ap t.np cp, .slice As t.ns cs, .int .i64 t.far, .int .i64 t.harm, .int .i64 t.many] 29)) wr from HBk.out))
    have T1 := Lib.hid (show TBox wr w.heap.size 29 #[.int .i64 t.q.wells, .slice Aw t.q.nw cw, .slice Af t.q.nf cf, .slice Ao t.no co, .slice Ap t.np cp, .slice As t.ns cs, .int .i64 t.far, .int .i64 t.harm, .int .i64 t.many] from by have := ((TBox.new w #[.int .i64 t.q.wells, .slice Aw t.q.nw cw, .slice Af t.q.nf cf, .slice Ao t.no co, .slice Ap t.np cp, .slice As t.ns cs, .int .i64 t.far, .int .i64 t.harm, .int .i64 t.many] 29).mono (Below.refl _ _)).mono hb; simpa using this)
    clear hb hB1
    obtain ⟨T_0, T_1, T_2, T_3, T_4, T_5, T_6, T_7, T_8, T_l⟩ := T1.out.c9
    have HO1 := HOWN
    clear HOWN
    by_cases hlt_k : k < t.no
    case pos =>
      have h1_k : (k : Int) < (t.no : Int) := by omega
      have h0_k : (0 : Int) ≤ (k : Int) := by omega
      have HV := Lib.hid (show (k : Int) < t.q.wells by have := HOK.out.no; omega)
      have HLEN := Lib.hid (show (selTo (t.whoB i) k).length ≤ 1000 from by have := selTo_len (t.whoB i) k; omega)
      obtain ⟨m, hm⟩ : ∃ m, t.inN i k = m := ⟨_, rfl⟩
      have HM := Lib.hid hm
      clear hm
      go_wp2_with fail
      refine (HN.out ▸ forbs9_any Aw Af Ao Ap As cw cf co cp cs t Al cl i k _ HOK.out HT1.out (HN.out.symm ▸ HL1.out) HI.out HV.out).mono ?_
      rintro e w2 ⟨rfl, hb⟩
      rw [HM.out]
      have hB2 : Below wr.heap.size wr w2 := bTrans (Below.refl _ _) hb
      have HD2 := Lib.hid (bTrans HD1.out hB2)
      have HT2 := Lib.hid (HT1.out.mono hB2)
      have HL2 := Lib.hid (HL1.out.mono hB2)
      have HU_k2 := Lib.hid (HU_k1.out.mono hB2)
      have HO2 := Lib.hid (HO1.out.mono hB2)
      have T2 := Lib.hid (T1.out.mono hB2)
      clear hb hB2 HD1 HT1 HL1 HU_k1 HO1 T1 T_0 T_1 T_2 T_3 T_4 T_5 T_6 T_7 T_8 T_l
      obtain ⟨T_0, T_1, T_2, T_3, T_4, T_5, T_6, T_7, T_8, T_l⟩ := T2.out.c9
      by_cases hz : 0 < m
      case neg =>
        have hz1 : ¬ (0 : Int) < (m : Int) := by omega
        have hz2 : ¬ (m : Int) > 0 := by omega
        have HS := Lib.hid (show selTo (t.whoB i) (k + 1) = selTo (t.whoB i) k from selTo_f (by unfold Pt.whoB; rw [HM.out]; simpa using hz))
        clear hz
        go_wp2_with fail
        go_roundw
        case rel =>
          first
          | exact ⟨k + 1, by omega, by go_num, by rw [HS.out]; exact HO2.out, HU_k2.out⟩
          | ((repeat apply Exists.intro)
             refine ⟨⟨k + 1, by omega, ?_, by rw [HS.out]; exact HO2.out, HU_k2.out⟩, rfl⟩
             go_num)
        case measure => simp [intOf]; omega
      have hz1 : (0 : Int) < (m : Int) := by omega
      have hz2 : (m : Int) > 0 := by omega
      have HS := Lib.hid (show selTo (t.whoB i) (k + 1) = selTo (t.whoB i) k ++ [(k : Int)] from selTo_t (by unfold Pt.whoB; rw [HM.out]; simpa using hz))
      clear hz
      go_wp2_with (at_builtin; refine wpList_snoc _ rfl (Operand.tmp 22) (Operand.tmp 24) rfl (w.heap.size + 1) _ (selTo (t.whoB i) k) rfl ?q1 w2.heap.size k rfl ?q2 HLEN.out ?q3 ?_)
      case q1 => exact HO2.out.mono (bAlloc (Below.refl _ _) _)
      case q2 => simp [go_sem]
      case q3 => have := HD2.out.size; have := T_l; simp; omega
      intro v' w3 hown5 hb5
      have HO9 := Lib.hid hown5
      have HL9 := Lib.hid (hb5 (w.heap.size + 1) (w.alloc (.cells #[.int .i64 t.q.wells, .slice Aw t.q.nw cw, .slice Af t.q.nf cf, .slice Ao t.no co, .slice Ap t.np cp, .slice As t.ns cs, .int .i64 t.far, .int .i64 t.harm, .int .i64 t.many] 29)) (Nat.le_refl _) (by have := bAlloc (show Below (w.alloc (.cells #[.int .i64 t.q.wells, .slice Aw t.q.nw cw, .slice Af t.q.nf cf, .slice Ao t.no co, .slice Ap t.np cp, .slice As t.ns cs, .int .i64 t.far, .int .i64 t.harm, .int .i64 t.many] 29)).heap.size (w.alloc (.cells #[.int .i64 t.q.wells, .slice Aw t.q.nw cw, .slice Af t.q.nf cf, .slice Ao t.no co, .slice Ap t.np cp, .slice As t.ns cs, .int .i64 t.far, .int .i64 t.harm, .int .i64 t.many] 29)) w2 from HU_k2.out) (.cells #[.int .i64 (k : Int)] 3); simpa using this))
      clear hown5 hb5
      go_wp2_with fail
      go_roundw
      case rel =>
        first
        | exact ⟨k + 1, by omega, by go_num, by rw [HS.out]; exact HO9.out, (show Below (w.alloc (.cells #[.int .i64 t.q.wells, .slice Aw t.q.nw cw, .slice Af t.q.nf cf, .slice Ao t.no co, .slice Ap t.np cp, .slice As t.ns cs, .int .i64 t.far, .int .i64 t.harm, .int .i64 t.many] 29)).heap.size (w.alloc (.cells #[.int .i64 t.q.wells, .slice Aw t.q.nw cw, .slice Af t.q.nf cf, .slice Ao t.no co, .slice Ap t.np cp, .slice As t.ns cs, .int .i64 t.far, .int .i64 t.harm, .int .i64 t.many] 29)) _ by simpa using HL9.out)⟩
        | ((repeat apply Exists.intro)
           refine ⟨⟨k + 1, by omega, ?_, by rw [HS.out]; exact HO9.out, (show Below (w.alloc (.cells #[.int .i64 t.q.wells, .slice Aw t.q.nw cw, .slice Af t.q.nf cf, .slice Ao t.no co, .slice Ap t.np cp, .slice As t.ns cs, .int .i64 t.far, .int .i64 t.harm, .int .i64 t.many] 29)).heap.size (w.alloc (.cells #[.int .i64 t.q.wells, .slice Aw t.q.nw cw, .slice Af t.q.nf cf, .slice Ao t.no co, .slice Ap t.np cp, .slice As t.ns cs, .int .i64 t.far, .int .i64 t.harm, .int .i64 t.many] 29)) _ by simpa using HL9.out)⟩, rfl⟩
           go_num)
      case measure => simp [intOf]; omega
    have he_k : k = t.no := by omega
    have hk9 : ¬ (k : Int) < (t.no : Int) := by omega
    have hk8 : ¬ k < t.no := by omega
    have HR := Lib.hid (show selTo (t.whoB i) t.no = selTo (t.whoB i) k by rw [he_k])
    clear he_k
    go_wp2_with fail
    go_ret
    exact ⟨⟨_, rfl, by rw [HR.out]; exact HO1.out.lower (by omega)⟩, HD1.out⟩
end Go.Proofs.YtjpfdhhiofjpbaaGreatDoor

namespace Go.Proofs.YtjpfdhhiofjpbaaGreatDoor
open Go.RowKit Go.Sort
theorem priceV_can {t : Pt} {s : Nat} (h : t.canB s = true) : t.priceV s = (t.cheap s).1 := if_pos (by unfold Pt.canB at h; simpa using h)
theorem priceV_not {t : Pt} {s : Nat} (h : t.canB s = false) : t.priceV s = -1 := if_neg (by unfold Pt.canB at h; simpa using h)
/-- the whole price of a spot, below 0 if it cannot be dug -/
noncomputable def Pt.wholeV (t : Pt) (s : Nat) : Int := if t.canB s then t.whole s else -1
end Go.Proofs.YtjpfdhhiofjpbaaGreatDoor

