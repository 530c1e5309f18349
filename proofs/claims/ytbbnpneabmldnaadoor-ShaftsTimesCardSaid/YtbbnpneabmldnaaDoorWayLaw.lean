/- The plain law of the best ways: the way kept for a depth is that of a chain of stops which is best among all chains. No program in sight. -/
import Derived.Test.YtbbnpneabmldnaaDoorWalkZ
namespace Go.Proofs.YtbbnpneabmldnaaDoor
open Go.RowKit Go.Sort
/-- from the depth a the next ring can be at d -/
def Sh.okStep (S : Sh) (a d : Nat) : Prop := a < d ∧ d ≤ S.falls a ∧ S.restsB d = true
/-- stops from the depth a on to the bottom -/
def Sh.Chain (S : Sh) : Nat → List Nat → Prop
  | a, [] => a = S.nf
  | a, d :: l => S.okStep a d ∧ S.Chain d l
def costL (c : Nat → Int) : List Nat → Int
  | [] => 0
  | d :: l => c d + costL c l
theorem costL_one (l : List Nat) : costL (fun _ => 1) l = l.length := by
  induction l with
  | nil => rfl
  | cons d l ih => simp only [costL, ih, List.length_cons]; omega
theorem Sh.Chain.len {S : Sh} : ∀ {l : List Nat} {a : Nat}, S.Chain a l → a + l.length ≤ S.nf
  | [], a, h => by simp only [Sh.Chain] at h; simp; omega
  | d :: l, a, h => by have := Sh.Chain.len h.2; have := h.1.1; simp; omega
/-- what a comparison goes by -/
structure Meas (S : Sh) (lt : Way → Way → Bool) (μ : Way → Int) (c : Nat → Int) : Prop where
  iff : ∀ x y, lt x y = true ↔ μ x < μ y
  to : ∀ x d, μ (S.wayTo x d) = μ x + c d
  zero : μ ⟨0, 0, 0⟩ = 0
theorem measR (S : Sh) : Meas S ltR Way.rings (fun _ => 1) := ⟨fun x y => by simp [ltR], fun x d => rfl, rfl⟩
theorem measP (S : Sh) : Meas S ltP Way.pence S.ringc := ⟨fun x y => by simp [ltP], fun x d => rfl, rfl⟩
theorem wayTo_ne {S : Sh} {x : Way} {d : Nat} (h : 0 < d) : S.wayTo x d ≠ noWay := fun e => by
  have : (S.wayTo x d).next = noWay.next := by rw [e]
  simp only [Sh.wayTo, noWay] at this
  omega
/-- a depth that can be gone to -/
def Sh.cand (S : Sh) (prev : Nat → Way) (n : Nat) : Prop := prev n ≠ noWay ∧ S.restsB n = true
theorem look_no {S : Sh} {lt : Way → Way → Bool} {prev : Nat → Way} {cur : Way} {n : Nat} (h : ¬ S.cand prev n) : S.look lt prev cur n = cur := by
  unfold Sh.look
  rw [if_pos]
  unfold Sh.cand at h
  by_cases h1 : prev n = noWay
  · exact .inl h1
  · refine .inr ?_
    cases e : S.restsB n
    · rfl
    · exact absurd ⟨h1, e⟩ h
theorem look_yes {S : Sh} {lt : Way → Way → Bool} {μ : Way → Int} {c : Nat → Int} (M : Meas S lt μ c) {prev : Nat → Way} {cur : Way} {n : Nat} (h : S.cand prev n) :
    (S.look lt prev cur n = S.wayTo (prev n) n ∧ (cur = noWay ∨ μ (prev n) + c n < μ cur)) ∨ (S.look lt prev cur n = cur ∧ cur ≠ noWay ∧ ¬ μ (prev n) + c n < μ cur) := by
  unfold Sh.look
  rw [if_neg (by rintro (h1 | h1); exact h.1 h1; rw [h.2] at h1; cases h1)]
  by_cases h2 : cur = noWay
  · exact .inl ⟨if_pos (.inl h2), .inl h2⟩
  · by_cases h3 : μ (prev n) + c n < μ cur
    · exact .inl ⟨if_pos (.inr ((M.iff _ _).2 (by rw [M.to]; exact h3))), .inr h3⟩
    · exact .inr ⟨if_neg (by rintro (h4 | h4); exact h2 h4; exact h3 (by rw [← M.to]; exact (M.iff _ _).1 h4)), h2, h3⟩
structure LookSpec (S : Sh) (μ : Way → Int) (c : Nat → Int) (prev : Nat → Way) (d m : Nat) (r : Way) : Prop where
  from_ : r = prev d ∨ ∃ j, j < m ∧ S.cand prev (d + 1 + j) ∧ r = S.wayTo (prev (d + 1 + j)) (d + 1 + j)
  keep : prev d ≠ noWay → r ≠ noWay ∧ μ r ≤ μ (prev d)
  best : ∀ j, j < m → S.cand prev (d + 1 + j) → r ≠ noWay ∧ μ r ≤ μ (prev (d + 1 + j)) + c (d + 1 + j)
  first : prev d = noWay → ∀ j, j < m → S.cand prev (d + 1 + j) → μ r = μ (prev (d + 1 + j)) + c (d + 1 + j) → r.next ≤ (d + 1 + j : Nat)
  stay : prev d ≠ noWay → (∀ j, j < m → S.cand prev (d + 1 + j) → ¬ μ (prev (d + 1 + j)) + c (d + 1 + j) < μ (prev d)) → r = prev d
theorem lookTo_spec {S : Sh} {lt : Way → Way → Bool} {μ : Way → Int} {c : Nat → Int} (M : Meas S lt μ c) (prev : Nat → Way) (d : Nat) : ∀ m, LookSpec S μ c prev d m (S.lookTo lt prev d m)
  | 0 => ⟨.inl rfl, fun h => ⟨h, Int.le_refl _⟩, fun j hj => by omega, fun _ j hj => by omega, fun _ _ => rfl⟩
  | m + 1 => by
    obtain ⟨h1, h2, h3, h4, h5⟩ := lookTo_spec M prev d m
    show LookSpec S μ c prev d (m + 1) (S.look lt prev (S.lookTo lt prev d m) (d + 1 + m))
    generalize S.lookTo lt prev d m = cur at h1 h2 h3 h4 h5
    by_cases hc : S.cand prev (d + 1 + m)
    · rcases look_yes M (cur := cur) hc with ⟨e, hlt⟩ | ⟨e, hne, hnl⟩
      · rw [e]
        have hμ : μ (S.wayTo (prev (d + 1 + m)) (d + 1 + m)) = μ (prev (d + 1 + m)) + c (d + 1 + m) := M.to _ _
        have hne : S.wayTo (prev (d + 1 + m)) (d + 1 + m) ≠ noWay := wayTo_ne (by omega)
        refine ⟨.inr ⟨m, by omega, hc, rfl⟩, fun h => ⟨hne, ?_⟩, fun j hj hcj => ⟨hne, ?_⟩, fun h0 j hj hcj he => ?_, fun h h' => ?_⟩
        · obtain ⟨g1, g2⟩ := h2 h
          rcases hlt with hlt | hlt
          · exact absurd hlt g1
          · omega
        · rcases Nat.lt_or_ge j m with hj2 | hj2
          · obtain ⟨g1, g2⟩ := h3 j hj2 hcj
            rcases hlt with hlt | hlt
            · exact absurd hlt g1
            · omega
          · obtain rfl : j = m := by omega
            omega
        · rcases Nat.lt_or_ge j m with hj2 | hj2
          · obtain ⟨g1, g2⟩ := h3 j hj2 hcj
            rcases hlt with hlt | hlt
            · exact absurd hlt g1
            · omega
          · simp only [Sh.wayTo]; omega
        · obtain ⟨g1, g2⟩ := h2 h
          rcases hlt with hlt | hlt
          · exact absurd hlt g1
          · have h6 := h5 h (fun j hj => h' j (by omega))
            rw [h6] at hlt
            exact absurd hlt (h' m (by omega) hc)
      · rw [e]
        refine ⟨h1.imp id (fun ⟨j, hj, h⟩ => ⟨j, by omega, h⟩), h2, fun j hj hcj => ?_, fun h0 j hj hcj he => ?_, fun h h' => h5 h (fun j hj => h' j (by omega))⟩
        · rcases Nat.lt_or_ge j m with hj2 | hj2
          · exact h3 j hj2 hcj
          · obtain rfl : j = m := by omega
            exact ⟨hne, by omega⟩
        · rcases Nat.lt_or_ge j m with hj2 | hj2
          · exact h4 h0 j hj2 hcj he
          · rcases h1 with h1 | ⟨i, hi, hci, hr⟩
            · exact absurd (h1.trans h0) hne
            · rw [hr]; simp only [Sh.wayTo]; omega
    · rw [look_no hc]
      refine ⟨h1.imp id (fun ⟨j, hj, h⟩ => ⟨j, by omega, h⟩), h2, fun j hj hcj => ?_, fun h0 j hj hcj he => ?_, fun h h' => h5 h (fun j hj => h' j (by omega))⟩
      · rcases Nat.lt_or_ge j m with hj2 | hj2
        · exact h3 j hj2 hcj
        · obtain rfl : j = m := by omega
          exact absurd hcj hc
      · rcases Nat.lt_or_ge j m with hj2 | hj2
        · exact h4 h0 j hj2 hcj he
        · obtain rfl : j = m := by omega
          exact absurd hcj hc
section
variable {S : Sh} {lt : Way → Way → Bool} {μ : Way → Int} {c : Nat → Int}
theorem waysOf_end (k : Nat) : S.waysOf lt k S.nf = ⟨0, 0, 0⟩ := by
  induction k with
  | zero => unfold Sh.waysOf; rw [if_pos rfl]
  | succ k ih => show S.moreWays lt _ _ = _; unfold Sh.moreWays; rw [if_neg (by omega)]; exact ih
theorem waysOf_step (M : Meas S lt μ c) (k : Nat) {d : Nat} (hd : d < S.nf) : LookSpec S μ c (S.waysOf lt k) d (S.falls d - d) (S.waysOf lt (k + 1) d) := by
  have := lookTo_spec M (S.waysOf lt k) d (S.falls d - d)
  show LookSpec S μ c (S.waysOf lt k) d (S.falls d - d) (S.moreWays lt (S.waysOf lt k) d)
  unfold Sh.moreWays
  rwa [if_pos hd]
/-- where a way that is kept comes from -/
theorem waysOf_from (M : Meas S lt μ c) : ∀ k d, d < S.nf → S.waysOf lt k d ≠ noWay → ∃ j n, j < k ∧ S.okStep d n ∧ S.waysOf lt j n ≠ noWay ∧ S.waysOf lt k d = S.wayTo (S.waysOf lt j n) n
  | 0, d, hd, h => by
    unfold Sh.waysOf at h
    rw [if_neg (by omega)] at h
    exact absurd rfl h
  | k + 1, d, hd, h => by
    have hf := S.falls_bd (Nat.le_of_lt hd)
    rcases (waysOf_step M k hd).from_ with h1 | ⟨j, hj, hc, h1⟩
    · rw [h1] at h
      obtain ⟨j, n, g1, g2, g3, g4⟩ := waysOf_from M k d hd h
      exact ⟨j, n, by omega, g2, g3, h1.trans g4⟩
    · exact ⟨k, d + 1 + j, by omega, ⟨by omega, by omega, hc.2⟩, hc.1, h1⟩
theorem waysOf_sound (M : Meas S lt μ c) : ∀ k d, d ≤ S.nf → S.waysOf lt k d ≠ noWay → ∃ l, S.Chain d l ∧ l.length ≤ k ∧ (S.waysOf lt k d).rings = l.length ∧ μ (S.waysOf lt k d) = costL c l := by
  intro k
  induction k using Nat.strongRecOn with
  | _ k ih =>
    intro d hd h
    rcases Nat.eq_or_lt_of_le hd with e | e
    · subst e
      exact ⟨[], rfl, Nat.zero_le _, by rw [waysOf_end]; rfl, by rw [waysOf_end, M.zero]; rfl⟩
    · obtain ⟨j, n, h1, h2, h3, h4⟩ := waysOf_from M k d e h
      have hf := S.falls_bd hd
      obtain ⟨l, g1, g2, g3, g4⟩ := ih j h1 n (by have := h2.2.1; omega) h3
      refine ⟨n :: l, ⟨h2, g1⟩, by simp; omega, by rw [h4]; simp only [Sh.wayTo, List.length_cons, g3]; omega, ?_⟩
      rw [h4, M.to, g4]; simp only [costL]; omega
theorem waysOf_best (M : Meas S lt μ c) : ∀ k d l, S.Chain d l → l.length ≤ k → S.waysOf lt k d ≠ noWay ∧ μ (S.waysOf lt k d) ≤ costL c l
  | k, d, [], h, _ => by
    simp only [Sh.Chain] at h
    subst h
    rw [waysOf_end, M.zero]
    exact ⟨by decide, Int.le_refl _⟩
  | 0, d, n :: l, _, hl => by simp at hl
  | k + 1, d, n :: l, h, hl => by
    obtain ⟨⟨h1, h2, h3⟩, h4⟩ := h
    have hn := h4.len
    simp only [List.length_cons] at hl
    obtain ⟨g1, g2⟩ := waysOf_best M k n l h4 (by omega)
    have hb := (waysOf_step M k (d := d) (by omega)).best (n - (d + 1)) (by omega)
    rw [show d + 1 + (n - (d + 1)) = n from by omega] at hb
    obtain ⟨b1, b2⟩ := hb ⟨g1, h3⟩
    refine ⟨b1, ?_⟩
    simp only [costL]; omega
theorem waysOf_mono (M : Meas S lt μ c) {k k' d : Nat} (hk : k ≤ k') (hd : d ≤ S.nf) (h : S.waysOf lt k d ≠ noWay) : S.waysOf lt k' d ≠ noWay ∧ μ (S.waysOf lt k' d) ≤ μ (S.waysOf lt k d) := by
  obtain ⟨l, h1, h2, _, h3⟩ := waysOf_sound M k d hd h
  rw [h3]
  exact waysOf_best M k' d l h1 (by omega)
/-- the last ways: each goes on to the way from its next stop -/
theorem waysOf_last (M : Meas S lt μ c) {d : Nat} (hd : d < S.nf) (h : S.waysOf lt S.nf d ≠ noWay) :
    ∃ n, (S.waysOf lt S.nf d).next = (n : Nat) ∧ S.okStep d n ∧ S.waysOf lt S.nf n ≠ noWay ∧ μ (S.waysOf lt S.nf d) = μ (S.waysOf lt S.nf n) + c n := by
  obtain ⟨j, n, h1, h2, h3, h4⟩ := waysOf_from M S.nf d hd h
  have hf := S.falls_bd (Nat.le_of_lt hd)
  have hn : n ≤ S.nf := by have := h2.2.1; omega
  obtain ⟨g1, g2⟩ := waysOf_mono M (k' := S.nf) (by omega) hn h3
  refine ⟨n, by rw [h4]; rfl, h2, g1, ?_⟩
  obtain ⟨l, e1, e2, _, e3⟩ := waysOf_sound M S.nf n hn g1
  have e4 : S.Chain d (n :: l) := ⟨h2, e1⟩
  have e5 := (waysOf_best M S.nf d (n :: l) e4 (by have := e4.len; omega)).2
  simp only [costL] at e5
  have e6 : μ (S.waysOf lt S.nf d) = μ (S.waysOf lt j n) + c n := by rw [h4, M.to]
  omega
end
/-- the stops of m numbers from the k-th on -/
def stopsL (g : Nat → Int) : Nat → Nat → List Nat
  | _, 0 => []
  | k, m + 1 => (g k).toNat :: stopsL g (k + 1) m
theorem stopsL_len (g : Nat → Int) : ∀ m k, (stopsL g k m).length = m
  | 0, _ => rfl
  | m + 1, k => by simp [stopsL, stopsL_len g m (k + 1)]
theorem stopsL_get (g : Nat → Int) : ∀ m k i, i < m → (stopsL g k m)[i]? = some (g (k + i)).toNat
  | 0, _, i, h => by omega
  | m + 1, k, 0, h => by simp [stopsL]
  | m + 1, k, i + 1, h => by
    simp only [stopsL, List.getElem?_cons_succ]
    rw [stopsL_get g m (k + 1) i (by omega), show k + 1 + i = k + (i + 1) from by omega]
theorem costL_stops (c : Nat → Int) (g : Nat → Int) : ∀ m k, sumTo (fun i => c (g i).toNat) (k + m) = sumTo (fun i => c (g i).toNat) k + costL c (stopsL g k m)
  | 0, k => by simp [stopsL, costL]
  | m + 1, k => by
    have := costL_stops c g m (k + 1)
    rw [show k + (m + 1) = k + 1 + m from by omega, this]
    simp only [sumTo, stopsL, costL]; omega
theorem stopAt_succ (g : Nat → Int) (k : Nat) : stopAt g (k + 1) = (g k).toNat := rfl
/-- a chain of the stops, and its numbers -/
theorem chain_stops {S : Sh} {g : Nat → Int} : ∀ m k, S.Chain (stopAt g k) (stopsL g k m) ↔ (∀ i, k ≤ i → i < k + m → S.okStep (stopAt g i) (stopAt g (i + 1))) ∧ stopAt g (k + m) = S.nf
  | 0, k => by
    simp only [stopsL, Sh.Chain, Nat.add_zero]
    exact ⟨fun h => ⟨fun i h1 h2 => by omega, h⟩, fun h => h.2⟩
  | m + 1, k => by
    simp only [stopsL, Sh.Chain]
    rw [← stopAt_succ, chain_stops m (k + 1), show k + 1 + m = k + (m + 1) from by omega]
    constructor
    · rintro ⟨h1, h2, h3⟩
      refine ⟨fun i hi hi2 => ?_, h3⟩
      rcases Nat.eq_or_lt_of_le hi with e | e
      · exact e ▸ h1
      · exact h2 i e hi2
    · rintro ⟨h1, h2⟩
      exact ⟨h1 k (Nat.le_refl _) (by omega), fun i hi hi2 => h1 i (by omega) hi2, h2⟩
theorem Sh.falls_end (S : Sh) : S.falls S.nf = S.nf := by
  have := S.falls_bd (Nat.le_refl S.nf); omega
/-- with some stops it does not fall just if from none of them on it falls before the next one -/
theorem firstFall_iff {S : Sh} {m : Nat} {g : Nat → Int} (h : Rising 1 S.nf m g) :
    S.firstFall (memOf m g) = S.nf ↔ (∀ i, i < m → stopAt g (i + 1) ≤ S.falls (stopAt g i)) ∧ S.falls (stopAt g m) = S.nf := by
  have hno : S.firstFall (memOf m g) = S.nf → ∀ j, j < S.nf → S.fallAt (memOf m g) j = false := fun e j hj => by
    have := firstFrom_spec (S.fallAt (memOf m g)) S.nf 0
    exact this.2.2.1 j (Nat.zero_le _) (by unfold Sh.firstFall at e; omega)
  constructor
  · intro e
    have hn := hno e
    refine ⟨fun i hi => ?_, ?_⟩
    · rcases Nat.lt_or_ge (S.falls (stopAt g i)) (stopAt g (i + 1)) with hlt | hge
      · have h1 := Sh.fall_found h (k := i) (by omega) (fun j hj => hn j (by have := stopAt_le rfl h (k := i) (by omega); omega)) (fun i' hi' hle => by
          have h2 := h.lo i hi
          have h3 : g i ≤ g i' := by
            rcases Nat.eq_or_lt_of_le hle with e' | e'
            · subst e'; exact Int.le_refl _
            · exact Int.le_of_lt (h.lt i i' e' hi')
          simp only [stopAt_succ] at hlt
          omega)
        have h4 := h.hi i hi
        simp only [stopAt_succ] at hlt
        omega
      · exact hge
    · have h1 := Sh.fall_found h (k := m) (Nat.le_refl _) (fun j hj => hn j (by have := stopAt_le rfl h (k := m) (Nat.le_refl _); omega)) (fun i' hi' hle => by omega)
      omega
  · rintro ⟨h1, h2⟩
    have key : ∀ k, k ≤ m → ∀ j, j < stopAt g k → S.fallAt (memOf m g) j = false := by
      intro k
      induction k with
      | zero => intro _ j hj; simp [stopAt] at hj
      | succ k ih =>
        intro hk j hj
        have h3 := h1 k (by omega)
        refine Sh.fall_seg h (k := k) (by omega) (ih (by omega)) (b := stopAt g (k + 1)) (fun i hi hle => ?_) j (by omega) hj
        have h4 := h.lo k (by omega)
        have h5 : g k ≤ g i := by
          rcases Nat.eq_or_lt_of_le hle with e' | e'
          · subst e'; exact Int.le_refl _
          · exact Int.le_of_lt (h.lt k i e' hi)
        simp only [stopAt_succ]
        omega
    have h3 := Sh.fall_found h (k := m) (Nat.le_refl _) (key m (Nat.le_refl _)) (fun i' hi' hle => by omega)
    omega
/-- a plan is a chain of stops -/
theorem plan_iff {S : Sh} {m : Nat} {g : Nat → Int} (hR : Rising 1 S.nf m g) : S.Plan m g ↔ S.Chain 0 (stopsL g 0 m) := by
  rw [show S.Chain 0 (stopsL g 0 m) = S.Chain (stopAt g 0) (stopsL g 0 m) from rfl, chain_stops m 0]
  simp only [Nat.zero_add]
  have hst : ∀ i, i < m → stopAt g i < stopAt g (i + 1) := fun i hi => by
    cases i with
    | zero => have := hR.lo 0 hi; simp only [stopAt]; omega
    | succ i => have := hR.lo i (by omega); have := hR.lt i (i + 1) (by omega) hi; simp only [stopAt]; omega
  constructor
  · rintro ⟨_, h1, h2, h3⟩
    obtain ⟨h4, h5⟩ := (firstFall_iff hR).1 h1
    exact ⟨fun i _ hi => ⟨hst i hi, h4 i hi, h2 i hi⟩, h3⟩
  · rintro ⟨h1, h2⟩
    refine ⟨hR, (firstFall_iff hR).2 ⟨fun i hi => (h1 i (Nat.zero_le _) hi).2.1, by rw [h2]; exact S.falls_end⟩, fun i hi => (h1 i (Nat.zero_le _) hi).2.2, h2⟩
end Go.Proofs.YtbbnpneabmldnaaDoor
