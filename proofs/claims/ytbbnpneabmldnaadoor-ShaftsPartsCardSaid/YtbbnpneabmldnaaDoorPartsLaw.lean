/- The plain law of the parts: chains of the first feet, of the feet below, of all. No program in sight. -/
import Derived.Test.YtbbnpneabmldnaaDoorPlanLaw
namespace Go.Proofs.YtbbnpneabmldnaaDoor
open Go.RowKit Go.Sort
/-- the shaft of the feet from a depth on -/
def Sh.low (S : Sh) (d : Nat) : Sh := ⟨S.nr, S.rock, S.nf - d, fun i => S.foot (d + i), S.deep, S.haul, S.rest⟩
theorem Sh.Ok.low {S : Sh} (h : S.Ok) {d : Nat} (hd : d ≤ S.nf) : (S.low d).Ok :=
  ⟨h.nr, Nat.le_trans (Nat.sub_le _ _) h.nf, h.rock, fun i hi => h.f0 (d + i) (by have : i < S.nf - d := hi; omega), fun i hi => h.f1 (d + i) (by have : i < S.nf - d := hi; omega), h.d0, h.d1, h.l0, h.l1, h.r0, h.r1⟩
theorem le_falls_iff {S : Sh} {a x : Nat} (hx : x ≤ S.nf) (_ : a ≤ x) : x ≤ S.falls a ↔ ∀ f, a ≤ f → f < x → S.fallsAt a f = false := by
  have h := firstFrom_spec (S.fallsAt a) (S.nf - a) a
  have e : S.falls a = firstFrom (S.fallsAt a) (S.nf - a) a := rfl
  constructor
  · intro h1 f h2 h3
    exact h.2.2.1 f h2 (by omega)
  · intro h1
    rcases Nat.lt_or_ge (S.falls a) x with h2 | h2
    · have h3 := h.2.2.2 (by omega)
      rw [← e, h1 _ (by omega) h2] at h3
      cases h3
    · exact h2
theorem minSt_shift {S T : Sh} {d : Nat} (hr : ∀ i, T.rk i = S.rk (d + i)) (a : Nat) : ∀ m, T.minSt a m = S.minSt (d + a) m
  | 0 => rfl
  | m + 1 => by simp only [Sh.minSt]; rw [minSt_shift hr a m, hr, Nat.add_assoc]
theorem fallsAt_shift {S T : Sh} {d : Nat} (hr : ∀ i, T.rk i = S.rk (d + i)) (a f : Nat) : T.fallsAt a f = S.fallsAt (d + a) (d + f) := by
  unfold Sh.fallsAt
  rw [minSt_shift hr, show d + f + 1 - (d + a) = f + 1 - a from by omega]
  congr 1
  have : ((d + f : Nat) : Int) - ((d + a : Nat) : Int) + 1 = (f : Int) - a + 1 := by omega
  rw [this]
theorem rk_first (S : Sh) (d i : Nat) : (S.first d).rk i = S.rk (0 + i) := by rw [Nat.zero_add]; rfl
theorem rk_low (S : Sh) (d i : Nat) : (S.low d).rk i = S.rk (d + i) := rfl
theorem okStep_first {S : Sh} {d a x : Nat} (hd : d ≤ S.nf) (hx : x ≤ d) : (S.first d).okStep a x ↔ S.okStep a x := by
  have hrest : (S.first d).restsB x = S.restsB x := rfl
  unfold Sh.okStep
  rw [hrest]
  constructor
  · rintro ⟨h1, h2, h3⟩
    refine ⟨h1, (le_falls_iff (by omega) (by omega)).2 fun f g1 g2 => ?_, h3⟩
    have := (le_falls_iff (S := S.first d) hx (by omega)).1 h2 f g1 g2
    rw [fallsAt_shift (rk_first S d), Nat.zero_add, Nat.zero_add] at this
    exact this
  · rintro ⟨h1, h2, h3⟩
    refine ⟨h1, (le_falls_iff (S := S.first d) hx (by omega)).2 fun f g1 g2 => ?_, h3⟩
    rw [fallsAt_shift (rk_first S d), Nat.zero_add, Nat.zero_add]
    exact (le_falls_iff (by omega) (by omega)).1 h2 f g1 g2
theorem okStep_low {S : Sh} {d a x : Nat} (hd : d ≤ S.nf) (hx : x ≤ S.nf - d) (h : (S.low d).okStep a x) : S.okStep (d + a) (d + x) := by
  obtain ⟨h1, h2, h3⟩ := h
  refine ⟨by omega, (le_falls_iff (by omega) (by omega)).2 fun f g1 g2 => ?_, ?_⟩
  · have := (le_falls_iff (S := S.low d) hx (by omega)).1 h2 (f - d) (by omega) (by omega)
    rw [fallsAt_shift (rk_low S d), show d + (f - d) = f from by omega] at this
    exact this
  · unfold Sh.restsB at h3 ⊢
    rw [rk_low, show d + (x - 1) = d + x - 1 from by omega] at h3
    exact h3
theorem chain_le {S : Sh} {l : List Nat} {a : Nat} (h : S.Chain a l) : ∀ x ∈ l, a < x ∧ x ≤ S.nf := by
  induction l generalizing a with
  | nil => intro x hx; cases hx
  | cons y l ih =>
    intro x hx
    have h1 := h.1.1
    have h2 := h.2.len
    rcases List.mem_cons.1 hx with rfl | hx
    · exact ⟨h1, by omega⟩
    · have := ih h.2 x hx; omega
theorem chain_append {S : Sh} {d : Nat} (hd : d ≤ S.nf) {l2 : List Nat} (h2 : S.Chain d l2) : ∀ {l1 : List Nat} {a : Nat}, (S.first d).Chain a l1 → S.Chain a (l1 ++ l2)
  | [], a, h => by
    have e : a = d := h
    subst e; exact h2
  | x :: l1, a, h => by
    have hx := (chain_le h x (by simp)).2
    exact ⟨(okStep_first hd hx).1 h.1, chain_append hd h2 h.2⟩
theorem chain_low {S : Sh} {d : Nat} (hd : d ≤ S.nf) : ∀ {l : List Nat} {a : Nat}, (S.low d).Chain a l → S.Chain (d + a) (l.map (d + ·))
  | [], a, h => by
    have e : a = S.nf - d := h
    show d + a = S.nf
    omega
  | x :: l, a, h => by
    have hx : x ≤ S.nf - d := (chain_le h x (by simp)).2
    exact ⟨okStep_low hd hx h.1, chain_low hd h.2⟩
theorem chain_upto {S : Sh} {d : Nat} (hd : d ≤ S.nf) : ∀ {l : List Nat} {a : Nat}, S.Chain a l → d ∈ l → ∃ l', (S.first d).Chain a l'
  | [], a, h, hm => by cases hm
  | x :: l, a, h, hm => by
    rcases List.mem_cons.1 hm with rfl | hm
    · exact ⟨[d], (okStep_first hd (Nat.le_refl _)).2 h.1, rfl⟩
    · have hx := (chain_le h.2 d hm).1
      obtain ⟨l', h'⟩ := chain_upto hd h.2 hm
      exact ⟨x :: l', (okStep_first hd (by omega)).2 h.1, h'⟩
theorem parts_has {S : Sh} {d a b : Nat} (hd : d ≤ S.nf) (ha : (S.first d).IsFew a) (hb : (S.low d).IsFew b) : S.Has ∧ ∀ m, S.IsFew m → m ≤ a + b := by
  obtain ⟨l1, h1, e1⟩ := ha.is
  obtain ⟨l2, h2, e2⟩ := hb.is
  have h3 := chain_low hd h2
  rw [Nat.add_zero] at h3
  have h4 := chain_append hd h3 h1
  refine ⟨⟨_, h4⟩, fun m hm => ?_⟩
  have := hm.least _ h4
  rw [List.length_append, List.length_map] at this
  omega
theorem parts_upto {S : Sh} {d m : Nat} {g : Nat → Int} (hd : d ≤ S.nf) (hP : S.Plan m g) (hin : ∃ i, i < m ∧ g i = (d : Int)) : (S.first d).Has := by
  obtain ⟨i, hi, e⟩ := hin
  refine chain_upto hd (plan_chain hP) ?_
  have := stopsL_get g m 0 i hi
  rw [Nat.zero_add, e] at this
  have := List.mem_of_getElem? this
  simpa using this
end Go.Proofs.YtbbnpneabmldnaaDoor
