/- The plain law of the hours: what Within says of all plans. No program in sight. -/
import Derived.Test.YtbbnpneabmldnaaDoorPlanLaw
namespace Go.Proofs.YtbbnpneabmldnaaDoor
open Go.RowKit Go.Sort
def Sh.dig (S : Sh) : Int := sumTo S.hour S.nf
structure Sh.Best (S : Sh) (K : Nat) (v : Int) : Prop where
  is : ∃ l, S.Chain 0 l ∧ l.length ≤ K ∧ S.pay l = v
  least : ∀ l, S.Chain 0 l → l.length ≤ K → v ≤ S.pay l
def Sh.There (S : Sh) (h : Int) : Prop := S.dig ≤ h ∧ ∃ l, S.Chain 0 l ∧ l.length ≤ S.ringsIn h
theorem within_cases {S : Sh} (ok : S.Ok) (h : Int) : (S.There h ∧ ∃ v, S.withinOut h = (v, 0) ∧ S.Best (S.ringsIn h) v ∧ 0 ≤ v ∧ v ≤ 4968) ∨ (¬ S.There h ∧ S.withinOut h = (0, 3)) := by
  by_cases hd : h < sumTo S.hour S.nf
  · exact .inr ⟨fun ⟨h1, _⟩ => by unfold Sh.dig at h1; omega, withinOut_few ok hd⟩
  · have M := measP S
    by_cases hn : S.waysOf ltP (min (S.ringsIn h) S.nf) 0 = noWay
    · refine .inr ⟨fun ⟨_, l, h1, h2⟩ => (waysOf_best M _ 0 l h1 (by have := h1.len; omega)).1 hn, withinOut_none ok hd hn⟩
    · obtain ⟨l, h1, h2, _, h3⟩ := waysOf_sound M _ 0 (Nat.zero_le _) hn
      obtain ⟨y0, y1, _, _⟩ := digs_bd ok (k := S.nf) (Nat.le_refl _)
      obtain ⟨p0, p1⟩ := pence_bd ok ltP (min (S.ringsIn h) S.nf) (by have := ok.nf; omega)
      refine .inl ⟨⟨by unfold Sh.dig; omega, l, h1, by omega⟩, _, withinOut_some ok hd hn, ⟨⟨l, h1, by omega, by unfold Sh.pay; rw [h3]⟩, fun l' h1' h2' => ?_⟩, by omega, by omega⟩
      have := (waysOf_best M (min (S.ringsIn h) S.nf) 0 l' h1' (by have := h1'.len; omega)).2
      unfold Sh.pay
      omega
theorem le_ringsIn {S : Sh} (ok : S.Ok) {h : Int} (hd : S.dig ≤ h) {m : Nat} (hm : m ≤ 12) : m ≤ S.ringsIn h ↔ S.dig + (m : Int) * S.rest ≤ h := by
  have r0 := ok.r0
  unfold Sh.ringsIn
  by_cases hr : 0 < S.rest
  · rw [if_pos hr]
    have e : (h - sumTo S.hour S.nf).toNat / S.rest.toNat = ((h - S.dig) / S.rest).toNat := by
      have h1 : (((h - sumTo S.hour S.nf).toNat / S.rest.toNat : Nat) : Int) = (h - S.dig) / S.rest := by
        rw [Int.natCast_ediv, Int.toNat_of_nonneg (by unfold Sh.dig at hd; omega), Int.toNat_of_nonneg (by omega)]; rfl
      rw [← h1]; rfl
    rw [e]
    have h2 : (m : Int) ≤ (h - S.dig) / S.rest ↔ (m : Int) * S.rest ≤ h - S.dig := Int.le_ediv_iff_mul_le hr
    have h3 : 0 ≤ (h - S.dig) / S.rest := Int.ediv_nonneg (by omega) (by omega)
    constructor
    · intro h4
      have := h2.1 (by omega)
      omega
    · intro h4
      have := h2.2 (by omega)
      omega
  · rw [if_neg hr]
    have : S.rest = 0 := by omega
    rw [this, Int.mul_zero]
    exact ⟨fun _ => by omega, fun _ => hm⟩
theorem there_iff {S : Sh} (ok : S.Ok) {m : Nat} (hf : S.IsFew m) (h : Int) : S.There h ↔ S.dig + (m : Int) * S.rest ≤ h := by
  have hm := hf.le
  have hnf := ok.nf
  have hmr : 0 ≤ (m : Int) * S.rest := Int.mul_nonneg (by omega) ok.r0
  constructor
  · rintro ⟨h1, l, h2, h3⟩
    have := hf.least l h2
    exact (le_ringsIn ok h1 (by omega)).1 (by omega)
  · intro h1
    obtain ⟨l, h2, h3⟩ := hf.is
    exact ⟨by omega, l, h2, by rw [h3]; exact (le_ringsIn ok (by omega) (by omega)).2 h1⟩
theorem ringsIn_mono {S : Sh} (ok : S.Ok) {h h' : Int} (hd : S.dig ≤ h) (hh : h ≤ h') : S.ringsIn h ≤ S.ringsIn h' := by
  have h1 := (le_ringsIn ok hd (ringsIn_le S h)).1 (Nat.le_refl _)
  exact (le_ringsIn ok (by omega) (ringsIn_le S h)).2 (by omega)
theorem best_mono {S : Sh} {K K' : Nat} {v v' : Int} (h : S.Best K v) (h' : S.Best K' v') (hk : K ≤ K') : v' ≤ v := by
  obtain ⟨l, h1, h2, h3⟩ := h.is
  have := h'.least l h1 (by omega)
  omega
theorem best_cheap {S : Sh} {K : Nat} {v n : Int} (h : S.Best K v) (hc : S.IsCheap n) : n ≤ v := by
  obtain ⟨l, h1, _, h3⟩ := h.is
  have := hc.least l h1
  omega
/-- with the hours of a plan that costs the least -/
theorem within_cheapest {S : Sh} (ok : S.Ok) {m : Nat} {g : Nat → Int} {n : Int} (hP : S.Plan m g) (hc : S.costOf m g = n) (hn : S.IsCheap n) : S.withinOut (S.hoursOf m) = (n, 0) := by
  have hch := plan_chain hP
  have hm : m ≤ 12 := by have := hch.len; rw [stopsL_len] at this; have := ok.nf; omega
  have hmr : 0 ≤ (m : Int) * S.rest := Int.mul_nonneg (by omega) ok.r0
  have hh : S.hoursOf m = S.dig + (m : Int) * S.rest := by unfold Sh.hoursOf Sh.dig; rw [Int.mul_comm]; omega
  have hK : m ≤ S.ringsIn (S.hoursOf m) := (le_ringsIn ok (by omega) hm).2 (by omega)
  rcases within_cases ok (S.hoursOf m) with ⟨_, v, h1, h2, _, _⟩ | ⟨h1, _⟩
  · have h3 := h2.least _ hch (by rw [stopsL_len]; exact hK)
    rw [← costOf_pay, hc] at h3
    have h4 := best_cheap h2 hn
    rw [h1]
    congr 1
    omega
  · exact absurd ⟨by omega, _, hch, by rw [stopsL_len]; exact hK⟩ h1
end Go.Proofs.YtbbnpneabmldnaaDoor
