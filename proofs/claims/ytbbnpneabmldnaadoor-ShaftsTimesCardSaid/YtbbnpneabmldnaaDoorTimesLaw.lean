/- The plain law of other money. No program in sight. -/
import Derived.Test.YtbbnpneabmldnaaDoorWalkZc
namespace Go.Proofs.YtbbnpneabmldnaaDoor
open Go.RowKit Go.Sort
def Rock.times (r : Rock) (x : Int) : Rock := ⟨r.hours, r.pence * x, r.stand, if r.seat = -1 then -1 else r.seat * x⟩
/-- all money x times as great -/
def Sh.times (S : Sh) (x : Int) : Sh := ⟨S.nr, fun i => (S.rock i).times x, S.nf, S.foot, S.deep * x, S.haul * x, S.rest⟩
def Way.times (w : Way) (x : Int) : Way := ⟨w.rings, w.pence * x, w.next⟩
theorem mul_ne_neg {s x : Int} (hx : 1 ≤ x) (h : s ≠ -1) : s * x ≠ -1 := by
  rcases (by omega : 0 ≤ s ∨ s ≤ -2) with h1 | h1
  · have := Int.mul_nonneg h1 (show 0 ≤ x by omega)
    omega
  · have := Int.mul_le_mul_of_nonneg_right h1 (show 0 ≤ x by omega)
    omega
theorem mul_lt_iff {a b x : Int} (hx : 1 ≤ x) : a * x < b * x ↔ a < b := Int.mul_lt_mul_right (by omega)
theorem sumTo_mul {f : Nat → Int} {x : Int} : ∀ n, sumTo (fun i => f i * x) n = sumTo f n * x
  | 0 => by simp [sumTo]
  | n + 1 => by simp only [sumTo, sumTo_mul n, Int.add_mul]
section
variable {S : Sh} {x : Int} (hx : 1 ≤ x)
theorem times_minSt (a : Nat) : ∀ m, (S.times x).minSt a m = S.minSt a m
  | 0 => rfl
  | m + 1 => by simp only [Sh.minSt]; rw [times_minSt a m]; rfl
theorem times_falls (a : Nat) : (S.times x).falls a = S.falls a := by
  have h : (S.times x).fallsAt a = S.fallsAt a := funext fun f => by unfold Sh.fallsAt; rw [times_minSt]
  unfold Sh.falls
  rw [h]
  rfl
theorem times_price (i : Nat) : (S.times x).price i = S.price i * x := by
  show (S.rk i).pence * x + i * (S.deep * x) = ((S.rk i).pence + i * S.deep) * x
  rw [Int.add_mul, Int.mul_assoc]
theorem times_hour (i : Nat) : (S.times x).hour i = S.hour i := rfl
theorem times_prices : sumTo (S.times x).price S.nf = sumTo S.price S.nf * x := by
  rw [← sumTo_mul]
  exact sumTo_congr fun i _ => times_price i
theorem times_more (r : Int) : (S.times x).more r = (S.more r).times x := rfl
theorem times_ringc {d : Nat} (h : S.restsB d = true) : (S.times x).ringc d = S.ringc d * x := by
  have h : (S.rk (d - 1)).seat ≠ -1 := bne_iff_ne.1 h
  show (if (S.rk (d - 1)).seat = -1 then -1 else (S.rk (d - 1)).seat * x) + d * (S.haul * x) = ((S.rk (d - 1)).seat + d * S.haul) * x
  rw [if_neg h, Int.add_mul, Int.mul_assoc]
theorem times_ltR (a b : Way) : ltR (a.times x) (b.times x) = ltR a b := rfl
theorem times_to {w : Way} {d : Nat} (h : S.restsB d = true) : (S.times x).wayTo (w.times x) d = (S.wayTo w d).times x := by
  unfold Sh.wayTo Way.times
  simp only [times_ringc h, Int.add_mul]
include hx
theorem times_rests (d : Nat) : (S.times x).restsB d = S.restsB d := by
  show ((if (S.rk (d - 1)).seat = -1 then -1 else (S.rk (d - 1)).seat * x) != -1) = ((S.rk (d - 1)).seat != -1)
  by_cases h : (S.rk (d - 1)).seat = -1
  · rw [if_pos h, h]
  · rw [if_neg h, bne_iff_ne.2 h, bne_iff_ne.2 (mul_ne_neg hx h)]
theorem way_no (w : Way) : w.times x = noWay ↔ w = noWay := by
  obtain ⟨r, p, n⟩ := w
  simp only [Way.times, noWay, Way.mk.injEq]
  have : p * x = 0 ↔ p = 0 := ⟨fun h => by
    rcases Int.mul_eq_zero.1 h with h | h
    · exact h
    · omega, fun h => by rw [h, Int.zero_mul]⟩
  rw [this]
theorem times_look {lt : Way → Way → Bool} (hlt : ∀ a b : Way, lt (a.times x) (b.times x) = lt a b) {p q : Nat → Way} (hpq : ∀ d, q d = (p d).times x) (c : Way) (d : Nat) : (S.times x).look lt q (c.times x) d = (S.look lt p c d).times x := by
  unfold Sh.look
  simp only [hpq, way_no hx, times_rests hx]
  by_cases h1 : p d = noWay ∨ S.restsB d = false
  · rw [if_pos h1, if_pos h1]
  · have hr : S.restsB d = true := by
      cases e : S.restsB d
      · exact absurd (.inr e) h1
      · rfl
    rw [if_neg h1, if_neg h1, times_to hr, hlt]
    split <;> rfl
theorem times_lookTo {lt : Way → Way → Bool} (hlt : ∀ a b : Way, lt (a.times x) (b.times x) = lt a b) {p q : Nat → Way} (hpq : ∀ d, q d = (p d).times x) (d : Nat) : ∀ m, (S.times x).lookTo lt q d m = (S.lookTo lt p d m).times x
  | 0 => hpq d
  | m + 1 => by
    simp only [Sh.lookTo]
    rw [times_lookTo hlt hpq d m]
    exact times_look hx hlt hpq _ _
theorem times_ways {lt : Way → Way → Bool} (hlt : ∀ a b : Way, lt (a.times x) (b.times x) = lt a b) : ∀ k d, (S.times x).waysOf lt k d = (S.waysOf lt k d).times x
  | 0, d => by
    show (if d = S.nf then (⟨0, 0, 0⟩ : Way) else noWay) = Way.times (if d = S.nf then ⟨0, 0, 0⟩ else noWay) x
    split <;> simp [Way.times, noWay]
  | k + 1, d => by
    have ih := times_ways hlt k
    show (if d < S.nf then (S.times x).lookTo lt _ d ((S.times x).falls d - d) else _) = Way.times (if d < S.nf then S.lookTo lt _ d (S.falls d - d) else _) x
    rw [times_falls, times_lookTo hx hlt ih]
    split
    · rfl
    · exact ih d
theorem times_ltP (a b : Way) : ltP (a.times x) (b.times x) = ltP a b := by
  unfold ltP
  exact decide_eq_decide.2 (mul_lt_iff hx)
theorem times_waysR (k d : Nat) : (S.times x).waysOf ltR k d = (S.waysOf ltR k d).times x := times_ways hx times_ltR k d
theorem times_waysP (k d : Nat) : (S.times x).waysOf ltP k d = (S.waysOf ltP k d).times x := times_ways hx (times_ltP hx) k d
theorem times_fewest (ok : S.Ok) (ok2 : (S.times x).Ok) : (S.times x).fewestOut = S.fewestOut := by
  by_cases h : S.waysOf ltR S.nf 0 = noWay
  · rw [fewestOut_none ok h, fewestOut_none ok2 (show (S.times x).waysOf ltR S.nf 0 = noWay from (times_waysR (S := S) hx S.nf 0).trans ((way_no hx _).2 h))]
  · rw [fewestOut_some ok h, fewestOut_some ok2 (fun e : (S.times x).waysOf ltR S.nf 0 = noWay => h ((way_no hx _).1 ((times_waysR (S := S) hx S.nf 0).symm.trans e)))]
    have e := times_waysR (S := S) hx S.nf 0
    show (((S.times x).waysOf ltR S.nf 0).rings, (0 : Int)) = _
    rw [e]
    rfl
theorem times_cheap (ok : S.Ok) (ok2 : (S.times x).Ok) : (S.times x).cheapOut = (S.cheapOut.1 * x, S.cheapOut.2) := by
  by_cases h : S.waysOf ltP S.nf 0 = noWay
  · rw [cheapOut_none ok h, cheapOut_none ok2 (show (S.times x).waysOf ltP S.nf 0 = noWay from (times_waysP (S := S) hx S.nf 0).trans ((way_no hx _).2 h))]
    simp
  · rw [cheapOut_some ok h, cheapOut_some ok2 (fun e : (S.times x).waysOf ltP S.nf 0 = noWay => h ((way_no hx _).1 ((times_waysP (S := S) hx S.nf 0).symm.trans e)))]
    have e : (S.times x).waysOf ltP (S.times x).nf 0 = _ := times_waysP (S := S) hx S.nf 0
    rw [e, show (S.times x).nf = S.nf from rfl, times_prices, Int.add_mul]
    rfl
theorem times_within (ok : S.Ok) (ok2 : (S.times x).Ok) (h : Int) : (S.times x).withinOut h = ((S.withinOut h).1 * x, (S.withinOut h).2) := by
  have eh : sumTo (S.times x).hour (S.times x).nf = sumTo S.hour S.nf := rfl
  have er : (S.times x).ringsIn h = S.ringsIn h := rfl
  by_cases h1 : h < sumTo S.hour S.nf
  · rw [withinOut_few ok h1, withinOut_few ok2 (by rw [eh]; exact h1)]
    simp
  · by_cases h2 : S.waysOf ltP (min (S.ringsIn h) S.nf) 0 = noWay
    · rw [withinOut_none ok h1 h2, withinOut_none ok2 (by rw [eh]; exact h1) (show (S.times x).waysOf ltP (min (S.ringsIn h) S.nf) 0 = noWay from (times_waysP (S := S) hx _ 0).trans ((way_no hx _).2 h2))]
      simp
    · rw [withinOut_some ok h1 h2, withinOut_some ok2 (by rw [eh]; exact h1) (fun e : (S.times x).waysOf ltP (min (S.ringsIn h) S.nf) 0 = noWay => h2 ((way_no hx _).1 ((times_waysP (S := S) hx _ 0).symm.trans e)))]
      have e : (S.times x).waysOf ltP (min ((S.times x).ringsIn h) (S.times x).nf) 0 = _ := times_waysP hx (min (S.ringsIn h) S.nf) 0
      rw [e, show (S.times x).nf = S.nf from rfl, times_prices, Int.add_mul]
      rfl
theorem times_next (ok : S.Ok) (ok2 : (S.times x).Ok) {r : Int} (hr : inR r 0 (S.nr - 1) = true) : (S.times x).nextOut r = ((S.nextOut r).1 * x, (S.nextOut r).2) := by
  have hr2 : inR r 0 ((S.times x).nr - 1) = true := hr
  by_cases h : S.nf = 12
  · rw [nextOut_many ok hr h, nextOut_many ok2 hr2 h]
    simp
  · have h0 := inR_iff.1 hr
    have hnf := ok.nf
    have okm : (S.more r).Ok := ok.more h0.1 (by omega) (by omega)
    have okm2 : ((S.more r).times x).Ok := ok2.more (S := S.times x) h0.1 (by show r < (S.nr : Int); omega) (by show S.nf < 12; omega)
    have e1 := times_cheap hx ok ok2
    have e2 := times_cheap hx okm okm2
    rw [nextOut_rest ok hr h, nextOut_rest ok2 hr2 h, times_more, e1, e2]
    by_cases a1 : S.cheapOut.2 = 0
    · rw [if_neg (not_not_intro a1), if_neg (not_not_intro a1)]
      by_cases a2 : (S.more r).cheapOut.2 = 0
      · rw [if_neg (not_not_intro a2), if_neg (not_not_intro a2)]
        simp only [Int.sub_mul]
      · rw [if_pos a2, if_pos a2]; simp
    · rw [if_pos a1, if_pos a1]; simp
end
end Go.Proofs.YtbbnpneabmldnaaDoor
