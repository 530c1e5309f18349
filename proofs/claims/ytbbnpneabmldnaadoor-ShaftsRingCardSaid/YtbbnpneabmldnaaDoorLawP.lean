/- Walk: ShaftsRing returns true. Condition: the way that there is not lies in its variable. -/
import Derived.Test.YtbbnpneabmldnaaDoorLawI
import Derived.Test.YtbbnpneabmldnaaDoorRingLaw
namespace Go.Proofs.YtbbnpneabmldnaaDoor
open Go.RowKit Go.Sort
theorem owns_belowR {w w' : World} {base : Nat} {e : TypeId} {size : Nat} {v : Value} {n : Nat} {xs : List Value} (h : w.ownsRow base e size v n xs) (hb : Below w.heap.size w w') : w'.ownsRow base e size v n xs :=
  h.kept (row := none) ⟨hb.os, hb.tape, hb.output, hb.size, fun k hk _ => hb.block k hk⟩ (by cases v.ownBlock <;> simp)
theorem Cost_at {S : Sh} {m : Nat} {g : Nat → Int} {x y z : Int} (h : S.costOut m g = (x, y, z)) (Ar Af : Option Addr) (cr cf : Nat) (w : World) (hr : S.nr ≤ 9223372036854775807) (hf : S.nf ≤ 9223372036854775807) (hS : ShAt w Ar Af S) (A : Option Addr) (c : Nat) (hm : m ≤ 40) (hg : IntsAt w A m g) :
    Calls Tryd.prog 55 #[.agg #[.slice Ar S.nr cr, .slice Af S.nf cf, .int .i64 S.deep, .int .i64 S.haul, .int .i64 S.rest], .slice A m c] w fun e w' => e = .returned (.tuple #[.int .i64 x, .int .i64 y, .int .i64 z]) ∧ Below w.heap.size w w' := by
  have := Cost_any Ar Af cr cf S w hr hf hS A m c g hm hg
  rw [h] at this
  exact this
theorem news_one {w : World} {b : Nat} {u : Value} (h : w.cell? ⟨b, 0, none⟩ = some u) : ∀ j v, [u][j]? = some v → w.cell? ((⟨b, 0, none⟩ : Addr).add j) = some v := by
  intro j v hj
  match j, hj with
  | 0, hj => simp at hj; subst hj; simpa [Addr.add] using h
theorem one_one {u : Value} (h : u.oneCell' = true) : ∀ v ∈ [u], v.oneCell' = true := by
  intro v hv
  rw [List.mem_singleton.1 hv]
  exact h
/-- the stops and one ring more, as far as the depth d -/
structure RingTo (m : Nat) (g : Nat → Int) (x d n : Nat) (h : Nat → Int) : Prop where
  rising : Rising 1 ((d : Int) - 1) n h
  mem : ∀ e, 1 ≤ e → e < d → memOf n h e = (memOf m g e || e == x)
section
variable {m : Nat} {g : Nat → Int} {x d n : Nat} {h : Nat → Int}
theorem RingTo.nil : RingTo m g x 1 0 h := ⟨⟨fun i hi => by omega, fun i hi => by omega, fun i j _ hj => by omega⟩, fun e h1 h2 => by omega⟩
theorem RingTo.skip (r : RingTo m g x d n h) (hn : (memOf m g d || d == x) = false) : RingTo m g x (d + 1) n h :=
  ⟨⟨r.rising.lo, fun i hi => by have := r.rising.hi i hi; omega, r.rising.lt⟩, fun e h1 h2 => by
    rcases Nat.lt_or_ge e d with h3 | h3
    · exact r.mem e h1 h3
    · obtain rfl : e = d := by omega
      rw [hn]
      cases hm : memOf n h e
      · rfl
      · obtain ⟨i, hi, e'⟩ := memOf_iff.1 hm
        have := r.rising.hi i hi
        omega⟩
theorem RingTo.snoc (r : RingTo m g x d n h) (h1 : 1 ≤ d) (hn : (memOf m g d || d == x) = true) : RingTo m g x (d + 1) (n + 1) (snocF h n (d : Int)) := by
  have hlo : ∀ i, i < n → snocF h n (d : Int) i = h i := fun i hi => by unfold snocF; rw [if_neg (by omega)]
  have hla : snocF h n (d : Int) n = d := by unfold snocF; rw [if_pos rfl]
  have hold : ∀ e, memOf (n + 1) (snocF h n (d : Int)) e = (memOf n h e || (d : Int) == (e : Int)) := fun e => by
    unfold memOf
    simp only [anyB, hla]
    rw [anyB_congr (q := fun i => h i == (e : Int)) (fun i hi => by rw [hlo i hi])]
  refine ⟨⟨fun i hi => ?_, fun i hi => ?_, fun i j hij hj => ?_⟩, fun e h2 h3 => ?_⟩
  · rcases Nat.lt_or_ge i n with h4 | h4
    · rw [hlo i h4]; exact r.rising.lo i h4
    · obtain rfl : i = n := by omega
      rw [hla]; omega
  · rcases Nat.lt_or_ge i n with h4 | h4
    · rw [hlo i h4]; have := r.rising.hi i h4; omega
    · obtain rfl : i = n := by omega
      rw [hla]; omega
  · rcases Nat.lt_or_ge j n with h4 | h4
    · rw [hlo i (by omega), hlo j h4]; exact r.rising.lt i j hij h4
    · obtain rfl : j = n := by omega
      rw [hlo i hij, hla]
      have := r.rising.hi i hij
      omega
  · rw [hold e]
    rcases Nat.lt_or_ge e d with h4 | h4
    · rw [r.mem e h2 h4, show ((d : Int) == (e : Int)) = false from beq_eq_false_iff_ne.2 (by omega), Bool.or_false]
    · obtain rfl : e = d := by omega
      rw [hn]
      simp
theorem RingTo.done {S : Sh} (r : RingTo m g x (S.nf + 1) n h) (hR : Rising 1 (S.nf : Int) m g) (h1 : 1 ≤ x) (h2 : x ≤ S.nf) (hno : memOf m g x = false) : Ringed S m g n h x :=
  ⟨hR, by have := r.rising; rwa [show ((S.nf + 1 : Nat) : Int) - 1 = (S.nf : Int) from by omega] at this, h1, h2, hno, fun e h3 h4 => r.mem e h3 (by omega)⟩
end
/-- the answers of Falls, Good and Cost, of the stops and of those with one ring more -/
structure RingOuts (S : Sh) (m : Nat) (g : Nat → Int) (n : Nat) (h : Nat → Int) (x : Nat) (a e b f : Int) (p q : Bool) : Prop where
  one : S.fallsOut m g = (a, e)
  two : S.fallsOut n h = (b, f)
  rel : (e = 3 ∧ f = 3) ∨ (e = 0 ∧ f = 3) ∨ (e = 0 ∧ f = 0 ∧ ((b < a) = False))
  good : S.goodOut m g = (p, 0)
  so : S.goodOut n h = (q, 0)
  rest : p = false ∨ (p = true ∧ q = S.restsB x)
  cost : p = true → q = true → ∃ s t, S.costOut m g = (s, t, 0) ∧ S.costOut n h = (s + S.ringc x, t + S.rest, 0) ∧ 0 ≤ s ∧ s ≤ 5000 ∧ 0 ≤ t ∧ t ≤ 5000
theorem ring_outs {S : Sh} (ok : S.Ok) {m n x : Nat} {g h : Nat → Int} (r : Ringed S m g n h x) : ∃ a e b f p q, RingOuts S m g n h x a e b f p q := by
  have hr1 := rising_iff.2 r.one
  have hr2 := rising_iff.2 r.two
  have hle := r.falls ok
  have h3 := (firstFrom_spec (S.fallAt (memOf n h)) S.nf 0).2.1
  have e3 : S.firstFall (memOf n h) = firstFrom (S.fallAt (memOf n h)) S.nf 0 := rfl
  have hgood : ∃ p q, S.goodOut m g = (p, 0) ∧ S.goodOut n h = (q, 0) ∧ (p = false ∨ (p = true ∧ q = S.restsB x)) ∧ (p = true → q = true → ∃ s t, S.costOut m g = (s, t, 0) ∧ S.costOut n h = (s + S.ringc x, t + S.rest, 0) ∧ 0 ≤ s ∧ s ≤ 5000 ∧ 0 ≤ t ∧ t ≤ 5000) := by
    refine ⟨_, _, goodOut_ok ok, goodOut_ok ok, ?_, fun h1 h2 => ?_⟩
    · cases e : S.planB m g
      · exact .inl rfl
      · refine .inr ⟨rfl, ?_⟩
        have := r.plan ok (Sh.planB_iff.1 e)
        rw [← Sh.planB_iff] at this
        cases a : S.planB n h <;> cases b : S.restsB x <;> simp_all
    · have hP := Sh.planB_iff.1 h1
      have hnf := ok.nf
      have hc := r.one.count
      have hch := plan_chain hP
      have h0 : 0 ≤ S.costOf m g := by
        rcases out_cases ok with ⟨_, _, k, _, _, _, hk, _, hk0, _⟩ | ⟨hno, _⟩
        · have := hk.least _ hch
          rw [← costOf_pay] at this
          omega
        · exact absurd ⟨_, hch⟩ hno
      obtain ⟨d0, d1, t0, t1⟩ := digs_bd ok (k := S.nf) (Nat.le_refl _)
      obtain ⟨b0, b1⟩ := rings_bd ok r.one (k := m) (Nat.le_refl _)
      obtain ⟨c0, c1⟩ := rest_bd ok (k := m) (by omega)
      have e1 : S.costOf m g = sumTo S.price S.nf + sumTo (fun i => S.ringc (g i).toNat) m := rfl
      have e2 : S.hoursOf m = S.rest * m + sumTo S.hour S.nf := rfl
      exact ⟨_, _, costOut_ok ok h1, by rw [costOut_ok ok h2, r.cost, r.hours], h0, by omega, by omega, by omega⟩
  obtain ⟨p, q, g1, g2, g3, g4⟩ := hgood
  by_cases h1 : S.firstFall (memOf m g) = S.nf
  · have h2 : S.firstFall (memOf n h) = S.nf := by omega
    exact ⟨_, _, _, _, p, q, fallsOut_none ok hr1 h1, fallsOut_none ok hr2 h2, .inl ⟨rfl, rfl⟩, g1, g2, g3, g4⟩
  · by_cases h2 : S.firstFall (memOf n h) = S.nf
    · exact ⟨_, _, _, _, p, q, fallsOut_some ok hr1 h1, fallsOut_none ok hr2 h2, .inr (.inl ⟨rfl, rfl⟩), g1, g2, g3, g4⟩
    · exact ⟨_, _, _, _, p, q, fallsOut_some ok hr1 h1, fallsOut_some ok hr2 h2, .inr (.inr ⟨rfl, rfl, by simp; omega⟩), g1, g2, g3, g4⟩
set_option maxHeartbeats 8000000 in
set_option maxRecDepth 100000 in
theorem ShaftsRing_no (Ar Af : Option Addr) (cr cf : Nat) (S : Sh) (A : Option Addr) (m c : Nat) (g : Nat → Int) (x : Int) (w : World) (hr : S.nr ≤ 9223372036854775807) (hf : S.nf ≤ 9223372036854775807) (HS : Hid (ShAt (w.alloc (.cells #[.slice Ar S.nr cr, .slice Af S.nf cf, .int .i64 S.deep, .int .i64 S.haul, .int .i64 S.rest] 25)) Ar Af S)) (HN : Hid (NoneAt (w.alloc (.cells #[.slice Ar S.nr cr, .slice Af S.nf cf, .int .i64 S.deep, .int .i64 S.haul, .int .i64 S.rest] 25)))) (HG : Hid (IntsAt (w.alloc (.cells #[.slice Ar S.nr cr, .slice Af S.nf cf, .int .i64 S.deep, .int .i64 S.haul, .int .i64 S.rest] 25)) A m g)) (HB : Hid (Below w.heap.size w (w.alloc (.cells #[.slice Ar S.nr cr, .slice Af S.nf cf, .int .i64 S.deep, .int .i64 S.haul, .int .i64 S.rest] 25)))) (hm : m ≤ 9223372036854775807)
    (hgo : ¬ (S.Ok ∧ ¬ 40 < m ∧ risingB 1 S.nf m g = true ∧ inR x 1 S.nf = true ∧ anyB (fun i => g i == x) m = false)) :
    Calls Tryd.prog 13 #[.agg #[.slice Ar S.nr cr, .slice Af S.nf cf, .int .i64 S.deep, .int .i64 S.haul, .int .i64 S.rest], .slice A m c, .int .i64 x] w fun e w' => e = .returned (.bool true) ∧ Below w.heap.size w w' := by
  have hcase : ¬ S.Ok ∨ (S.Ok ∧ (40 : Int) < (m : Int)) ∨ (S.Ok ∧ ¬ (40 : Int) < (m : Int) ∧ risingB 1 S.nf m g = false) ∨ (S.Ok ∧ ¬ (40 : Int) < (m : Int) ∧ risingB 1 S.nf m g = true ∧ inR x 1 S.nf = false) ∨ (S.Ok ∧ ¬ (40 : Int) < (m : Int) ∧ risingB 1 S.nf m g = true ∧ inR x 1 S.nf = true ∧ anyB (fun i => g i == x) m = true) := by
    by_cases ok : S.Ok
    · by_cases h1 : 40 < m
      · exact .inr (.inl ⟨ok, by omega⟩)
      · cases e : risingB 1 S.nf m g
        · exact .inr (.inr (.inl ⟨ok, by omega, rfl⟩))
        · cases e2 : inR x 1 S.nf
          · exact .inr (.inr (.inr (.inl ⟨ok, by omega, rfl, rfl⟩)))
          · cases e3 : anyB (fun i => g i == x) m
            · exact absurd ⟨ok, h1, e, e2, e3⟩ hgo
            · exact .inr (.inr (.inr (.inr ⟨ok, by omega, rfl, rfl, rfl⟩)))
    · exact .inl ok
  clear hgo
  rcases hcase with hno | ⟨ok, h40⟩ | ⟨ok, h40, hrb⟩ | ⟨ok, h40, hrb, hin⟩ | ⟨ok, h40, hrb, hin, hme⟩
  · go_enter Tryd.func13, Tryd.ntmps13
    go_wp2_with fail
    refine (ready_any _ _ _ _ S _ hr hf HS.out).mono ?_
    rintro e w1 ⟨b, rfl, hbb, hb1⟩
    obtain rfl : b = false := by
      cases b
      · rfl
      · exact absurd (hbb.1 rfl) hno
    clear hbb
    go_wp2_with fail
    refine (works_any _ (HN.out.mono hb1)).mono ?_
    rintro e w2 ⟨rfl, hb2⟩
    go_wp2_with fail
    go_ret
    exact ⟨rfl, bTrans HB.out (bTrans hb1 hb2)⟩
  · go_enter Tryd.func13, Tryd.ntmps13
    go_wp2_with fail
    refine (ready_any _ _ _ _ S _ hr hf HS.out).mono ?_
    rintro e w1 ⟨b, rfl, hbb, hb1⟩
    obtain rfl : b = true := hbb.2 ok
    clear hbb
    go_wp2_with fail
    refine (works_any _ (HN.out.mono hb1)).mono ?_
    rintro e w2 ⟨rfl, hb2⟩
    go_wp2_with fail
    go_ret
    exact ⟨rfl, bTrans HB.out (bTrans hb1 hb2)⟩
  all_goals
    go_enter Tryd.func13, Tryd.ntmps13
    go_wp2_with fail
    refine (ready_any _ _ _ _ S _ hr hf HS.out).mono ?_
    rintro e w1 ⟨b, rfl, hbb, hb1⟩
    obtain rfl : b = true := hbb.2 ok
    have HB1 := Lib.hid hb1
    obtain ⟨bc1, bf1⟩ := bcell hb1
    have hz1 := hb1.size
    simp only [World.size_alloc] at hz1
    have hy1 : w.heap.size < w1.heap.size := by omega
    clear hbb hb1
    go_wp2_with fail
    refine (areStops_ref _ _ _ _ S _ _ _ g _ hm (HG.out.mono HB1.out)).mono ?_
    rintro e w3 ⟨he3, hb3⟩
    rw [hrb] at he3
    subst he3
    have HB3 := Lib.hid (bTrans HB1.out hb3)
    obtain ⟨bc3, bf3⟩ := bcell HB3.out
    have hz3 := HB3.out.size
    simp only [World.size_alloc] at hz3
    have hy3 : w.heap.size < w3.heap.size := by omega
    clear hb3 bc1 bf1 hz1 hy1 HB1 hrb
  · go_wp2_with fail
    refine (works_any _ (HN.out.mono HB3.out)).mono ?_
    rintro e w2 ⟨rfl, hb2⟩
    go_wp2_with fail
    go_ret
    exact ⟨rfl, bTrans HB.out (bTrans HB3.out hb2)⟩
  · go_wp2_with (go_at_call 32; refine (Within01_any _ _ _ _).mono ?_; rintro e w2' ⟨rfl, rfl⟩)
    refine (works_any _ (HN.out.mono HB3.out)).mono ?_
    rintro e w2 ⟨rfl, hb2⟩
    go_wp2_with fail
    go_ret
    exact ⟨rfl, bTrans HB.out (bTrans HB3.out hb2)⟩
  · go_wp2_with (go_at_call 32; refine (Within01_any _ _ _ _).mono ?_; rintro e w2' ⟨rfl, rfl⟩)
    refine (in_any _ _ _ g _ _ hm (HG.out.mono HB3.out)).mono ?_
    rintro e w4 ⟨he4, hb4⟩
    rw [hme] at he4
    subst he4
    go_wp2_with fail
    refine (works_any _ ((HN.out.mono HB3.out).mono hb4)).mono ?_
    rintro e w2 ⟨rfl, hb2⟩
    go_wp2_with fail
    go_ret
    exact ⟨rfl, bTrans HB.out (bTrans (bTrans HB3.out hb4) hb2)⟩
set_option maxHeartbeats 16000000 in
set_option maxRecDepth 100000 in
theorem ShaftsRing_any (Ar Af : Option Addr) (cr cf : Nat) (S : Sh) (A : Option Addr) (m c : Nat) (g : Nat → Int) (x : Int) (w : World) (hr : S.nr ≤ 9223372036854775807) (hf : S.nf ≤ 9223372036854775807) (hS : ShAt w Ar Af S) (hN : NoneAt w) (hg : IntsAt w A m g) (hm : m ≤ 9223372036854775807) (_ : -9223372036854775808 ≤ x ∧ x ≤ 9223372036854775807) :
    Calls Tryd.prog 13 #[.agg #[.slice Ar S.nr cr, .slice Af S.nf cf, .int .i64 S.deep, .int .i64 S.haul, .int .i64 S.rest], .slice A m c, .int .i64 x] w fun e w' => e = .returned (.bool true) ∧ Below w.heap.size w w' := by
  have hb0 := bAlloc (Below.refl w.heap.size w) (.cells #[.slice Ar S.nr cr, .slice Af S.nf cf, .int .i64 S.deep, .int .i64 S.haul, .int .i64 S.rest] 25)
  have HS := Lib.hid (hS.mono hb0)
  have HN := Lib.hid (hN.mono hb0)
  have HG := Lib.hid (hg.mono hb0)
  have HB := Lib.hid hb0
  clear hS hN hg hb0
  by_cases hgo : S.Ok ∧ ¬ 40 < m ∧ risingB 1 S.nf m g = true ∧ inR x 1 S.nf = true ∧ anyB (fun i => g i == x) m = false
  case neg => exact ShaftsRing_no Ar Af cr cf S A m c g x w hr hf HS HN HG HB hm hgo
  obtain ⟨ok, hm40, hrb, hin, hme⟩ := hgo
  have hnr := ok.nr
  have hnf := ok.nf
  have hR := rising_iff.1 hrb
  have HR := Lib.hid hR
  have hmn := hR.count
  have hi40 : ((40 : Int) < (m : Int)) = False := by simp; omega
  obtain ⟨hx1, hx2⟩ := inR_iff.1 hin
  obtain ⟨d, rfl⟩ : ∃ d : Nat, x = d := ⟨x.toNat, by omega⟩
  have hx1' : 1 ≤ d := by omega
  have hx2' : d ≤ S.nf := by omega
  have HNO := Lib.hid (show memOf m g d = false from hme)
  obtain ⟨i0, hi, iz0, iz1, iz2⟩ := info_parts infoInt
  clear hR
  go_enter Tryd.func13, Tryd.ntmps13
  go_wp2_with fail
  refine (ready_any _ _ _ _ S _ hr hf HS.out).mono ?_
  rintro e w1 ⟨b, rfl, hbb, hb1⟩
  obtain rfl : b = true := hbb.2 ok
  have HB1 := Lib.hid hb1
  obtain ⟨bc1, bf1⟩ := bcell hb1
  have hz1 := hb1.size
  simp only [World.size_alloc] at hz1
  have hy1 : w.heap.size < w1.heap.size := by omega
  clear hb1 hbb
  go_wp2_with fail
  refine (areStops_ref _ _ _ _ S _ _ _ g _ hm (HG.out.mono HB1.out)).mono ?_
  rintro e w2 ⟨he2, hb2⟩
  rw [hrb] at he2
  subst he2
  have HB2 := Lib.hid (bTrans HB1.out hb2)
  obtain ⟨bc2, bf2⟩ := bcell HB2.out
  have hz2 := HB2.out.size
  simp only [World.size_alloc] at hz2
  have hy2 : w.heap.size < w2.heap.size := by omega
  clear hb2 bc1 bf1 hz1 hy1 HB1 hrb
  go_wp2_with (go_at_call 32; refine (Within01_any _ _ _ _).mono ?_; rintro e w2' ⟨rfl, rfl⟩)
  refine (in_any _ _ _ g _ _ hm (HG.out.mono HB2.out)).mono ?_
  rintro e w3 ⟨he3, hb3⟩
  rw [hme] at he3
  subst he3
  have HB3 := Lib.hid (bTrans HB2.out hb3)
  have HD3 := Lib.hid (Below.refl w3.heap.size w3)
  obtain ⟨bc3, bf3⟩ := bcell HB3.out
  have hz3 := HB3.out.size
  simp only [World.size_alloc] at hz3
  have hy3 : w.heap.size < w3.heap.size := by omega
  clear hb3 bc2 bf2 hz2 hy2 HB2 hme hin
  go_wp2_with fail
  clear bc3 bf3
  go_loopw [7, 8] (fun v i wr => ∃ (k n : Nat) (h : Nat → Int), i = .int .i64 k ∧ 1 ≤ k ∧ k ≤ S.nf + 1 ∧ RingTo m g d k n h ∧ wr.ownsRow w3.heap.size 3 1 v n (intL h n) ∧ Below w3.heap.size w3 wr) (fun _ i _ => S.nf + 1 - (intOf i).toNat)
  case atStart => exact ⟨1, 0, fun _ => 0, rfl, Nat.le_refl _, by omega, RingTo.nil, World.ownsRow_nil _ _ _ _, HD3.out⟩
  case round =>
    obtain ⟨k, n, h, rfl, hk1, hk2, hrt, hown, hbel⟩ := hrel
    have HRT := Lib.hid hrt
    have HO := Lib.hid hown
    have HD4 := Lib.hid hbel
    have HB4 := Lib.hid (bTrans HB3.out hbel)
    obtain ⟨bc4, bf4⟩ := bcell HB4.out
    have hz4 := HB4.out.size
    simp only [World.size_alloc] at hz4
    have hy4 : w.heap.size < wr.heap.size := hz4
    have hn41 : n ≤ 40 := by
      have h1 := hrt.rising
      rcases Nat.eq_zero_or_pos n with h0 | h0
      · omega
      · have h2 : Rising 1 ((k - 1 : Nat) : Int) n h := by rw [show ((k - 1 : Nat) : Int) = (k : Int) - 1 from by omega]; exact h1
        have := h2.count
        omega
    clear hrt hown hbel
    by_cases hlt : k ≤ S.nf
    · by_cases hkx : k = d
      · obtain rfl : d = k := hkx.symm
        have hq : w3.heap.size ≤ wr.heap.size := HD4.out.size
        go_wp2_with (at_builtin; refine wpList_append_own _ rfl _ _ 23 rfl w3.heap.size 3 i0 (.int .i64 0) 1 8 Tryd.underlying23 hi iz0 iz1 iz2 rfl (by decide) _ _ _ rfl (HO.out.alloc _) ⟨wr.heap.size, 0, none⟩ 1 1 [.int .i64 (d : Int)] rfl rfl (news_one (by go_simp)) (one_one rfl) (by unfold maxLen; omega) (by omega) (by simp; omega) ?_)
        intro v' w5 hown5 hgrow _
        have HD5 := Lib.hid ((((HD4.out).alloc (HD4.out).size _).grown hgrow (by simp; omega) (fun k hk => (HO.out.lt k hk).1)))
        have HO5 := Lib.hid hown5
        have HZ := Lib.hid (HRT.out.snoc hk1 (by simp))
        clear hown5 hgrow
        go_wp2_with fail
        go_roundw
        case rel => exact ⟨d + 1, n + 1, snocF h n d, by go_num, by omega, by omega, HZ.out, by rw [intL_snoc]; exact HO5.out, HD5.out⟩
        case measure => simp [intOf]; omega
      · have hne : ((k : Int) == (d : Int)) = false := beq_eq_false_iff_ne.2 (by omega)
        have hne2 : (k == d) = false := beq_eq_false_iff_ne.2 hkx
        go_wp2_with fail
        refine (in_any _ _ _ g _ _ hm (HG.out.mono HB4.out)).mono ?_
        rintro e wq ⟨heq, hbq⟩
        have HDq := Lib.hid (bTrans HD4.out hbq)
        have HOq := Lib.hid (owns_belowR HO.out hbq)
        have hq : w3.heap.size ≤ wq.heap.size := HDq.out.size
        have HBq := Lib.hid (bTrans HB4.out hbq)
        obtain ⟨bcq, bfq⟩ := bcell HBq.out
        have hzq := HBq.out.size
        simp only [World.size_alloc] at hzq
        have hyq : w.heap.size < wq.heap.size := by omega
        clear bc4 bf4 hz4 hy4 hbq
        cases hmk : anyB (fun i => g i == (k : Int)) m
        · rw [hmk] at heq
          subst heq
          have HZ := Lib.hid (HRT.out.skip (by rw [show memOf m g k = false from hmk, hne2]; rfl))
          clear hmk hne2
          go_wp2_with fail
          go_roundw
          case rel => exact ⟨k + 1, n, h, by go_num, by omega, by omega, HZ.out, HOq.out, HDq.out⟩
          case measure => simp [intOf]; omega
        · rw [hmk] at heq
          subst heq
          have HMK := Lib.hid (show memOf m g k = true from hmk)
          clear hmk hne2
          go_wp2_with (at_builtin; refine wpList_append_own _ rfl _ _ 23 rfl w3.heap.size 3 i0 (.int .i64 0) 1 8 Tryd.underlying23 hi iz0 iz1 iz2 rfl (by decide) _ _ _ rfl (HOq.out.alloc _) ⟨wq.heap.size, 0, none⟩ 1 1 [.int .i64 (k : Int)] rfl rfl (news_one (by go_simp)) (one_one rfl) (by unfold maxLen; omega) (by omega) (by simp; omega) ?_)
          intro v' w5 hown5 hgrow _
          have HD5 := Lib.hid ((((HDq.out).alloc (HDq.out).size _).grown hgrow (by simp; omega) (fun k hk => (HO.out.lt k hk).1)))
          have HO5 := Lib.hid hown5
          have HZ := Lib.hid (HRT.out.snoc hk1 (by rw [HMK.out]; rfl))
          clear hown5 hgrow
          go_wp2_with fail
          go_roundw
          case rel => exact ⟨k + 1, n + 1, snocF h n k, by go_num, by omega, by omega, HZ.out, by rw [intL_snoc]; exact HO5.out, HD5.out⟩
          case measure => simp [intOf]; omega
    · obtain rfl : k = S.nf + 1 := by omega
      obtain ⟨An, cn, hv, hI, hblk⟩ := intsAt_own HO.out
      subst hv
      have HI := Lib.hid hI
      have hring := HRT.out.done HR.out (by omega) (by omega) HNO.out
      obtain ⟨fa, fe, fb, ff, p, q, hout⟩ := ring_outs ok hring
      have hrel := hout.rel
      have hrest := hout.rest
      have HOUT := Lib.hid hout
      have HBX := Lib.hid HB4.out
      clear HD4
      have HD4 := Lib.hid (Below.refl wr.heap.size wr)
      have hng : n ≤ 9223372036854775807 := by omega
      have hbq := ringc_bd ok hx1' hx2'
      have r0 := ok.r0
      have r1 := ok.r1
      clear hring hout hI hblk HO HRT
      go_wp2_with fail
      refine wp_region_held 9 [.const (.agg #[.slice Ar S.nr cr, .slice Af S.nf cf, .int .i64 S.deep, .int .i64 S.haul, .int .i64 S.rest]), .const (.slice A m c), .held (copyS m) (copyR 0 m (intL g m)), .const (.tuple #[.int .i64 fa, .int .i64 fe]), .const (.tuple #[.int .i64 fa, .int .i64 fe]), .const (.int .i64 fa), .const (.int .i64 fe), .const (.int .i64 fa), .const (.int .i64 fe)] (by kernel_rfl) (by kernel_rfl) rfl ⟨trivial, trivial, copyG _ _ _, trivial, trivial, trivial, trivial, trivial, trivial, trivial⟩ ?_
      refine wpHeld_const (by go_simp) ?_
      refine wpHeld_const (by go_simp) ?_
      refine wpHeld_held rfl (fun w' hb hd => ?_) (fun v hv => ?_)
      · go_simp
        refine (copied_any _ _ _ g _ (by omega) ((HG.out.mono HB4.out).mono hb)).mono ?_
        rintro e w'' ⟨⟨A', c', rfl, h1, h2⟩, hb'⟩
        exact ⟨_, rfl, hb', ⟨_, _, rfl⟩, _, _, rfl, intsAt_row.1 h1, h2.base (Nat.zero_le _)⟩
      obtain ⟨Ad, cd, rfl⟩ := hv
      refine wpHeld_call rfl (fun w' hb hd => ?_) ?_
      · have hrow := intsAt_row.2 (copyR_get (hd.1 (by kernel_rfl))).1
        clear hd
        go_simp
        refine (Falls_at HOUT.out.one _ _ _ _ _ hr hf ((HS.out.mono HB4.out).mono hb) _ _ hm hrow).mono ?_
        rintro e w'' ⟨he, hb'⟩
        exact ⟨he, hb'⟩
      refine wpHeld_const (by go_simp) ?_
      refine wpHeld_const (by go_simp) ?_
      refine wpHeld_const (by go_simp) ?_
      refine wpHeld_const (by go_simp) ?_
      refine wpHeld_const (by go_simp) ?_
      refine wpHeld_end (fun w5 hb5 hd => ?_)
      clear hd
      simp only [List.drop_succ_cons, List.drop_zero]
      simp only [Act.put, List.setIfInBounds_toArray, List.set_cons_succ, List.set_cons_zero]
      have HD5 := Lib.hid (bTrans HD4.out hb5)
      have HB5 := Lib.hid (bTrans HBX.out HD5.out)
      obtain ⟨bc5, bf5⟩ := bcell HB5.out
      have hz5 := HB5.out.size
      simp only [World.size_alloc] at hz5
      have hy5 : w.heap.size < w5.heap.size := by omega
      clear hb5 bc4 bf4 hz4 hy4 HB4 HD4
      go_wp2_with fail
      refine wp_region_held 9 [.const (.agg #[.slice Ar S.nr cr, .slice Af S.nf cf, .int .i64 S.deep, .int .i64 S.haul, .int .i64 S.rest]), .const (.slice An n cn), .held (copyS n) (copyR 0 n (intL h n)), .const (.tuple #[.int .i64 fb, .int .i64 ff]), .const (.tuple #[.int .i64 fb, .int .i64 ff]), .const (.int .i64 fb), .const (.int .i64 ff), .const (.int .i64 fb), .const (.int .i64 ff)] (by kernel_rfl) (by kernel_rfl) rfl ⟨trivial, trivial, copyG _ _ _, trivial, trivial, trivial, trivial, trivial, trivial, trivial⟩ ?_
      refine wpHeld_const (by go_simp) ?_
      refine wpHeld_const (by go_simp) ?_
      refine wpHeld_held rfl (fun w' hb hd => ?_) (fun v hv => ?_)
      · go_simp
        refine (copied_any _ _ _ h _ (by omega) ((HI.out.mono HD5.out).mono hb)).mono ?_
        rintro e w'' ⟨⟨A', c', rfl, h1, h2⟩, hb'⟩
        exact ⟨_, rfl, hb', ⟨_, _, rfl⟩, _, _, rfl, intsAt_row.1 h1, h2.base (Nat.zero_le _)⟩
      obtain ⟨Ad, cd, rfl⟩ := hv
      refine wpHeld_call rfl (fun w' hb hd => ?_) ?_
      · have hrow := intsAt_row.2 (copyR_get (hd.1 (by kernel_rfl))).1
        clear hd
        go_simp
        refine (Falls_at HOUT.out.two _ _ _ _ _ hr hf ((HS.out.mono HB5.out).mono hb) _ _ hng hrow).mono ?_
        rintro e w'' ⟨he, hb'⟩
        exact ⟨he, hb'⟩
      refine wpHeld_const (by go_simp) ?_
      refine wpHeld_const (by go_simp) ?_
      refine wpHeld_const (by go_simp) ?_
      refine wpHeld_const (by go_simp) ?_
      refine wpHeld_const (by go_simp) ?_
      refine wpHeld_end (fun w6 hb6 hd => ?_)
      clear hd
      simp only [List.drop_succ_cons, List.drop_zero]
      simp only [Act.put, List.setIfInBounds_toArray, List.set_cons_succ, List.set_cons_zero]
      have HD6 := Lib.hid (bTrans HD5.out hb6)
      have HB6 := Lib.hid (bTrans HBX.out HD6.out)
      obtain ⟨bc6, bf6⟩ := bcell HB6.out
      have hz6 := HB6.out.size
      simp only [World.size_alloc] at hz6
      have hy6 : w.heap.size < w6.heap.size := by omega
      clear hb6 bc5 bf5 hz5 hy5 HB5 HD5
      rcases hrel with ⟨rfl, rfl⟩ | ⟨rfl, rfl⟩ | ⟨rfl, rfl, hlt2⟩
      all_goals
        go_wp2_with (go_at_call 43; refine (isKnown_any _ _).mono ?_; rintro e w7 ⟨rfl, rfl⟩)
        refine wp_region_held 9 [.const (.agg #[.slice Ar S.nr cr, .slice Af S.nf cf, .int .i64 S.deep, .int .i64 S.haul, .int .i64 S.rest]), .const (.slice A m c), .held (copyS m) (copyR 0 m (intL g m)), .const (.tuple #[.bool p, .int .i64 0]), .const (.tuple #[.bool p, .int .i64 0]), .const (.bool p), .const (.int .i64 0), .const (.bool p), .const (.int .i64 0)] (by kernel_rfl) (by kernel_rfl) rfl ⟨trivial, trivial, copyG _ _ _, trivial, trivial, trivial, trivial, trivial, trivial, trivial⟩ ?_
        refine wpHeld_const (by go_simp) ?_
        refine wpHeld_const (by go_simp) ?_
        refine wpHeld_held rfl (fun w' hb hd => ?_) (fun v hv => ?_)
        · go_simp
          refine (copied_any _ _ _ g _ (by omega) ((HG.out.mono HB6.out).mono hb)).mono ?_
          rintro e w'' ⟨⟨A', c', rfl, h1, h2⟩, hb'⟩
          exact ⟨_, rfl, hb', ⟨_, _, rfl⟩, _, _, rfl, intsAt_row.1 h1, h2.base (Nat.zero_le _)⟩
        obtain ⟨Ad, cd, rfl⟩ := hv
        refine wpHeld_call rfl (fun w' hb hd => ?_) ?_
        · have hrow := intsAt_row.2 (copyR_get (hd.1 (by kernel_rfl))).1
          clear hd
          go_simp
          refine (Good_at HOUT.out.good _ _ _ _ _ hr hf ((HS.out.mono HB6.out).mono hb) _ _ hm hrow).mono ?_
          rintro e w'' ⟨he, hb'⟩
          exact ⟨he, hb'⟩
        refine wpHeld_const (by go_simp) ?_
        refine wpHeld_const (by go_simp) ?_
        refine wpHeld_const (by go_simp) ?_
        refine wpHeld_const (by go_simp) ?_
        refine wpHeld_const (by go_simp) ?_
        refine wpHeld_end (fun w7 hb7 hd => ?_)
        clear hd
        simp only [List.drop_succ_cons, List.drop_zero]
        simp only [Act.put, List.setIfInBounds_toArray, List.set_cons_succ, List.set_cons_zero]
        have HD7 := Lib.hid (bTrans HD6.out hb7)
        have HB7 := Lib.hid (bTrans HBX.out HD7.out)
        obtain ⟨bc7, bf7⟩ := bcell HB7.out
        have hz7 := HB7.out.size
        simp only [World.size_alloc] at hz7
        have hy7 : w.heap.size < w7.heap.size := by omega
        clear hb7 bc6 bf6 hz6 hy6 HB6 HD6
        go_wp2_with fail
        refine wp_region_held 9 [.const (.agg #[.slice Ar S.nr cr, .slice Af S.nf cf, .int .i64 S.deep, .int .i64 S.haul, .int .i64 S.rest]), .const (.slice An n cn), .held (copyS n) (copyR 0 n (intL h n)), .const (.tuple #[.bool q, .int .i64 0]), .const (.tuple #[.bool q, .int .i64 0]), .const (.bool q), .const (.int .i64 0), .const (.bool q), .const (.int .i64 0)] (by kernel_rfl) (by kernel_rfl) rfl ⟨trivial, trivial, copyG _ _ _, trivial, trivial, trivial, trivial, trivial, trivial, trivial⟩ ?_
        refine wpHeld_const (by go_simp) ?_
        refine wpHeld_const (by go_simp) ?_
        refine wpHeld_held rfl (fun w' hb hd => ?_) (fun v hv => ?_)
        · go_simp
          refine (copied_any _ _ _ h _ (by omega) ((HI.out.mono HD7.out).mono hb)).mono ?_
          rintro e w'' ⟨⟨A', c', rfl, h1, h2⟩, hb'⟩
          exact ⟨_, rfl, hb', ⟨_, _, rfl⟩, _, _, rfl, intsAt_row.1 h1, h2.base (Nat.zero_le _)⟩
        obtain ⟨Ad, cd, rfl⟩ := hv
        refine wpHeld_call rfl (fun w' hb hd => ?_) ?_
        · have hrow := intsAt_row.2 (copyR_get (hd.1 (by kernel_rfl))).1
          clear hd
          go_simp
          refine (Good_at HOUT.out.so _ _ _ _ _ hr hf ((HS.out.mono HB7.out).mono hb) _ _ hng hrow).mono ?_
          rintro e w'' ⟨he, hb'⟩
          exact ⟨he, hb'⟩
        refine wpHeld_const (by go_simp) ?_
        refine wpHeld_const (by go_simp) ?_
        refine wpHeld_const (by go_simp) ?_
        refine wpHeld_const (by go_simp) ?_
        refine wpHeld_const (by go_simp) ?_
        refine wpHeld_end (fun w8 hb8 hd => ?_)
        clear hd
        simp only [List.drop_succ_cons, List.drop_zero]
        simp only [Act.put, List.setIfInBounds_toArray, List.set_cons_succ, List.set_cons_zero]
        have HD8 := Lib.hid (bTrans HD7.out hb8)
        have HB8 := Lib.hid (bTrans HBX.out HD8.out)
        obtain ⟨bc8, bf8⟩ := bcell HB8.out
        have hz8 := HB8.out.size
        simp only [World.size_alloc] at hz8
        have hy8 : w.heap.size < w8.heap.size := by omega
        clear hb8 bc7 bf7 hz7 hy7 HB7 HD7
        rcases hrest with rfl | ⟨rfl, rfl⟩
        · go_wp2_with fail
          refine (works_any _ (HN.out.mono HB8.out)).mono ?_
          rintro e w9 ⟨rfl, hb9⟩
          go_wp2_with fail
          go_ret
          exact ⟨rfl, bTrans HB.out (bTrans HB8.out hb9)⟩
        · cases hre : S.restsB d
          · go_wp2_with fail
            refine (canRest_any _ _ _ _ S _ ok (HS.out.mono HB8.out) _ d rfl hx1' hx2').mono ?_
            rintro e w9 ⟨he9, hb9⟩
            rw [hre] at he9
            subst he9
            clear hre
            have HD9 := Lib.hid (bTrans HD8.out hb9)
            have HB9 := Lib.hid (bTrans HBX.out HD9.out)
            obtain ⟨bc9, bf9⟩ := bcell HB9.out
            have hz9 := HB9.out.size
            simp only [World.size_alloc] at hz9
            have hy9 : w.heap.size < w9.heap.size := by omega
            clear hb9 bc8 bf8 hz8 hy8 HB8 HD8
            go_wp2_with fail
            refine (works_any _ (HN.out.mono HB9.out)).mono ?_
            rintro e w10 ⟨rfl, hb10⟩
            go_wp2_with fail
            go_ret
            exact ⟨rfl, bTrans HB.out (bTrans HB9.out hb10)⟩
          · obtain ⟨s, t, hc1, hc2, s0, s1, t0, t1⟩ := HOUT.out.cost rfl hre
            have HC1 := Lib.hid hc1
            have HC2 := Lib.hid hc2
            clear hc1 hc2
            go_wp2_with fail
            refine (canRest_any _ _ _ _ S _ ok (HS.out.mono HB8.out) _ d rfl hx1' hx2').mono ?_
            rintro e w9 ⟨he9, hb9⟩
            rw [hre] at he9
            subst he9
            clear hre
            have HD9 := Lib.hid (bTrans HD8.out hb9)
            have HB9 := Lib.hid (bTrans HBX.out HD9.out)
            obtain ⟨bc9, bf9⟩ := bcell HB9.out
            have hz9 := HB9.out.size
            simp only [World.size_alloc] at hz9
            have hy9 : w.heap.size < w9.heap.size := by omega
            clear hb9 bc8 bf8 hz8 hy8 HB8 HD8
            go_wp2_with fail
            refine wp_region_held 11 [.const (.agg #[.slice Ar S.nr cr, .slice Af S.nf cf, .int .i64 S.deep, .int .i64 S.haul, .int .i64 S.rest]), .const (.slice A m c), .held (copyS m) (copyR 0 m (intL g m)), .const (.tuple #[.int .i64 s, .int .i64 t, .int .i64 0]), .const (.tuple #[.int .i64 s, .int .i64 t, .int .i64 0]), .const (.int .i64 s), .const (.int .i64 t), .const (.int .i64 0), .const (.int .i64 s), .const (.int .i64 t), .const (.int .i64 0)] (by kernel_rfl) (by kernel_rfl) rfl ⟨trivial, trivial, copyG _ _ _, trivial, trivial, trivial, trivial, trivial, trivial, trivial, trivial, trivial⟩ ?_
            refine wpHeld_const (by go_simp) ?_
            refine wpHeld_const (by go_simp) ?_
            refine wpHeld_held rfl (fun w' hb hd => ?_) (fun v hv => ?_)
            · go_simp
              refine (copied_any _ _ _ g _ (by omega) ((HG.out.mono HB9.out).mono hb)).mono ?_
              rintro e w'' ⟨⟨A', c', rfl, h1, h2⟩, hb'⟩
              exact ⟨_, rfl, hb', ⟨_, _, rfl⟩, _, _, rfl, intsAt_row.1 h1, h2.base (Nat.zero_le _)⟩
            obtain ⟨Ad, cd, rfl⟩ := hv
            refine wpHeld_call rfl (fun w' hb hd => ?_) ?_
            · have hrow := intsAt_row.2 (copyR_get (hd.1 (by kernel_rfl))).1
              clear hd
              go_simp
              refine (Cost_at HC1.out _ _ _ _ _ hr hf ((HS.out.mono HB9.out).mono hb) _ _ (by omega) hrow).mono ?_
              rintro e w'' ⟨he, hb'⟩
              exact ⟨he, hb'⟩
            refine wpHeld_const (by go_simp) ?_
            refine wpHeld_const (by go_simp) ?_
            refine wpHeld_const (by go_simp) ?_
            refine wpHeld_const (by go_simp) ?_
            refine wpHeld_const (by go_simp) ?_
            refine wpHeld_const (by go_simp) ?_
            refine wpHeld_const (by go_simp) ?_
            refine wpHeld_end (fun w10 hb10 hd => ?_)
            clear hd
            simp only [List.drop_succ_cons, List.drop_zero]
            simp only [Act.put, List.setIfInBounds_toArray, List.set_cons_succ, List.set_cons_zero]
            have HD10 := Lib.hid (bTrans HD9.out hb10)
            have HB10 := Lib.hid (bTrans HBX.out HD10.out)
            obtain ⟨bc10, bf10⟩ := bcell HB10.out
            have hz10 := HB10.out.size
            simp only [World.size_alloc] at hz10
            have hy10 : w.heap.size < w10.heap.size := by omega
            clear hb10 bc9 bf9 hz9 hy9 HB9 HD9
            go_wp2_with fail
            refine wp_region_held 11 [.const (.agg #[.slice Ar S.nr cr, .slice Af S.nf cf, .int .i64 S.deep, .int .i64 S.haul, .int .i64 S.rest]), .const (.slice An n cn), .held (copyS n) (copyR 0 n (intL h n)), .const (.tuple #[.int .i64 (s + S.ringc d), .int .i64 (t + S.rest), .int .i64 0]), .const (.tuple #[.int .i64 (s + S.ringc d), .int .i64 (t + S.rest), .int .i64 0]), .const (.int .i64 (s + S.ringc d)), .const (.int .i64 (t + S.rest)), .const (.int .i64 0), .const (.int .i64 (s + S.ringc d)), .const (.int .i64 (t + S.rest)), .const (.int .i64 0)] (by kernel_rfl) (by kernel_rfl) rfl ⟨trivial, trivial, copyG _ _ _, trivial, trivial, trivial, trivial, trivial, trivial, trivial, trivial, trivial⟩ ?_
            refine wpHeld_const (by go_simp) ?_
            refine wpHeld_const (by go_simp) ?_
            refine wpHeld_held rfl (fun w' hb hd => ?_) (fun v hv => ?_)
            · go_simp
              refine (copied_any _ _ _ h _ (by omega) ((HI.out.mono HD10.out).mono hb)).mono ?_
              rintro e w'' ⟨⟨A', c', rfl, h1, h2⟩, hb'⟩
              exact ⟨_, rfl, hb', ⟨_, _, rfl⟩, _, _, rfl, intsAt_row.1 h1, h2.base (Nat.zero_le _)⟩
            obtain ⟨Ad, cd, rfl⟩ := hv
            refine wpHeld_call rfl (fun w' hb hd => ?_) ?_
            · have hrow := intsAt_row.2 (copyR_get (hd.1 (by kernel_rfl))).1
              clear hd
              go_simp
              refine (Cost_at HC2.out _ _ _ _ _ hr hf ((HS.out.mono HB10.out).mono hb) _ _ (by omega) hrow).mono ?_
              rintro e w'' ⟨he, hb'⟩
              exact ⟨he, hb'⟩
            refine wpHeld_const (by go_simp) ?_
            refine wpHeld_const (by go_simp) ?_
            refine wpHeld_const (by go_simp) ?_
            refine wpHeld_const (by go_simp) ?_
            refine wpHeld_const (by go_simp) ?_
            refine wpHeld_const (by go_simp) ?_
            refine wpHeld_const (by go_simp) ?_
            refine wpHeld_end (fun w11 hb11 hd => ?_)
            clear hd
            simp only [List.drop_succ_cons, List.drop_zero]
            simp only [Act.put, List.setIfInBounds_toArray, List.set_cons_succ, List.set_cons_zero]
            have HD11 := Lib.hid (bTrans HD10.out hb11)
            have HB11 := Lib.hid (bTrans HBX.out HD11.out)
            obtain ⟨bc11, bf11⟩ := bcell HB11.out
            have hz11 := HB11.out.size
            simp only [World.size_alloc] at hz11
            have hy11 : w.heap.size < w11.heap.size := by omega
            clear hb11 bc10 bf10 hz10 hy10 HB10 HD10
            obtain ⟨lo, hlo⟩ : ∃ lo, (if t < s then t else s) = lo := ⟨_, rfl⟩
            obtain ⟨hi, hhi⟩ : ∃ hi, (if s < t then t else s) = hi := ⟨_, rfl⟩
            have l0 : 0 ≤ lo := by rw [← hlo]; split <;> omega
            have l1 : hi ≤ 10000 := by rw [← hhi]; split <;> omega
            go_wp2_with fail
            refine (ringOf_any _ _ _ _ S _ ok (HS.out.mono HB11.out) _ d rfl hx1' hx2').mono ?_
            rintro e w12 ⟨rfl, hb12⟩
            clear hlo hhi l0 l1
            have HD12 := Lib.hid (bTrans HD11.out hb12)
            have HB12 := Lib.hid (bTrans HBX.out HD12.out)
            obtain ⟨bc12, bf12⟩ := bcell HB12.out
            have hz12 := HB12.out.size
            simp only [World.size_alloc] at hz12
            have hy12 : w.heap.size < w12.heap.size := by omega
            clear hb12 bc11 bf11 hz11 hy11 HB11 HD11
            go_wp2_with fail
            refine (works_any _ (HN.out.mono HB12.out)).mono ?_
            rintro e w13 ⟨rfl, hb13⟩
            go_wp2_with fail
            go_ret
            exact ⟨rfl, bTrans HB.out (bTrans HB12.out hb13)⟩
end Go.Proofs.YtbbnpneabmldnaaDoor
