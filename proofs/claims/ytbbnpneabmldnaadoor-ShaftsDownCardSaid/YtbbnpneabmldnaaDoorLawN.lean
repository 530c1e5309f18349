/- Walk: ShaftsDown returns true. Condition: the way that there is not lies in its variable; what a slice that came in is. -/
import Derived.Test.YtbbnpneabmldnaaDoorLawG
import Derived.Test.YtbbnpneabmldnaaDoorLawM
namespace Go.Proofs.YtbbnpneabmldnaaDoor
open Go.RowKit Go.Sort
theorem deepTo_le (S : Sh) (p : Int) : ∀ k, S.deepTo p k ≤ k
  | 0 => Nat.le_refl 0
  | k + 1 => by unfold Sh.deepTo; split; exact Nat.le_refl _; exact Nat.le_succ_of_le (deepTo_le S p k)
theorem deepTo_is (S : Sh) (p : Int) : ∀ k, 0 < S.deepTo p k → (S.first (S.deepTo p k)).cheapOut.2 = 0 ∧ (S.first (S.deepTo p k)).cheapOut.1 ≤ p
  | 0, h => by simp [Sh.deepTo] at h
  | k + 1, h => by
    unfold Sh.deepTo at h ⊢
    split
    · rename_i h1; exact h1
    · rename_i h1; rw [if_neg h1] at h; exact deepTo_is S p k h
theorem deepTo_no (S : Sh) (p : Int) : ∀ k d, S.deepTo p k < d → d ≤ k → ¬ ((S.first d).cheapOut.2 = 0 ∧ (S.first d).cheapOut.1 ≤ p)
  | 0, d, h1, h2 => by omega
  | k + 1, d, h1, h2 => by
    unfold Sh.deepTo at h1
    split at h1
    · omega
    · rename_i h3
      rcases Nat.eq_or_lt_of_le h2 with e | e
      · subst e; exact h3
      · exact deepTo_no S p k d h1 (by omega)
theorem deepTo_mono (S : Sh) {p p' : Int} (h : p ≤ p') (k : Nat) : S.deepTo p k ≤ S.deepTo p' k := by
  rcases Nat.lt_or_ge (S.deepTo p' k) (S.deepTo p k) with h1 | h1
  · obtain ⟨h2, h3⟩ := deepTo_is S p k (by omega)
    exact absurd ⟨h2, by omega⟩ (deepTo_no S p' k _ h1 (deepTo_le S p k))
  · exact h1
/-- what Cheap of the first d feet says, beside Deep -/
theorem down_cases {S : Sh} (ok : S.Ok) {p : Int} {d a : Nat} (hd : d ≤ S.nf) (h1 : 1 ≤ d) (ha : a = S.deepTo p S.nf) :
    ∃ n e, (S.first d).cheapOut = (n, e) ∧ ((d < a ∧ (e = 0 ∨ e = 3)) ∨ (d = a ∧ e = 0 ∧ n ≤ p) ∨ (a < d ∧ e = 3) ∨ (a < d ∧ e = 0 ∧ ¬ n ≤ p)) := by
  have he : ∃ n e, (S.first d).cheapOut = (n, e) ∧ (e = 0 ∨ e = 3) := by
    rcases out_cases (ok.first hd) with ⟨_, m, n, _, h, _⟩ | ⟨_, _, h⟩
    · exact ⟨n, 0, h, .inl rfl⟩
    · exact ⟨0, 3, h, .inr rfl⟩
  obtain ⟨n, e, h2, h3⟩ := he
  refine ⟨n, e, h2, ?_⟩
  rcases Nat.lt_trichotomy d a with h4 | h4 | h4
  · exact .inl ⟨h4, h3⟩
  · have := deepTo_is S p S.nf (by omega)
    rw [← ha, ← h4, h2] at this
    exact .inr (.inl ⟨h4, this.1, this.2⟩)
  · have := deepTo_no S p S.nf d (by omega) hd
    rw [h2] at this
    rcases h3 with rfl | rfl
    · exact .inr (.inr (.inr ⟨h4, rfl, fun h => this ⟨rfl, h⟩⟩))
    · exact .inr (.inr (.inl ⟨h4, rfl⟩))
theorem next_cases {S : Sh} (ok : S.Ok) {r n1 n2 : Int} (hin : inR r 0 (S.nr - 1) = true) (h12 : S.nf ≠ 12) (hm : (S.more r).Ok) :
    (S.Has → S.IsCheap n1 → (S.more r).Has → (S.more r).IsCheap n2 → S.nextOut r = (n2 - n1, 0)) ∧ (¬ S.Has ∨ ¬ (S.more r).Has → S.nextOut r = (0, 3)) := by
  rw [nextOut_rest ok hin h12]
  constructor
  · intro h1 h2 h3 h4
    rcases out_cases ok with ⟨_, _, a, _, e1, _, c1, _⟩ | ⟨hn, _⟩
    case inr => exact absurd h1 hn
    rcases out_cases hm with ⟨_, _, b, _, e2, _, c2, _⟩ | ⟨hn, _⟩
    case inr => exact absurd h3 hn
    rw [e1, e2, c1.uniq h2, c2.uniq h4]
    simp
  · intro h
    rcases out_cases ok with ⟨q, _, a, _, e1, _⟩ | ⟨_, _, e1⟩
    · rcases out_cases hm with ⟨q2, _⟩ | ⟨_, _, e2⟩
      · rcases h with h | h
        · exact absurd q h
        · exact absurd q2 h
      · rw [e1, e2]; simp
    · rw [e1]; simp
theorem Deep_at {S : Sh} {p x y : Int} (h : S.deepOut p = (x, y)) (Ar Af : Option Addr) (cr cf : Nat) (w : World) (hr : S.nr ≤ 9223372036854775807) (hf : S.nf ≤ 9223372036854775807) (hcap : S.nf ≤ cf) (hcf : cf ≤ 9223372036854775807) (hS : ShAt w Ar Af S) (hN : NoneAt w) :
    Calls Tryd.prog 45 #[.agg #[.slice Ar S.nr cr, .slice Af S.nf cf, .int .i64 S.deep, .int .i64 S.haul, .int .i64 S.rest], .int .i64 p] w fun e w' => e = .returned (.tuple #[.int .i64 x, .int .i64 y]) ∧ Below w.heap.size w w' := by
  have := Deep_any Ar Af cr cf S p w hr hf hcap hcf hS hN
  rw [h] at this
  exact this
theorem Cheap_at {S : Sh} {x y : Int} (h : S.cheapOut = (x, y)) (Ar Af : Option Addr) (cr cf : Nat) (w : World) (hr : S.nr ≤ 9223372036854775807) (hf : S.nf ≤ 9223372036854775807) (hS : ShAt w Ar Af S) (hN : NoneAt w) :
    Calls Tryd.prog 24 #[.agg #[.slice Ar S.nr cr, .slice Af S.nf cf, .int .i64 S.deep, .int .i64 S.haul, .int .i64 S.rest]] w fun e w' => e = .returned (.tuple #[.int .i64 x, .int .i64 y]) ∧ Below w.heap.size w w' := by
  have := Cheap_any Ar Af cr cf S w hr hf hS hN
  rw [h] at this
  exact this
theorem Next_at {S : Sh} {r x y : Int} (h : S.nextOut r = (x, y)) (Ar Af : Option Addr) (cr cf : Nat) (w : World) (hr : S.nr ≤ 9223372036854775807) (hf : S.nf ≤ 9223372036854775807) (hcap : S.nf ≤ cf) (hcf : cf ≤ 9223372036854775807) (hnil : Af = none → S.nf = 0 ∧ cf = 0) (hS : ShAt w Ar Af S) (hN : NoneAt w) :
    Calls Tryd.prog 35 #[.agg #[.slice Ar S.nr cr, .slice Af S.nf cf, .int .i64 S.deep, .int .i64 S.haul, .int .i64 S.rest], .int .i64 r] w fun e w' => e = .returned (.tuple #[.int .i64 x, .int .i64 y]) ∧ Below w.heap.size w w' := by
  have := Next_any Ar Af cr cf S r w hr hf hcap hcf hnil hS hN
  rw [h] at this
  exact this
set_option maxHeartbeats 8000000 in
set_option maxRecDepth 100000 in
theorem ShaftsDown_any (Ar Af : Option Addr) (cr cf : Nat) (S : Sh) (one other r : Int) (w : World) (hr : S.nr ≤ 9223372036854775807) (hf : S.nf ≤ 9223372036854775807) (hcap : S.nf ≤ cf) (hcf : cf ≤ 9223372036854775807) (hnil : Af = none → S.nf = 0 ∧ cf = 0) (hS : ShAt w Ar Af S) (hN : NoneAt w) :
    Calls Tryd.prog 10 #[.agg #[.slice Ar S.nr cr, .slice Af S.nf cf, .int .i64 S.deep, .int .i64 S.haul, .int .i64 S.rest], .agg #[.int .i64 one, .int .i64 other, .int .i64 r]] w fun e w' => e = .returned (.bool true) ∧ Below w.heap.size w w' := by
  have hb0 := bAlloc (bAlloc (Below.refl w.heap.size w) (.cells #[.slice Ar S.nr cr, .slice Af S.nf cf, .int .i64 S.deep, .int .i64 S.haul, .int .i64 S.rest] 25)) (.cells #[.int .i64 one, .int .i64 other, .int .i64 r] 56)
  have HS := Lib.hid (hS.mono hb0)
  have HN := Lib.hid (hN.mono hb0)
  have HB := Lib.hid hb0
  have HNIL := Lib.hid hnil
  clear hS hN hb0 hnil
  by_cases hgo : S.Ok ∧ inR one 0 9999 = true ∧ inR other 0 9999 = true
  · obtain ⟨ok, hi1, hi2⟩ := hgo
    have hnr := ok.nr
    have hnf := ok.nf
    obtain ⟨a0, a1⟩ := inR_iff.1 hi1
    obtain ⟨b0, b1⟩ := inR_iff.1 hi2
    obtain ⟨lo, hlo⟩ : ∃ lo, (if other < one then other else one) = lo := ⟨_, rfl⟩
    obtain ⟨hi, hhi⟩ : ∃ hi, (if one < other then other else one) = hi := ⟨_, rfl⟩
    have hl : inR lo 0 9999 = true := inR_t (by rw [← hlo]; split <;> omega)
    have hh : inR hi 0 9999 = true := inR_t (by rw [← hhi]; split <;> omega)
    have hlh : lo ≤ hi := by rw [← hlo, ← hhi]; split <;> split <;> omega
    obtain ⟨a, ha⟩ : ∃ a, a = S.deepTo lo S.nf := ⟨_, rfl⟩
    obtain ⟨b, hb⟩ : ∃ b, b = S.deepTo hi S.nf := ⟨_, rfl⟩
    have hab : a ≤ b := by rw [ha, hb]; exact deepTo_mono S hlh _
    have hbn : b ≤ S.nf := by rw [hb]; exact deepTo_le S hi _
    have HA := Lib.hid (show S.deepOut lo = ((a : Int), 0) by rw [deepOut_ok ok hl, ha])
    have HBB := Lib.hid (show S.deepOut hi = ((b : Int), 0) by rw [deepOut_ok ok hh, hb])
    have HDC := Lib.hid (fun d (hd : d ≤ S.nf) (h1 : 1 ≤ d) => down_cases ok hd h1 ha)
    have hq1 : decide ((a : Int) < 0) = false := decide_eq_false (by omega)
    have hq2 : decide (b < a) = false := decide_eq_false (by omega)
    have hq3 : decide (S.nf < b) = false := decide_eq_false (by omega)
    clear ha hb hl hh
    go_enter Tryd.func10, Tryd.ntmps10
    go_wp2_with fail
    refine (ready_any _ _ _ _ S _ hr hf HS.out).mono ?_
    rintro e w1 ⟨bt, rfl, hbb, hb1⟩
    obtain rfl : bt = true := hbb.2 ok
    have HB1 := Lib.hid hb1
    obtain ⟨bc1, bf1⟩ := bcell hb1
    have hz1 := hb1.size
    simp only [World.size_alloc] at hz1
    have hy1 : w.heap.size < w1.heap.size := by omega
    have hx1 : w.heap.size + 1 < w1.heap.size := by omega
    clear hb1 hbb
    go_wp2_with (go_at_call 48; refine (isMoney_any _ _).mono ?_; rintro e w1' ⟨rfl, rfl⟩)
    refine (Deep_at HA.out _ _ _ _ _ hr hf hcap hcf (HS.out.mono HB1.out) (HN.out.mono HB1.out)).mono ?_
    rintro e w2 ⟨rfl, hb2⟩
    have HB2 := Lib.hid (bTrans HB1.out hb2)
    obtain ⟨bc2, bf2⟩ := bcell HB2.out
    have hz2 := HB2.out.size
    simp only [World.size_alloc] at hz2
    have hy2 : w.heap.size < w2.heap.size := by omega
    have hx2 : w.heap.size + 1 < w2.heap.size := by omega
    clear hb2 bc1 bf1 hz1 hy1 hx1 HB1
    go_wp2_with fail
    refine (Deep_at HBB.out _ _ _ _ _ hr hf hcap hcf (HS.out.mono HB2.out) (HN.out.mono HB2.out)).mono ?_
    rintro e w3 ⟨rfl, hb3⟩
    have HB3 := Lib.hid (bTrans HB2.out hb3)
    obtain ⟨bc3, bf3⟩ := bcell HB3.out
    have hz3 := HB3.out.size
    simp only [World.size_alloc] at hz3
    have hy3 : w.heap.size < w3.heap.size := by omega
    have hx3 : w.heap.size + 1 < w3.heap.size := by omega
    clear hb3 bc2 bf2 hz2 hy2 hx2 HB2
    go_wp2_with fail
    clear bc3 bf3 hz3 hy3 hx3
    go_loopw [9, 10, 11] (fun i _ _ wr => ∃ d : Nat, 1 ≤ d ∧ d ≤ S.nf + 1 ∧ i = .int .i64 d ∧ Below ((w.alloc (.cells #[.slice Ar S.nr cr, .slice Af S.nf cf, .int .i64 S.deep, .int .i64 S.haul, .int .i64 S.rest] 25)).alloc (.cells #[.int .i64 one, .int .i64 other, .int .i64 r] 56)).heap.size ((w.alloc (.cells #[.slice Ar S.nr cr, .slice Af S.nf cf, .int .i64 S.deep, .int .i64 S.haul, .int .i64 S.rest] 25)).alloc (.cells #[.int .i64 one, .int .i64 other, .int .i64 r] 56)) wr) (fun i _ _ _ => S.nf + 1 - (intOf i).toNat)
    case atStart => exact ⟨1, Nat.le_refl _, by omega, rfl, HB3.out⟩
    case round =>
      obtain ⟨d, hd1, hd2, rfl, hbel⟩ := hrel
      have HB4 := Lib.hid hbel
      obtain ⟨bc4, bf4⟩ := bcell hbel
      have hz4 := hbel.size
      simp only [World.size_alloc] at hz4
      have hy4 : w.heap.size < wr.heap.size := by omega
      have hx4 : w.heap.size + 1 < wr.heap.size := by omega
      clear hbel HB3
      by_cases hlt : d ≤ S.nf
      · obtain ⟨n, g, hcd, hcs⟩ := HDC.out d hlt hd1
        have HCD := Lib.hid hcd
        clear hcd
        have hcs2 : (((d : Int) == (a : Int)) = false ∧ decide (a < d) = false ∧ ¬ a < d ∧ (g = 0 ∨ g = 3)) ∨ (((d : Int) == (a : Int)) = true ∧ decide (a < d) = false ∧ ¬ a < d ∧ g = 0 ∧ n ≤ lo) ∨ (((d : Int) == (a : Int)) = false ∧ decide (a < d) = true ∧ a < d ∧ g = 3) ∨ (((d : Int) == (a : Int)) = false ∧ decide (a < d) = true ∧ a < d ∧ g = 0 ∧ ¬ n ≤ lo) := by
          rcases hcs with ⟨h1, h2⟩ | ⟨h1, h2, h3⟩ | ⟨h1, h2⟩ | ⟨h1, h2, h3⟩
          · exact .inl ⟨by simp; omega, by simp; omega, by omega, h2⟩
          · exact .inr (.inl ⟨by simp; omega, by simp; omega, by omega, h2, h3⟩)
          · exact .inr (.inr (.inl ⟨by simp; omega, by simp; omega, by omega, h2⟩))
          · exact .inr (.inr (.inr ⟨by simp; omega, by simp; omega, by omega, h2, by omega⟩))
        clear hcs
        go_wp2_with fail
        refine (First_any _ _ _ _ S d _ (by omega) (by omega) hlt (HS.out.mono HB4.out)).mono ?_
        rintro e w5 ⟨⟨A5, p5, c5, d5, rfl, hS5, v1, v2⟩, hb5⟩
        have HS5 := Lib.hid hS5
        have HB5 := Lib.hid (bTrans HB4.out hb5)
        obtain ⟨bc5, bf5⟩ := bcell HB5.out
        have hz5 := HB5.out.size
        simp only [World.size_alloc] at hz5
        have hy5 : w.heap.size < w5.heap.size := by omega
        have hx5 : w.heap.size + 1 < w5.heap.size := by omega
        clear hb5 bc4 bf4 hz4 hy4 hx4 HB4 hS5
        go_wp2_with fail
        refine (Cheap_at HCD.out _ _ _ _ _ hr (Nat.le_trans hlt hf) HS5.out (HN.out.mono HB5.out)).mono ?_
        rintro e w6 ⟨rfl, hb6⟩
        have HB6 := Lib.hid (bTrans HB5.out hb6)
        obtain ⟨bc6, bf6⟩ := bcell HB6.out
        have hz6 := HB6.out.size
        simp only [World.size_alloc] at hz6
        have hy6 : w.heap.size < w6.heap.size := by omega
        have hx6 : w.heap.size + 1 < w6.heap.size := by omega
        clear hb6 bc5 bf5 hz5 hy5 hx5 HB5 HS5
        rcases hcs2 with ⟨e1, e2, e3, rfl | rfl⟩ | ⟨e1, e2, e3, rfl, e4⟩ | ⟨e1, e2, e3, rfl⟩ | ⟨e1, e2, e3, rfl, e4⟩
        all_goals
          go_wp2_with (go_at_call 43; refine (isKnown_any _ _).mono ?_; rintro e w7 ⟨rfl, rfl⟩)
          go_roundw
          case rel => exact ⟨d + 1, by omega, by omega, by go_num, HB6.out⟩
          case measure => simp [intOf]; omega
      · obtain rfl : d = S.nf + 1 := by omega
        by_cases hgo2 : inR r 0 ((S.nr : Int) - 1) = true ∧ S.nf ≠ 12
        · obtain ⟨hin, h12⟩ := hgo2
          have h13 : ((S.nf : Int) == 12) = false := beq_eq_false_iff_ne.2 (by omega)
          have hrr := inR_iff.1 hin
          have hmo := ok.more (r := r) (by omega) (by omega) (by omega)
          have HNC := Lib.hid (fun n1 n2 => next_cases ok (n1 := n1) (n2 := n2) hin h12 hmo)
          have HMO := Lib.hid hmo
          clear hmo h12 hrr
          go_wp2_with fail
          refine (isRock_any _ _ _ _ S _ _ hr).mono ?_
          rintro e w5 ⟨rfl, hb5⟩
          have HB5 := Lib.hid (bTrans HB4.out hb5)
          obtain ⟨bc5, bf5⟩ := bcell HB5.out
          have hz5 := HB5.out.size
          simp only [World.size_alloc] at hz5
          have hy5 : w.heap.size < w5.heap.size := by omega
          have hx5 : w.heap.size + 1 < w5.heap.size := by omega
          clear hb5 bc4 bf4 hz4 hy4 hx4 HB4
          go_wp2_with fail
          refine (lawBest_any _ _ _ _ S _ ok (HS.out.mono HB5.out) (HN.out.mono HB5.out)).mono ?_
          rintro e w6 ⟨⟨m1, n1, i1, rfl, hm1, hn1, hn1', hbest1⟩, hb6⟩
          have HBE1 := Lib.hid hbest1
          clear hbest1
          have HB6 := Lib.hid (bTrans HB5.out hb6)
          obtain ⟨bc6, bf6⟩ := bcell HB6.out
          have hz6 := HB6.out.size
          simp only [World.size_alloc] at hz6
          have hy6 : w.heap.size < w6.heap.size := by omega
          have hx6 : w.heap.size + 1 < w6.heap.size := by omega
          clear hb6 bc5 bf5 hz5 hy5 hx5 HB5
          go_wp2_with fail
          refine (More_any _ _ _ _ S r _ (by omega) (by omega) (HS.out.mono HB6.out)).mono ?_
          rintro e w7 ⟨⟨A7, p7, c7, d7, rfl, hS7, v1, v2⟩, hb7⟩
          have HS7 := Lib.hid hS7
          clear hS7
          have HB7 := Lib.hid (bTrans HB6.out hb7)
          obtain ⟨bc7, bf7⟩ := bcell HB7.out
          have hz7 := HB7.out.size
          simp only [World.size_alloc] at hz7
          have hy7 : w.heap.size < w7.heap.size := by omega
          have hx7 : w.heap.size + 1 < w7.heap.size := by omega
          clear hb7 bc6 bf6 hz6 hy6 hx6 HB6
          go_wp2_with fail
          refine (lawBest_any _ _ _ _ (S.more r) _ HMO.out HS7.out (HN.out.mono HB7.out)).mono ?_
          rintro e w8 ⟨⟨m2, n2, i2, rfl, hm2, hn2, hn2', hbest2⟩, hb8⟩
          have HBE2 := Lib.hid hbest2
          clear hbest2
          have HB8 := Lib.hid (bTrans HB7.out hb8)
          obtain ⟨bc8, bf8⟩ := bcell HB8.out
          have hz8 := HB8.out.size
          simp only [World.size_alloc] at hz8
          have hy8 : w.heap.size < w8.heap.size := by omega
          have hx8 : w.heap.size + 1 < w8.heap.size := by omega
          clear hb8 bc7 bf7 hz7 hy7 hx7 HB7
          go_wp2_with fail
          have hnext : (i1 = true ∧ i2 = true ∧ S.nextOut r = (n2 - n1, 0)) ∨ (i1 = false ∧ S.nextOut r = (0, 3)) ∨ (i1 = true ∧ i2 = false ∧ S.nextOut r = (0, 3)) := by
            obtain ⟨h1, h2⟩ := HNC.out n1 n2
            rcases HBE1.out with ⟨q1, q2, _, q3⟩ | ⟨q1, q2, _⟩
            · rcases HBE2.out with ⟨k1, k2, _, k3⟩ | ⟨k1, k2, _⟩
              · exact .inl ⟨q1, k1, h1 q2 q3 k2 k3⟩
              · exact .inr (.inr ⟨q1, k1, h2 (.inr k2)⟩)
            · exact .inr (.inl ⟨q1, h2 (.inl q2)⟩)
          clear HBE1 HBE2
          rcases hnext with ⟨rfl, rfl, hnx⟩ | ⟨rfl, hnx⟩ | ⟨rfl, rfl, hnx⟩
          all_goals
            have HNX := Lib.hid hnx
            clear hnx
            refine (Next_at HNX.out _ _ _ _ _ hr hf hcap hcf HNIL.out (HS.out.mono HB8.out) (HN.out.mono HB8.out)).mono ?_
            rintro e w9 ⟨rfl, hb9⟩
            have HB9 := Lib.hid (bTrans HB8.out hb9)
            obtain ⟨bc9, bf9⟩ := bcell HB9.out
            have hz9 := HB9.out.size
            simp only [World.size_alloc] at hz9
            have hy9 : w.heap.size < w9.heap.size := by omega
            have hx9 : w.heap.size + 1 < w9.heap.size := by omega
            clear hb9 bc8 bf8 hz8 hy8 hx8 HB8
            go_wp2_with (go_at_call 43; refine (isKnown_any _ _).mono ?_; rintro e w9' ⟨rfl, rfl⟩)
            refine (works_any _ (HN.out.mono HB9.out)).mono ?_
            rintro e w10 ⟨rfl, hb10⟩
            go_wp2_with fail
            go_ret
            exact ⟨rfl, bTrans HB.out (bTrans HB9.out hb10)⟩
        · have hcase : inR r 0 ((S.nr : Int) - 1) = false ∨ (inR r 0 ((S.nr : Int) - 1) = true ∧ ((S.nf : Int) == 12) = true) := by
            cases e : inR r 0 ((S.nr : Int) - 1)
            · exact .inl rfl
            · refine .inr ⟨rfl, ?_⟩
              by_cases h : S.nf = 12
              · simp; omega
              · exact absurd ⟨e, h⟩ hgo2
          clear hgo2
          rcases hcase with hin | ⟨hin, h13⟩
          all_goals
            go_wp2_with fail
            refine (isRock_any _ _ _ _ S _ _ hr).mono ?_
            rintro e w5 ⟨rfl, hb5⟩
            have HB5 := Lib.hid (bTrans HB4.out hb5)
            obtain ⟨bc5, bf5⟩ := bcell HB5.out
            have hz5 := HB5.out.size
            simp only [World.size_alloc] at hz5
            have hy5 : w.heap.size < w5.heap.size := by omega
            have hx5 : w.heap.size + 1 < w5.heap.size := by omega
            clear hb5 bc4 bf4 hz4 hy4 hx4 HB4
            go_wp2_with fail
            refine (works_any _ (HN.out.mono HB5.out)).mono ?_
            rintro e w6 ⟨rfl, hb6⟩
            go_wp2_with fail
            go_ret
            exact ⟨rfl, bTrans HB.out (bTrans HB5.out hb6)⟩
  · have hcase : ¬ S.Ok ∨ (S.Ok ∧ inR one 0 9999 = false) ∨ (S.Ok ∧ inR one 0 9999 = true ∧ inR other 0 9999 = false) := by
      by_cases ok : S.Ok
      · cases e : inR one 0 9999
        · exact .inr (.inl ⟨ok, rfl⟩)
        · cases e2 : inR other 0 9999
          · exact .inr (.inr ⟨ok, rfl, rfl⟩)
          · exact absurd ⟨ok, e, e2⟩ hgo
      · exact .inl ok
    clear hgo
    rcases hcase with hno | ⟨ok, h1⟩ | ⟨ok, h1, h2⟩
    · go_enter Tryd.func10, Tryd.ntmps10
      go_wp2_with fail
      refine (ready_any _ _ _ _ S _ hr hf HS.out).mono ?_
      rintro e w1 ⟨bt, rfl, hbb, hb1⟩
      obtain rfl : bt = false := by
        cases bt
        · rfl
        · exact absurd (hbb.1 rfl) hno
      clear hbb
      go_wp2_with fail
      refine (works_any _ (HN.out.mono hb1)).mono ?_
      rintro e w2 ⟨rfl, hb2⟩
      go_wp2_with fail
      go_ret
      exact ⟨rfl, bTrans HB.out (bTrans hb1 hb2)⟩
    all_goals
      go_enter Tryd.func10, Tryd.ntmps10
      go_wp2_with fail
      refine (ready_any _ _ _ _ S _ hr hf HS.out).mono ?_
      rintro e w1 ⟨bt, rfl, hbb, hb1⟩
      obtain rfl : bt = true := hbb.2 ok
      have HB1 := Lib.hid hb1
      obtain ⟨bc1, bf1⟩ := bcell hb1
      have hz1 := hb1.size
      simp only [World.size_alloc] at hz1
      have hy1 : w.heap.size < w1.heap.size := by omega
      have hx1 : w.heap.size + 1 < w1.heap.size := by omega
      clear hb1 hbb
      go_wp2_with (go_at_call 48; refine (isMoney_any _ _).mono ?_; rintro e w1' ⟨rfl, rfl⟩)
      refine (works_any _ (HN.out.mono HB1.out)).mono ?_
      rintro e w2 ⟨rfl, hb2⟩
      go_wp2_with fail
      go_ret
      exact ⟨rfl, bTrans HB.out (bTrans HB1.out hb2)⟩
end Go.Proofs.YtbbnpneabmldnaaDoor
