/- The walk of prices: the least and the greatest price of a shaft that is dug to a depth between two. Condition: a valid shaft that is as deep. -/
import Derived.Test.YtdboicnlkbnbnaaDoorShC
import Derived.Test.YtdboicnlkbnbnaaDoorLvI
namespace Go.Proofs.YtdboicnlkbnbnaaDoor
open Go.RowKit Go.Sort
/-- the prices of the depths from a on, below k -/
structure PrRel (S : Sh) (a k : Nat) (mn mx : Int) (is : Bool) : Prop where
  none : is = false → ∀ d, a ≤ d → d < k → (S.first d).cheapOut.2 ≠ 0
  some : is = true → (∀ d, a ≤ d → d < k → (S.first d).cheapOut.2 = 0 → mn ≤ (S.first d).cheapOut.1 ∧ (S.first d).cheapOut.1 ≤ mx) ∧ (∃ d, a ≤ d ∧ d < k ∧ (S.first d).cheapOut.2 = 0 ∧ (S.first d).cheapOut.1 = mn) ∧ (∃ d, a ≤ d ∧ d < k ∧ (S.first d).cheapOut.2 = 0 ∧ (S.first d).cheapOut.1 = mx)
theorem PrRel.start (S : Sh) (a : Nat) (mn mx : Int) : PrRel S a a mn mx false := ⟨fun _ d h1 h2 => by omega, fun h => by cases h⟩
theorem PrRel.skip {S : Sh} {a k : Nat} {mn mx : Int} {is : Bool} (h : PrRel S a k mn mx is) (he : (S.first k).cheapOut.2 ≠ 0) : PrRel S a (k + 1) mn mx is := by
  refine ⟨fun hi d h1 h2 => ?_, fun hi => ?_⟩
  · rcases Nat.lt_or_ge d k with h3 | h3
    · exact h.none hi d h1 h3
    · obtain rfl : d = k := by omega
      exact he
  · obtain ⟨p, ⟨d, q1, q2, q3⟩, ⟨d', r1, r2, r3⟩⟩ := h.some hi
    refine ⟨fun d h1 h2 h4 => ?_, ⟨d, q1, by omega, q3⟩, ⟨d', r1, by omega, r3⟩⟩
    rcases Nat.lt_or_ge d k with h3 | h3
    · exact p d h1 h3 h4
    · obtain rfl : d = k := by omega
      exact absurd h4 he
theorem PrRel.first {S : Sh} {a k : Nat} {mn mx : Int} (h : PrRel S a k mn mx false) (hk : a ≤ k) (he : (S.first k).cheapOut.2 = 0) : PrRel S a (k + 1) (S.first k).cheapOut.1 (S.first k).cheapOut.1 true := by
  refine ⟨fun h => (by cases h), fun _ => ⟨fun d h1 h2 h4 => ?_, ⟨k, hk, by omega, he, rfl⟩, ⟨k, hk, by omega, he, rfl⟩⟩⟩
  rcases Nat.lt_or_ge d k with h3 | h3
  · exact absurd h4 (h.none rfl d h1 h3)
  · obtain rfl : d = k := by omega
    exact ⟨Int.le_refl _, Int.le_refl _⟩
theorem PrRel.more {S : Sh} {a k : Nat} {mn mx : Int} (h : PrRel S a k mn mx true) (hk : a ≤ k) (he : (S.first k).cheapOut.2 = 0) : PrRel S a (k + 1) (min mn (S.first k).cheapOut.1) (max mx (S.first k).cheapOut.1) true := by
  obtain ⟨p, ⟨d, q1, q2, q3, q4⟩, ⟨d', r1, r2, r3, r4⟩⟩ := h.some rfl
  refine ⟨fun h => (by cases h), fun _ => ⟨fun d h1 h2 h4 => ?_, ?_, ?_⟩⟩
  · rcases Nat.lt_or_ge d k with h3 | h3
    · have := p d h1 h3 h4
      omega
    · obtain rfl : d = k := by omega
      omega
  · rcases Int.le_total mn (S.first k).cheapOut.1 with h1 | h1
    · exact ⟨d, q1, by omega, q3, by omega⟩
    · exact ⟨k, hk, by omega, he, by omega⟩
  · rcases Int.le_total mx (S.first k).cheapOut.1 with h1 | h1
    · exact ⟨k, hk, by omega, he, by omega⟩
    · exact ⟨d', r1, by omega, r3, by omega⟩
theorem cheap_err {S : Sh} (ok : S.Ok) : S.cheapOut.2 = 0 ∨ S.cheapOut.2 = 3 := by
  by_cases h : S.waysOf ltP S.nf 0 = noWay
  · rw [cheapOut_none ok h]; exact .inr rfl
  · rw [cheapOut_some ok h]; exact .inl rfl
/-- what prices hands back -/
def PricesOut (S : Sh) (a b : Nat) (e : Ending) : Prop := ∃ mn mx is, e = .returned (.tuple #[.agg #[.int .i64 mn, .int .i64 mx], .bool is, .bool false]) ∧ PrRel S a (b + 1) mn mx is
theorem BoxAt.put2 {w : World} {a : Nat} {x y : Value} (h : BoxAt w a [x, y]) (u v : Value) : BoxAt ((w.setCell ⟨a, 0, none⟩ u).setCell ⟨a, 1, none⟩ v) a [u, v] :=
  BoxAt.two (by simpa [World.setCell] using h.lt) ((World.cell?_setCell_other _ _ _ _ (fun e => by injection e with _ e; omega)).trans (World.cell?_setCell_same _ _ _ (h.cell 0 _ rfl)))
    (World.cell?_setCell_same _ _ _ ((World.cell?_setCell_other _ _ _ _ (fun e => by injection e with _ e; omega)).trans (h.cell 1 _ rfl)))
theorem frz_set {w : World} {a : Nat} (h : ∀ o, w.frozen? ⟨a, o, none⟩ = false) (p : Addr) (v : Value) : ∀ o, (w.setCell p v).frozen? ⟨a, o, none⟩ = false := fun o => by rw [World.frozen?_setCell]; exact h o
set_option maxHeartbeats 4000000 in
set_option maxRecDepth 100000 in
theorem prices_any (Ar Af : Option Addr) (cr cf : Nat) (S : Sh) (a b : Nat) (w : World) (ok : S.Ok) (hr : S.nr ≤ 1000) (hf : S.nf ≤ 1000) (hb : b ≤ S.nf) (hab : a ≤ b) (hS : ShAt w Ar Af S) (hN : NoneAt w) :
    Calls Tryd.prog 12 #[.agg #[.slice Ar S.nr cr, .slice Af S.nf cf, .int .i64 S.deep, .int .i64 S.haul, .int .i64 S.rest], .agg #[.int .i64 a, .int .i64 b]] w fun e w' => PricesOut S a b e ∧ Below w.heap.size w w' := by
  have hb0 := bAlloc (bAlloc (Below.refl w.heap.size w) (.cells #[.slice Ar S.nr cr, .slice Af S.nf cf, .int .i64 S.deep, .int .i64 S.haul, .int .i64 S.rest] 29)) (.cells #[.int .i64 a, .int .i64 b] 43)
  have HS := Lib.hid (hS.mono hb0)
  have HN := Lib.hid (hN.mono hb0)
  have HB := Lib.hid hb0
  have HOK := Lib.hid ok
  clear hS hb0 hN ok
  go_enter Tryd.func12, Tryd.ntmps12
  go_wp2_with fail
  go_loopw [5, 7] (fun s i wr => ∃ (k : Nat) (mn mx : Int) (is : Bool), s = .bool is ∧ i = .int .i64 k ∧ a ≤ k ∧ k ≤ b + 1 ∧ PrRel S a k mn mx is ∧ BoxAt wr (w.heap.size + 2) [.int .i64 mn, .int .i64 mx] ∧ (∀ o, wr.frozen? ⟨w.heap.size + 2, o, none⟩ = false) ∧ Below ((w.alloc (.cells #[.slice Ar S.nr cr, .slice Af S.nf cf, .int .i64 S.deep, .int .i64 S.haul, .int .i64 S.rest] 29)).alloc (.cells #[.int .i64 a, .int .i64 b] 43)).heap.size ((w.alloc (.cells #[.slice Ar S.nr cr, .slice Af S.nf cf, .int .i64 S.deep, .int .i64 S.haul, .int .i64 S.rest] 29)).alloc (.cells #[.int .i64 a, .int .i64 b] 43)) wr) (fun _ i _ => b + 1 - (intOf i).toNat)
  case atStart =>
    exact ⟨a, 0, 0, false, rfl, rfl, Nat.le_refl _, by omega, PrRel.start S a 0 0, BoxAt.two (by simp) (by simp [go_sem]) (by simp [go_sem]), fun o => by simp [go_sem], bAlloc (Below.refl _ _) _⟩
  case round =>
    obtain ⟨k, mn, mx, is, rfl, rfl, hak, hkb, hp, hX, hfz, hbel⟩ := hrel
    have HP := Lib.hid hp
    have HX := Lib.hid hX
    have HF := Lib.hid hfz
    have HL3 := Lib.hid hbel
    have b0 := hX.cell 0 _ rfl
    have b1 := hX.cell 1 _ rfl
    have hx3 := hX.lt
    obtain ⟨bc3, bf3⟩ := bcell hbel
    have hz3 := hbel.size
    simp only [World.size_alloc] at hz3
    have hy3 : w.heap.size < wr.heap.size := by omega
    have hv3 : w.heap.size + 1 < wr.heap.size := by omega
    clear hp hX hfz hbel
    by_cases hlt : k ≤ b
    · have k1 : (k : Int) ≤ (b : Int) := by omega
      go_wp2_with fail
      refine (First_any _ _ _ _ S k _ hr hf (by omega) (HS.out.mono HL3.out)).mono ?_
      rintro e w4 ⟨⟨A4, p4, cr4, cf4, rfl, hS4, hn4, hm4⟩, hb4⟩
      have HS4 := Lib.hid hS4
      have HB4 := Lib.hid hb4
      clear hS4 hb4
      have hk : k ≤ S.nf := by omega
      have okk : (S.first k).Ok := HOK.out.first hk
      have herr := cheap_err okk
      obtain ⟨n0, n1⟩ := cheapOut_bd okk
      obtain ⟨n, hn⟩ : ∃ n, (S.first k).cheapOut.1 = n := ⟨_, rfl⟩
      obtain ⟨ec, hec⟩ : ∃ ec, (S.first k).cheapOut.2 = ec := ⟨_, rfl⟩
      rw [hn] at n0 n1
      rw [hec] at herr
      have HNN := Lib.hid hn
      have HEC := Lib.hid hec
      clear hn hec okk
      go_wp2_with fail
      refine (Cheap_any _ _ _ _ (S.first k) _ (show S.nr ≤ _ by omega) (show k ≤ _ by omega) HS4.out ((HN.out.mono HL3.out).mono HB4.out)).mono ?_
      rintro e w5 ⟨he, hb5⟩
      rw [HNN.out, HEC.out] at he
      subst he
      have hb5 := bTrans HB4.out hb5
      have HL5 := Lib.hid (bTrans HL3.out hb5)
      have HX5 := Lib.hid (HX.out.mono hb5)
      have HF5 := Lib.hid (fun o => (hb5.frozen (p := ⟨w.heap.size + 2, o, none⟩) HX.out.lt).trans (HF.out o))
      obtain ⟨bc5, bf5⟩ := bcell HL5.out
      have hz5 := HL5.out.size
      simp only [World.size_alloc] at hz5
      have hy5 : w.heap.size < w5.heap.size := by omega
      have hv5 : w.heap.size + 1 < w5.heap.size := by omega
      have c0 := HX5.out.cell 0 _ rfl
      have c1 := HX5.out.cell 1 _ rfl
      have f0 := HF5.out 0
      have f1 := HF5.out 1
      have hx5 := HX5.out.lt
      clear hb5 bc3 bf3 hz3 hy3 hv3 b0 b1 hx3
      rcases herr with rfl | rfl
      · cases is
        · have HR := Lib.hid (HP.out.first hak HEC.out)
          rw [HNN.out] at HR
          go_wp2_with fail
          go_roundw
          case rel => exact ⟨k + 1, n, n, true, rfl, by go_num, by omega, by omega, HR.out, ((HX5.out.put2 (.int .i64 n) (.int .i64 n)).put2 (.int .i64 n) (.int .i64 n)), (frz_set (frz_set (frz_set (frz_set HF5.out _ _) _ _) _ _) _ _), (Below.setCell (p := ⟨w.heap.size + 1 + 1, 1, none⟩) (Below.setCell (p := ⟨w.heap.size + 1 + 1, 0, none⟩) (Below.setCell (p := ⟨w.heap.size + 1 + 1, 1, none⟩) (Below.setCell (p := ⟨w.heap.size + 1 + 1, 0, none⟩) HL5.out (by simp) (.int .i64 n)) (by simp) (.int .i64 n)) (by simp) (.int .i64 n)) (by simp) (.int .i64 n))⟩
          case measure => simp [intOf]; omega
        · obtain ⟨m2, hm2⟩ : ∃ m2, (if n < mn then n else mn) = m2 := ⟨_, rfl⟩
          obtain ⟨x2, hx2⟩ : ∃ x2, (if mx < n then n else mx) = x2 := ⟨_, rfl⟩
          have HR := HP.out.more hak HEC.out
          rw [HNN.out, show min mn n = m2 by rw [← hm2]; split <;> omega, show max mx n = x2 by rw [← hx2]; split <;> omega] at HR
          have HR := Lib.hid HR
          go_wp2_with fail
          go_roundw
          case rel => exact ⟨k + 1, m2, x2, true, rfl, by go_num, by omega, by omega, HR.out, (HX5.out.put2 (.int .i64 m2) (.int .i64 x2)), (frz_set (frz_set HF5.out _ _) _ _), (Below.setCell (p := ⟨w.heap.size + 1 + 1, 1, none⟩) (Below.setCell (p := ⟨w.heap.size + 1 + 1, 0, none⟩) HL5.out (by simp) (.int .i64 m2)) (by simp) (.int .i64 x2))⟩
          case measure => simp [intOf]; omega
      · have HR := Lib.hid (HP.out.skip (by rw [HEC.out]; decide))
        go_wp2_with fail
        go_roundw
        case rel =>
          first
          | exact ⟨k + 1, mn, mx, is, rfl, by go_num, by omega, by omega, HR.out, HX5.out, HF5.out, HL5.out⟩
          | ((repeat apply Exists.intro)
             refine ⟨⟨k + 1, mn, mx, is, rfl, ?_, by omega, by omega, HR.out, HX5.out, HF5.out, HL5.out⟩, rfl⟩
             go_num)
        case measure => simp [intOf]; omega
    · obtain rfl : k = b + 1 := by omega
      have k1 : ¬ ((b : Int) + 1 : Int) ≤ (b : Int) := by omega
      have f0 := HF.out 0
      have f1 := HF.out 1
      go_wp2_with fail
      refine bodyPost_ret (v := .tuple #[.agg #[.int .i64 mn, .int .i64 mx], .bool is, .bool false]) (by simp [results, Tryd.results12, go_sem, *]) rfl ?_
      have hl3 := HL3.out
      have hbb := HB.out
      have hbc := bTrans hbb hl3
      refine ⟨⟨mn, mx, is, rfl, HP.out⟩, ?_⟩
      exact bSet (p := ⟨w.heap.size + 1 + 1, 1, none⟩) (by show w.heap.size ≤ w.heap.size + 1 + 1; omega) (bSet (p := ⟨w.heap.size + 1 + 1, 0, none⟩) (by show w.heap.size ≤ w.heap.size + 1 + 1; omega) hbc _) _
end Go.Proofs.YtdboicnlkbnbnaaDoor
