/- Parts joined. -/
import Derived.Test.YtchhodikgllgnaaDoorNQI
import Derived.Test.YtchhodikgllgnaaDoorNQG
import Derived.Test.YtchhodikgllgnaaDoorNQH
import Derived.Test.YtchhodikgllgnaaDoorNQF
set_option linter.unusedSimpArgs false
set_option linter.unusedVariables false
/- Walks of slices.IndexFunc and slices.DeleteFunc where just one element is hit. Condition: just one is. -/
namespace Go.Proofs.YtchhodikgllgnaaDoor
open Go.RowKit Go.Sort Go.Shelf
set_option maxHeartbeats 2000000 in
set_option maxRecDepth 100000 in
theorem index_one (A : Option Addr) (l : List Tp) (k0 c f : Nat) (cs : Array Value) (w : World) (hk0 : k0 < l.length) (hn : l.length ≤ 100000) (hr : RowAt w A (tstE.cells l)) (hcf : Enters f)
    (hf : ∀ i, i < l.length → ∀ w', Below w.heap.size w w' → Calls Tryd.prog f (#[.agg #[.int .i64 (tget l i).1, .int .i64 (tget l i).2]] ++ cs) w' fun e w'' => e = .returned (.bool (decide (i = k0))) ∧ Below w'.heap.size w' w'') :
    Calls Tryd.prog 130 #[.slice A l.length c, .func (.func f) #[] cs] w fun e w' => e = .returned (.int .i64 k0) ∧ Below w.heap.size w w' := by
  have HR := Lib.hid hr
  have HF := Lib.hid hf
  obtain ⟨n, hln⟩ : ∃ n, l.length = n := ⟨_, rfl⟩
  rw [hln] at hk0 hn ⊢
  have HLN := Lib.hid hln
  unfold Enters at hcf
  clear hr hf hln
  go_enter Tryd.func130, Tryd.ntmps130
  go_wp2_with fail
  go_loopw [5, 8] (fun _ i wr => ∃ k : Nat, k ≤ k0 ∧ i = .int .i64 k ∧ Below w.heap.size w wr) (fun _ i _ => n - (intOf i).toNat)
  case atStart => exact ⟨0, Nat.zero_le _, rfl, Below.refl _ _⟩
  case round =>
    obtain ⟨k, hk, rfl, hbel⟩ := hrel
    have HL := Lib.hid hbel
    have hkn : k < n := by omega
    obtain ⟨b, o, rfl, hbs, c0, c1⟩ := SliceE.tst (HR.out.mono hbel) (tget_some (l := l) (i := k) (by rw [HLN.out]; exact hkn))
    obtain ⟨p, hp⟩ : ∃ p, (tget l k).1 = p := ⟨_, rfl⟩
    obtain ⟨q, hq⟩ : ∃ q, (tget l k).2 = q := ⟨_, rfl⟩
    rw [hp] at c0
    rw [hq] at c1
    have k1 : (k : Int) < (n : Int) := by omega
    by_cases hkk : k = k0
    · have HCC := Lib.hid (show Calls Tryd.prog f (#[.agg #[.int .i64 p, .int .i64 q]] ++ cs) wr fun e w'' => e = .returned (.bool true) ∧ Below wr.heap.size wr w'' by
        have := HF.out k (by rw [HLN.out]; exact hkn) wr hbel
        rw [hp, hq, decide_eq_true hkk] at this
        exact this)
      have HKK := Lib.hid hkk
      clear hbel hp hq hkk
      go_wp2_with fail
      refine HCC.out.mono ?_
      rintro e w4 ⟨rfl, hb4⟩
      have HL4 := Lib.hid (bTrans HL.out hb4)
      clear hb4
      go_wp2_with fail
      go_ret
      exact ⟨by rw [← HKK.out]; rfl, HL4.out⟩
    · have HCC := Lib.hid (show Calls Tryd.prog f (#[.agg #[.int .i64 p, .int .i64 q]] ++ cs) wr fun e w'' => e = .returned (.bool false) ∧ Below wr.heap.size wr w'' by
        have := HF.out k (by rw [HLN.out]; exact hkn) wr hbel
        rw [hp, hq, decide_eq_false hkk] at this
        exact this)
      have hk2 : k + 1 ≤ k0 := by omega
      clear hbel hp hq hkk
      go_wp2_with fail
      refine HCC.out.mono ?_
      rintro e w4 ⟨rfl, hb4⟩
      have HL4 := Lib.hid (bTrans HL.out hb4)
      clear hb4
      go_wp2_with fail
      go_roundw
      case rel => exact ⟨k + 1, by omega, by go_num, HL4.out⟩
      case measure => simp [intOf]; omega
theorem clear_one (ty : TypeId) (b o c : Nat) (w : World) (u v : Value) (h0 : w.cell? ⟨b, o, none⟩ = some u) (h1 : w.cell? ⟨b, o + 1, none⟩ = some v) (hf : ∀ o, w.frozen? ⟨b, o, none⟩ = false) :
    (Builtin.clear_ #[34] ty #[.slice (some ⟨b, o, none⟩) 1 c]).run Tryd.prog w = .ok (.tuple #[]) ((w.setCell ⟨b, o, none⟩ (.int .i64 0)).setCell ⟨b, o + 1, none⟩ (.int .i64 0)) := by
  have h2 : (w.setCell ⟨b, o, none⟩ (.int .i64 0)).cell? ⟨b, o + 1, none⟩ = some v := (World.cell?_setCell_other _ _ _ _ (fun e => by injection e with _ e; omega)).trans h1
  simp [Builtin.clear_, run_underlying Tryd.underlying34, Tryd.zeroValue27, Builtin.zeroCells, storeCells, go_sem, h0, h1, h2, hf]
/-- what stands where, once a hit has been written over -/
def valD (l : List Tp) (k0 d r : Nat) : Tp := if r < k0 then tget l r else if r < d then tget l (r + 1) else tget l r
/-- a block of tests -/
structure RowV (w : World) (g n : Nat) (v : Nat → Tp) : Prop where
  lt : g < w.heap.size
  cell : ∀ r, r < n → w.cell? ⟨g, r * 2, none⟩ = some (.int .i64 (v r).1) ∧ w.cell? ⟨g, r * 2 + 1, none⟩ = some (.int .i64 (v r).2)
  frz : ∀ o, w.frozen? ⟨g, o, none⟩ = false
theorem RowV.mono {w w' : World} {g n : Nat} {v : Nat → Tp} (h : RowV w g n v) (hb : Below w.heap.size w w') : RowV w' g n v :=
  ⟨Nat.lt_of_lt_of_le h.lt hb.size, fun r hr => ⟨(hb.cell (p := ⟨g, r * 2, none⟩) h.lt).trans (h.cell r hr).1, (hb.cell (p := ⟨g, r * 2 + 1, none⟩) h.lt).trans (h.cell r hr).2⟩, fun o => (hb.frozen (p := ⟨g, o, none⟩) h.lt).trans (h.frz o)⟩
theorem RowV.put {w : World} {g n : Nat} {v v' : Nat → Tp} (h : RowV w g n v) {d : Nat} (hd : d < n) {x : Tp} (h1 : v' d = x) (h2 : ∀ r, r ≠ d → v' r = v r) : RowV ((w.setCell ⟨g, d * 2, none⟩ (.int .i64 x.1)).setCell ⟨g, d * 2 + 1, none⟩ (.int .i64 x.2)) g n v' := by
  obtain ⟨c0, c1⟩ := h.cell d hd
  have o : ∀ (w : World) (i j : Nat) (u : Value), i ≠ j → (w.setCell ⟨g, j, none⟩ u).cell? ⟨g, i, none⟩ = w.cell? ⟨g, i, none⟩ := fun w i j u hij => World.cell?_setCell_other _ _ _ _ (fun e => by injection e with _ e; exact hij e.symm)
  refine ⟨by simpa [World.setCell] using h.lt, fun r hr => ?_, fun o => by rw [World.frozen?_setCell, World.frozen?_setCell]; exact h.frz o⟩
  by_cases e : r = d
  · subst e
    rw [h1]
    refine ⟨?_, ?_⟩
    · rw [o _ _ _ _ (by omega)]
      exact World.cell?_setCell_same _ _ _ c0
    · exact World.cell?_setCell_same _ _ _ ((o _ _ _ _ (by omega)).trans c1)
  · rw [h2 r e]
    obtain ⟨e0, e1⟩ := h.cell r hr
    exact ⟨by rw [o _ _ _ _ (by omega), o _ _ _ _ (by omega)]; exact e0, by rw [o _ _ _ _ (by omega), o _ _ _ _ (by omega)]; exact e1⟩
theorem OwnE.rowV {w : World} {base g c : Nat} {l : List Tp} (h : OwnE tstE w base (.slice (some ⟨g, 0, none⟩) l.length c) l) (h0 : 0 < l.length) : RowV w g l.length (tget l) ∧ base ≤ g ∧ l.length ≤ c ∧ c ≤ 9223372036854775807 := by
  obtain ⟨A, c', e1, hr⟩ := h.read
  simp only [Value.slice.injEq, true_and] at e1
  obtain ⟨rfl, rfl⟩ := e1
  rcases h.2 with ⟨h1, h2⟩ | ⟨g', cap, cur, e2, h1, h2, h3, h4, _⟩
  · cases h1
  · simp only [Value.slice.injEq, Option.some.injEq, Addr.mk.injEq, true_and, and_true] at e2
    obtain ⟨rfl, rfl⟩ := e2
    refine ⟨⟨(Array.getElem?_eq_some_iff.1 h2).1, fun r hr' => ?_, fun o => by simp [World.frozen?, h2]⟩, h1, h3, by unfold maxLen at h4; omega⟩
    obtain ⟨b, o, e3, _, c0, c1⟩ := SliceE.tst hr (tget_some hr')
    simp only [Option.some.injEq, Addr.mk.injEq, and_true] at e3
    obtain ⟨rfl, rfl⟩ := e3
    rw [Nat.zero_add] at c0 c1
    exact ⟨c0, c1⟩
theorem cells_inv {l : List Tp} {j : Nat} {u : Value} (h : (tstE.cells l)[j]? = some u) : ∃ r, r < l.length ∧ ((j = r * 2 ∧ u = .int .i64 (tget l r).1) ∨ (j = r * 2 + 1 ∧ u = .int .i64 (tget l r).2)) := by
  have hlen := Elem.cells_len tstG l
  have hj : j < (tstE.cells l).length := by
    rcases Nat.lt_or_ge j (tstE.cells l).length with h' | h'
    · exact h'
    · rw [List.getElem?_eq_none h'] at h; cases h
  rw [hlen] at hj
  have hj2 : j < l.length * 2 := hj
  refine ⟨j / 2, by omega, ?_⟩
  have hr : j / 2 < l.length := by omega
  rcases Nat.mod_two_eq_zero_or_one j with h2 | h2
  · have e : j = j / 2 * 2 := by omega
    have := Elem.cells_get tstG (l := l) (j := j / 2) 0 (tget_some hr) (by decide)
    rw [show j / 2 * tstE.size + 0 = j by show j / 2 * 2 + 0 = j; omega, h] at this
    exact .inl ⟨e, Option.some.inj this⟩
  · have e : j = j / 2 * 2 + 1 := by omega
    have := Elem.cells_get tstG (l := l) (j := j / 2) 1 (tget_some hr) (by decide)
    rw [show j / 2 * tstE.size + 1 = j by show j / 2 * 2 + 1 = j; omega, h] at this
    exact .inr ⟨e, Option.some.inj this⟩
theorem RowV.row {w : World} {g n : Nat} {v : Nat → Tp} {l : List Tp} (h : RowV w g n v) (hl : l.length ≤ n) (he : ∀ r, r < l.length → tget l r = v r) : RowAt w (some ⟨g, 0, none⟩) (tstE.cells l) := by
  refine .inr ⟨g, 0, rfl, h.lt, fun j u hj => ?_⟩
  obtain ⟨r, hr, ⟨rfl, rfl⟩ | ⟨rfl, rfl⟩⟩ := cells_inv hj
  · rw [Nat.zero_add, he r hr]; exact (h.cell r (by omega)).1
  · rw [Nat.zero_add, he r hr]; exact (h.cell r (by omega)).2
theorem erase_get {l : List Tp} {k0 r : Nat} (hk : k0 < l.length) (hr : r < (l.eraseIdx k0).length) : tget (l.eraseIdx k0) r = valD l k0 (l.length - 1) r := by
  rw [List.length_eraseIdx, if_pos hk] at hr
  unfold tget valD
  rw [List.getElem?_eraseIdx]
  split
  · rfl
  · first | rfl | (rw [if_pos hr]; rfl)
set_option maxHeartbeats 4000000 in
set_option maxRecDepth 100000 in
theorem delete_one (l : List Tp) (k0 g c f base : Nat) (cs : Array Value) (w : World) (hk0 : k0 < l.length) (hn : l.length ≤ 100000) (hown : OwnE tstE w base (.slice (some ⟨g, 0, none⟩) l.length c) l) (hbase : base ≤ w.heap.size) (hcf : Enters f)
    (hf : ∀ i, i < l.length → ∀ w', Below base w w' → w.heap.size ≤ w'.heap.size → Calls Tryd.prog f (#[.agg #[.int .i64 (tget l i).1, .int .i64 (tget l i).2]] ++ cs) w' fun e w'' => e = .returned (.bool (decide (i = k0))) ∧ Below w'.heap.size w' w'') :
    Calls Tryd.prog 111 #[.slice (some ⟨g, 0, none⟩) l.length c, .func (.func f) #[] cs] w fun e w' => (e = .returned (.slice (some ⟨g, 0, none⟩) (l.length - 1) c) ∧ RowAt w' (some ⟨g, 0, none⟩) (tstE.cells (l.eraseIdx k0))) ∧ Below base w w' ∧ w.heap.size ≤ w'.heap.size := by
  obtain ⟨hrv, hgb, hnc, hcm⟩ := hown.rowV (by omega)
  have HV := Lib.hid hrv
  have HF := Lib.hid hf
  have HI := Lib.hid (index_one (some ⟨g, 0, none⟩) l k0 c f cs w hk0 hn (by obtain ⟨A, c', e, h⟩ := hown.read; simp only [Value.slice.injEq] at e; obtain ⟨rfl, _, _⟩ := e; exact h) hcf (fun i hi w' hb => hf i hi w' (hb.mono hbase) hb.size))
  obtain ⟨n, hln⟩ : ∃ n, l.length = n := ⟨_, rfl⟩
  rw [hln] at hk0 hn hnc HI HV HF ⊢
  have HLN := Lib.hid hln
  unfold Enters at hcf
  have n1 : IntKind.i64.wrap ((k0 : Int) + 1) = (k0 : Int) + 1 := IntWalk.i64_in _ (by omega)
  have n2 : ((k0 : Int) == -1) = false := by simp
  clear hf hln hown hrv
  go_enter Tryd.func111, Tryd.ntmps111
  go_wp2_with fail
  refine HI.out.mono ?_
  rintro e w1 ⟨rfl, hb1⟩
  have HV1 := Lib.hid (show RowV w1 g n (valD l k0 k0) from by
    have := HV.out.mono hb1
    refine ⟨this.lt, fun r hr => ?_, this.frz⟩
    have h1 := this.cell r hr
    have e : valD l k0 k0 r = tget l r := by unfold valD; split <;> rfl
    rw [e]
    exact h1)
  have HB1 := Lib.hid (hb1.mono hbase)
  have hs1 := hb1.size
  clear hb1
  go_wp2_with fail
  go_loopw [5, 6] (fun d j wr => ∃ k : Nat, d = .int .i64 k ∧ j = .int .i64 ((k : Int) + 1) ∧ k0 ≤ k ∧ k < n ∧ RowV wr g n (valD l k0 k) ∧ Below base w wr ∧ w.heap.size ≤ wr.heap.size) (fun d _ _ => n - (intOf d).toNat)
  case atStart => exact ⟨k0, rfl, rfl, Nat.le_refl _, hk0, HV1.out, HB1.out, hs1⟩
  case round =>
    obtain ⟨k, rfl, rfl, hk1, hk2, hrv, hbel, hsz⟩ := hrel
    have HV2 := Lib.hid hrv
    have HB2 := Lib.hid hbel
    have hltg := hrv.lt
    have k0' : (0 : Int) ≤ (k : Int) := by omega
    have e0 : (0 : Int) ≤ (k : Int) + 1 := by omega
    have e7 : ((k : Int) + 1).toNat = k + 1 := by omega
    by_cases hkn : k + 1 < n
    · have c0 := (hrv.cell (k + 1) hkn).1
      have c1 := (hrv.cell (k + 1) hkn).2
      rw [show valD l k0 k (k + 1) = tget l (k + 1) by unfold valD; rw [if_neg (by omega), if_neg (by omega)]] at c0 c1
      have d0 := (hrv.cell k hk2).1
      have d1 := (hrv.cell k hk2).2
      have d2 := hrv.frz
      obtain ⟨p, hp⟩ : ∃ p, (tget l (k + 1)).1 = p := ⟨_, rfl⟩
      obtain ⟨q, hq⟩ : ∃ q, (tget l (k + 1)).2 = q := ⟨_, rfl⟩
      rw [hp] at c0
      rw [hq] at c1
      have HX := Lib.hid (show tget l (k + 1) = (p, q) from Prod.ext hp hq)
      have k1 : (k : Int) + 1 < (n : Int) := by omega
      have k3 : (k : Int) < (n : Int) := by omega
      have e1 : IntKind.i64.wrap ((k : Int) + 1) = (k : Int) + 1 := IntWalk.i64_in _ (by omega)
      have e2 : IntKind.i64.wrap ((k : Int) + 1 + 1) = (k : Int) + 1 + 1 := IntWalk.i64_in _ (by omega)
      have hb4 := bAlloc (Below.refl wr.heap.size wr) (.cells #[.int .i64 p, .int .i64 q] 27)
      have HCC := Lib.hid (show Calls Tryd.prog f (#[.agg #[.int .i64 p, .int .i64 q]] ++ cs) (wr.alloc (.cells #[.int .i64 p, .int .i64 q] 27)) fun e w'' => e = .returned (.bool false) ∧ Below (wr.alloc (.cells #[.int .i64 p, .int .i64 q] 27)).heap.size (wr.alloc (.cells #[.int .i64 p, .int .i64 q] 27)) w'' by
        have := HF.out (k + 1) (by rw [HLN.out] at *; exact hkn) _ (HB2.out.trans (hb4.mono (by omega))) (by simp; omega)
        rw [hp, hq, decide_eq_false (by omega)] at this
        exact this)
      clear hp hq hrv hbel n1
      go_wp2_with fail
      refine HCC.out.mono ?_
      rintro e w4 ⟨rfl, hb5⟩
      have hb6 := bTrans hb4 hb5
      have HV4 := Lib.hid (HV2.out.mono hb6)
      have HB4 := Lib.hid (HB2.out.trans (hb6.mono (by omega)))
      have hs4 := hb6.size
      have u0 := HV4.out.lt
      have u1 := (HV4.out.cell k hk2).1
      have u2 := (HV4.out.cell k hk2).2
      have u3 := HV4.out.frz
      have v0 := (hb5.cell (p := ⟨wr.heap.size, 0, none⟩) (by simp)).trans (show _ = some (.int .i64 p) by simp [go_sem])
      have v1 := (hb5.cell (p := ⟨wr.heap.size, 1, none⟩) (by simp)).trans (show _ = some (.int .i64 q) by simp [go_sem])
      have hs5 := hb5.size
      simp only [World.size_alloc] at hs5
      have v2 : wr.heap.size < w4.heap.size := by omega
      clear hb4 hb5 hb6 c0 c1 d0 d1 d2 hs5
      go_wp2_with fail
      go_roundw
      case rel =>
        refine ⟨k + 1, by go_num, by go_num, by omega, by omega, HV4.out.put hk2 (x := (p, q)) ?_ (fun r hr => ?_), Below.setCell (p := ⟨g, k * 2 + 1, none⟩) (Below.setCell (p := ⟨g, k * 2, none⟩) HB4.out hgb _) hgb _, by simp [World.setCell]; omega⟩
        · unfold valD; rw [if_neg (by omega), if_pos (by omega), HX.out]
        · unfold valD
          by_cases h1 : r < k0
          · rw [if_pos h1, if_pos h1]
          · rw [if_neg h1, if_neg h1]
            by_cases h2 : r < k
            · rw [if_pos h2, if_pos (by omega)]
            · rw [if_neg h2, if_neg (by omega)]
      case measure => simp [intOf]; omega
    · obtain rfl : n = k + 1 := by omega
      have d0 := (hrv.cell k hk2).1
      have d1 := (hrv.cell k hk2).2
      have hcl := fun ty => clear_one ty g (k * 2) (c - k) wr _ _ d0 d1 hrv.frz
      have HRW := Lib.hid (show RowV ((wr.setCell ⟨g, k * 2, none⟩ (.int .i64 0)).setCell ⟨g, k * 2 + 1, none⟩ (.int .i64 0)) g k (valD l k0 k) from by
        have h1 := (HV2.out.put (v' := fun r => if r = k then (0, 0) else valD l k0 k r) hk2 (x := (0, 0)) (by simp) (fun r hr => by simp [hr]))
        exact ⟨h1.lt, fun r hr => by have := h1.cell r (by omega); rw [if_neg (by omega)] at this; exact this, h1.frz⟩)
      have HER := Lib.hid (show RowAt ((wr.setCell ⟨g, k * 2, none⟩ (.int .i64 0)).setCell ⟨g, k * 2 + 1, none⟩ (.int .i64 0)) (some ⟨g, 0, none⟩) (tstE.cells (l.eraseIdx k0)) from
        HRW.out.row (by rw [List.length_eraseIdx, if_pos (by rw [HLN.out]; omega), HLN.out]; simp) (fun r hr => by rw [erase_get (by rw [HLN.out]; omega) hr, HLN.out]; rfl))
      have k3 : (k : Int) ≤ ((k + 1 : Nat) : Int) := by omega
      have k4 : k < c := by omega
      clear hrv hbel d0 d1 n1
      go_wp2_with fail
      go_ret
      refine ⟨⟨rfl, HER.out⟩, Below.setCell (p := ⟨g, k * 2 + 1, none⟩) (Below.setCell (p := ⟨g, k * 2, none⟩) HB2.out hgb _) hgb _, by simp [World.setCell]; omega⟩
end Go.Proofs.YtchhodikgllgnaaDoor
/- Struct values compared; the walks of Decide's closures of the package quarrels. Conditions: a valid town, worlds and tests of it. -/
namespace Go.Proofs.YtchhodikgllgnaaDoor
open Go.RowKit Go.Sort Go.Shelf
/-- whether two pairs of numbers are equal (a Bool that the walk does not open) -/
def sameT (a b a' b' : Int) : Bool := decide (a = a' ∧ b = b')
theorem sameT_nat (p q i j : Nat) : sameT p q i j = decide ((p, q) = (i, j)) := by
  unfold sameT
  rw [decide_eq_decide]
  simp
  omega
theorem eqlT (w : World) (a b a' b' : Int) : (binOp .eql 27 (.agg #[.int .i64 a, .int .i64 b]) (.agg #[.int .i64 a', .int .i64 b'])).run Tryd.prog w = .ok (.bool (sameT a b a' b')) w := by
  by_cases h1 : a = a'
  · by_cases h2 : b = b'
    · subst h1 h2; simp [go_sem, sameT]
    · have : ¬ b = b' := h2
      simp [go_sem, sameT, h2, this]
  · have : ¬ a = a' := h1
    simp [go_sem, sameT, h1, this]
theorem neqT (w : World) (a b a' b' : Int) : (binOp .neq 27 (.agg #[.int .i64 a, .int .i64 b]) (.agg #[.int .i64 a', .int .i64 b'])).run Tryd.prog w = .ok (.bool (!sameT a b a' b')) w := by
  by_cases h1 : a = a'
  · by_cases h2 : b = b'
    · subst h1 h2; simp [go_sem, sameT]
    · have : ¬ b = b' := h2
      simp [go_sem, sameT, h2, this]
  · have : ¬ a = a' := h1
    simp [go_sem, sameT, h1, this]
attribute [go_sem ↓] eqlT neqT
theorem decide1_any (p q i j a : Nat) (w : World) (ha : a < w.heap.size) (h0 : w.cell? ⟨a, 0, none⟩ = some (.int .i64 i)) (h1 : w.cell? ⟨a, 1, none⟩ = some (.int .i64 j)) :
    Calls Tryd.prog 112 #[.agg #[.int .i64 p, .int .i64 q], .pointer (some ⟨a, 0, none⟩)] w fun e w' => e = .returned (.bool (decide ((p, q) = (i, j)))) ∧ Below w.heap.size w w' := by
  go_enter Tryd.func112, Tryd.ntmps112
  go_wp2_with fail
  go_ret
  exact ⟨by rw [← sameT_nat]; rfl, bAlloc (Below.refl _ _) _⟩
set_option maxHeartbeats 2000000 in
theorem decide2_any (Aw Af : Option Addr) (cw cf C mp s a d e0 : Nat) (t : Qt) (p q i j : Nat) (law : Int) (w : World) (hc : CourtAt w C Aw Af cw cf t s mp) (ok : t.Ok) (hp : (p : Int) < t.wells) (hq : (q : Int) < t.wells) (hi : i < t.nw) (hj : j < t.nw) (hT : QAt w Aw Af t)
    (ha : a < w.heap.size) (hca : w.cell? ⟨a, 0, none⟩ = some (.pointer (some ⟨C, 0, none⟩))) (hd : d < w.heap.size) (hcd : w.cell? ⟨d, 0, none⟩ = some (.int .i64 p)) (hce : w.cell? ⟨d, 1, none⟩ = some (.int .i64 q)) (he : e0 < w.heap.size) (hcf : w.cell? ⟨e0, 0, none⟩ = some (.int .i64 law)) :
    Calls Tryd.prog 113 #[.int .i64 i, .int .i64 j, .pointer (some ⟨a, 0, none⟩), .pointer (some ⟨d, 0, none⟩), .pointer (some ⟨e0, 0, none⟩)] w fun e w' => e = .returned (.bool (decide (law < t.F i (p, q)) != decide (law < t.F j (p, q)))) ∧ Below w.heap.size w w' := by
  have HCT := Lib.hid hc
  have HT := Lib.hid hT
  have HOK := Lib.hid ok
  have HP := Lib.hid hp
  have HQ := Lib.hid hq
  obtain ⟨u, hu⟩ : ∃ u, t.F i (p, q) = u := ⟨_, rfl⟩
  obtain ⟨v, hv⟩ : ∃ v, t.F j (p, q) = v := ⟨_, rfl⟩
  have HC1 := Lib.hid (fun (w' : World) (hb : Below w.heap.size w w') => (hu ▸ shows_any Aw Af cw cf C mp s t p q i w' (HCT.out.mono hb) HOK.out HP.out HQ.out hi (HT.out.mono hb) : Calls Tryd.prog 114 #[.pointer (some ⟨C, 0, none⟩), .agg #[.int .i64 p, .int .i64 q], .int .i64 i] w' fun e w'' => e = .returned (.int .i64 u) ∧ Below w'.heap.size w' w''))
  have HC2 := Lib.hid (fun (w' : World) (hb : Below w.heap.size w w') => (hv ▸ shows_any Aw Af cw cf C mp s t p q j w' (HCT.out.mono hb) HOK.out HP.out HQ.out hj (HT.out.mono hb) : Calls Tryd.prog 114 #[.pointer (some ⟨C, 0, none⟩), .agg #[.int .i64 p, .int .i64 q], .int .i64 j] w' fun e w'' => e = .returned (.int .i64 v) ∧ Below w'.heap.size w' w''))
  rw [hu, hv]
  obtain ⟨b1, hb1⟩ : ∃ b, decide (law < u) = b := ⟨_, rfl⟩
  obtain ⟨b2, hb2⟩ : ∃ b, decide (law < v) = b := ⟨_, rfl⟩
  rw [hb1, hb2]
  clear hu hv hc hT ok hp hq
  go_enter Tryd.func113, Tryd.ntmps113
  go_wp2_with fail
  refine wp_region_quiet_below (by kernel_rfl) (by kernel_rfl) ?_
  repeat (go_big_quiet_step (((first | (go_at_call 114; with_reducible exact Calls.regrown_of (HC1.out _ (below_regrown _ _ _))) | (go_at_call 114; with_reducible exact Calls.regrown_of (HC2.out _ (below_regrown _ _ _)))))))
  refine wpQuiet_nil ?_
  intro w4 hw4
  have HB4 := Lib.hid (below_of_regrown hw4)
  clear hw4
  go_wp2_with fail
  go_ret
  exact ⟨rfl, HB4.out⟩
end Go.Proofs.YtchhodikgllgnaaDoor
/- Walks of the law 05: SameTests. Conditions: lengths are Go's. -/
namespace Go.Proofs.YtchhodikgllgnaaDoor
open Go.RowKit Go.Sort
set_option maxHeartbeats 2000000 in
set_option maxRecDepth 100000 in
theorem sameTests_any (A B : Option Addr) (c c' : Nat) (l l' : List Tp) (w : World) (h1 : l.length ≤ 100000) (h2 : l'.length ≤ 100000) (hA : RowAt w A (tstE.cells l)) (hB : RowAt w B (tstE.cells l')) :
    Calls Tryd.prog 24 #[.slice A l.length c, .slice B l'.length c'] w fun e w' => e = .returned (.bool (decide (l = l'))) ∧ Below w.heap.size w w' := by
  have HA := Lib.hid hA
  have HB := Lib.hid hB
  clear hA hB
  obtain ⟨n, hn⟩ : ∃ n, l.length = n := ⟨_, rfl⟩
  obtain ⟨m, hm⟩ : ∃ m, l'.length = m := ⟨_, rfl⟩
  rw [hn] at h1 ⊢
  rw [hm] at h2 ⊢
  have HN := Lib.hid hn
  have HM := Lib.hid hm
  clear hn hm
  by_cases he : n = m
  · subst he
    go_enter Tryd.func24, Tryd.ntmps24
    go_wp2_with fail
    go_loopw [5] (fun i wr => ∃ k : Nat, k ≤ n ∧ i = .int .i64 k ∧ (∀ k' : Nat, k' < k → l[k']? = l'[k']?) ∧ Below w.heap.size w wr) (fun i _ => n - (intOf i).toNat)
    case atStart => exact ⟨0, Nat.zero_le _, rfl, fun k' hk' => absurd hk' (Nat.not_lt_zero _), Below.refl _ _⟩
    case round =>
      obtain ⟨k, hk, rfl, hall, hbel⟩ := hrel
      have HL := Lib.hid hbel
      have HALL := Lib.hid hall
      clear hall hbel
      by_cases hlt : k < n
      · obtain ⟨x, hx⟩ : ∃ x, l[k]? = some x := ⟨_, List.getElem?_eq_getElem (by rw [HN.out]; exact hlt)⟩
        obtain ⟨y, hy⟩ : ∃ y, l'[k]? = some y := ⟨_, List.getElem?_eq_getElem (by rw [HM.out]; exact hlt)⟩
        obtain ⟨b, o, rfl, hb, c0, c1⟩ := SliceE.tst (HA.out.mono HL.out) hx
        obtain ⟨b2, o2, rfl, hb2, d0, d1⟩ := SliceE.tst (HB.out.mono HL.out) hy
        obtain ⟨p, q⟩ := x
        obtain ⟨p2, q2⟩ := y
        have k1 : (k : Int) < (n : Int) := by omega
        have k0 : (0 : Int) ≤ (k : Int) := by omega
        obtain ⟨bs, hbs⟩ : ∃ bs, sameT p q p2 q2 = bs := ⟨_, rfl⟩
        have HBS := Lib.hid (show decide (((p, q) : Tp) = (p2, q2)) = bs by rw [← sameT_nat, hbs])
        have HX := Lib.hid hx
        have HY := Lib.hid hy
        clear hx hy
        cases bs
        · have HNE := Lib.hid (show decide (l = l') = false by
            refine decide_eq_false fun e => ?_
            subst e
            have := HX.out.symm.trans HY.out
            injection this with this
            exact absurd this (of_decide_eq_false HBS.out))
          go_wp2_with fail
          refine wp_region_quiet_below (by kernel_rfl) (by kernel_rfl) ?_
          repeat (go_big_quiet_step ((fail)))
          refine wpQuiet_nil ?_
          intro w3 hw3
          have HB3 := Lib.hid (bTrans HL.out (below_of_regrown hw3))
          clear hw3
          go_wp2_with fail
          go_ret
          exact ⟨ret_bool (by rw [HNE.out]), HB3.out⟩
        · have HAX := Lib.hid (show ∀ k' : Nat, k' < k + 1 → l[k']? = l'[k']? from fun k' hk' => by
            rcases Nat.lt_or_ge k' k with h | h
            · exact HALL.out k' h
            · obtain rfl : k' = k := by omega
              rw [HX.out, HY.out, of_decide_eq_true HBS.out])
          go_wp2_with fail
          refine wp_region_quiet_below (by kernel_rfl) (by kernel_rfl) ?_
          repeat (go_big_quiet_step ((fail)))
          refine wpQuiet_nil ?_
          intro w3 hw3
          have HB3 := Lib.hid (bTrans HL.out (below_of_regrown hw3))
          clear hw3
          go_wp2_with fail
          go_roundw
          case rel =>
            first
            | exact ⟨k + 1, by omega, by go_num, HAX.out, HB3.out⟩
            | ((repeat apply Exists.intro)
               refine ⟨⟨k + 1, by omega, ?_, HAX.out, HB3.out⟩, rfl⟩
               go_num)
          case measure => simp [intOf]; omega
      · obtain rfl : k = n := by omega
        have HEQ := Lib.hid (show decide (l = l') = true by
          refine decide_eq_true (List.ext_getElem? fun i => ?_)
          rcases Nat.lt_or_ge i k with h | h
          · exact HALL.out i h
          · rw [List.getElem?_eq_none (by rw [HN.out]; exact h), List.getElem?_eq_none (by rw [HM.out]; exact h)])
        go_wp2_with fail
        go_ret
        exact ⟨ret_bool (by rw [HEQ.out]), HL.out⟩
  · have g0 : ((n : Int) == (m : Int)) = false := by simp; omega
    have g1 : ((n : Int) != (m : Int)) = true := by simp; omega
    have HNE := Lib.hid (show decide (l = l') = false from decide_eq_false fun e => he (by rw [← HN.out, ← HM.out, e]))
    clear he
    go_enter Tryd.func24, Tryd.ntmps24
    go_wp2_with fail
    go_ret
    exact ⟨ret_bool (by rw [HNE.out]), Below.refl _ _⟩
end Go.Proofs.YtchhodikgllgnaaDoor
/- Walks of the reference 05: Tests. Condition: at most 4 wells. -/
namespace Go.Proofs.YtchhodikgllgnaaDoor
open Go.RowKit Go.Sort
set_option maxHeartbeats 4000000 in
set_option maxRecDepth 100000 in
theorem tests5_any (Aw Af : Option Addr) (cw cf m : Nat) (t : Qt) (w : World) (hm : t.wells = (m : Int)) (m4 : m ≤ 4) :
    Calls Tryd.prog 81 #[.agg #[.int .i64 t.wells, .slice Aw t.nw cw, .slice Af t.nf cf]] w fun e w' => (∃ v, e = .returned v ∧ OwnE tstE w' w.heap.size v t.tests) ∧ Below w.heap.size w w' := by
  have HTE := Lib.hid (show t.tests = testsL m by unfold Qt.tests; rw [hm]; rfl)
  have HB := Lib.hid (bAlloc (Below.refl w.heap.size w) (.cells #[.int .i64 m, .slice Aw t.nw cw, .slice Af t.nf cf] 25))
  rw [HTE.out, hm]
  clear hm
  go_enter Tryd.func81, Tryd.ntmps81
  go_wp2_with fail
  go_loopw [3, 4] (fun v i wr => ∃ p : Nat, p ≤ m ∧ i = .int .i64 p ∧ OwnE tstE wr (w.heap.size + 1) v (testsTo m p 0) ∧ Below (w.heap.size + 1) (w.alloc (.cells #[.int .i64 m, .slice Aw t.nw cw, .slice Af t.nf cf] 25)) wr) (fun _ i _ => m - (intOf i).toNat)
  case atStart => exact ⟨0, Nat.zero_le _, rfl, OwnE.nil _ _ _, by have := Below.refl (w.alloc (.cells #[.int .i64 m, .slice Aw t.nw cw, .slice Af t.nf cf] 25)).heap.size (w.alloc (.cells #[.int .i64 m, .slice Aw t.nw cw, .slice Af t.nf cf] 25)); simpa using this⟩
  case round =>
    obtain ⟨p, hp, rfl, hown, hbel⟩ := hrel
    have HO := Lib.hid hown
    have HL := Lib.hid hbel
    have y0 := (hbel.cell (p := ⟨w.heap.size, 0, none⟩) (by show w.heap.size < w.heap.size + 1; omega)).trans (show _ = some (.int .i64 m) by simp [go_sem])
    have hz := hbel.size
    simp only [World.size_alloc] at hz
    have hy : w.heap.size < wr.heap.size := by omega
    clear hown hbel
    by_cases hpm : p < m
    · have p1 : (p : Int) < (m : Int) := by omega
      go_wp2_with fail
      clear y0 hz hy
      go_loopw [3, 5] (fun v i wx => ∃ q : Nat, q ≤ m ∧ i = .int .i64 q ∧ OwnE tstE wx (w.heap.size + 1) v (testsTo m p q) ∧ Below (w.heap.size + 1) (w.alloc (.cells #[.int .i64 m, .slice Aw t.nw cw, .slice Af t.nf cf] 25)) wx) (fun _ i _ => m - (intOf i).toNat)
      case atStart => exact ⟨0, Nat.zero_le _, rfl, HO.out, HL.out⟩
      case round =>
        obtain ⟨q, hq, rfl, hown, hbel⟩ := hrel
        have HO2 := Lib.hid hown
        have HL2 := Lib.hid hbel
        have y0 := (hbel.cell (p := ⟨w.heap.size, 0, none⟩) (by show w.heap.size < w.heap.size + 1; omega)).trans (show _ = some (.int .i64 m) by simp [go_sem])
        have hz := hbel.size
        simp only [World.size_alloc] at hz
        have hy : w.heap.size < wr.heap.size := by omega
        clear hown hbel
        by_cases hqm : q < m
        · have q1 : (q : Int) < (m : Int) := by omega
          have HLE := Lib.hid (show (testsTo m p q).length ≤ 100000 by rw [testsTo_len]; have : p * m ≤ 4 * 4 := Nat.mul_le_mul (by omega) m4; omega)
          go_wp2_with (at_builtin; refine wpList_snocE tstG _ rfl (Operand.tmp 18) (Operand.tmp 22) rfl (w.heap.size + 1) _ (testsTo m p q) (p, q) rfl ?q1 wr.heap.size rfl ?q2 HLE.out ?q4 ?_)
          case q1 => exact HO2.out.mono (bAlloc (Below.refl _ _) _)
          case q2 =>
            intro a u hu
            match a, hu with
            | 0, hu =>
              obtain rfl : Value.int .i64 p = u := by simpa [tstE] using hu
              simp [go_sem]
            | 1, hu =>
              obtain rfl : Value.int .i64 q = u := by simpa [tstE] using hu
              simp [go_sem]
          case q4 => simp; omega
          intro v' w5 hown5 hb5 _ _
          have HO5 := Lib.hid ((testsTo_snoc m p q) ▸ hown5)
          have HL5 := Lib.hid (hb5 (w.heap.size + 1) _ (Nat.le_refl _) (HL2.out.trans ((bAlloc (Below.refl wr.heap.size wr) _).mono (by omega))))
          clear hown5 hb5
          go_wp2_with fail
          go_roundw
          case rel =>
            first
            | exact ⟨q + 1, by omega, by go_num, HO5.out, HL5.out⟩
            | ((repeat apply Exists.intro)
               refine ⟨⟨q + 1, by omega, ?_, HO5.out, HL5.out⟩, rfl⟩
               go_num)
          case measure => simp [intOf]; omega
        · obtain rfl : q = m := by omega
          have HO5 := Lib.hid ((testsTo_row q p) ▸ HO2.out)
          go_wp2_with fail
          go_roundw
          case rel =>
            first
            | exact ⟨p + 1, by omega, by go_num, HO5.out, HL2.out⟩
            | ((repeat apply Exists.intro)
               refine ⟨⟨p + 1, by omega, ?_, HO5.out, HL2.out⟩, rfl⟩
               go_num)
          case measure => simp [intOf]; omega
    · obtain rfl : p = m := by omega
      have HO5 := Lib.hid ((testsTo_all p) ▸ HO.out)
      go_wp2_with fail
      go_ret
      exact ⟨⟨_, rfl, HO5.out.lower (by omega)⟩, bTrans HB.out (by have := HL.out; simpa using this)⟩
end Go.Proofs.YtchhodikgllgnaaDoor
/- Walks of the reference 05: Apart. Conditions: a valid town, a test and worlds of it. -/
namespace Go.Proofs.YtchhodikgllgnaaDoor
open Go.RowKit Go.Sort
set_option maxHeartbeats 2000000 in
theorem apart5_any (Aw Af : Option Addr) (cw cf : Nat) (t : Qt) (p q i j : Nat) (w : World) (ok : t.Ok) (hT : QAt w Aw Af t) (hp : (p : Int) < t.wells) (hq : (q : Int) < t.wells) (hi : i < t.nw) (hj : j < t.nw) :
    Calls Tryd.prog 120 #[.agg #[.int .i64 t.wells, .slice Aw t.nw cw, .slice Af t.nf cf], .agg #[.int .i64 p, .int .i64 q], .int .i64 i, .int .i64 j] w fun e w' => e = .returned (.bool (t.apart (p, q) i j)) ∧ Below w.heap.size w w' := by
  have hb0 := bAlloc (bAlloc (Below.refl w.heap.size w) (.cells #[.int .i64 t.wells, .slice Aw t.nw cw, .slice Af t.nf cf] 25)) (.cells #[.int .i64 p, .int .i64 q] 27)
  have HB := Lib.hid hb0
  obtain ⟨u, hu⟩ : ∃ u, t.F (i : Int) (p, q) = u := ⟨_, rfl⟩
  obtain ⟨v, hv⟩ : ∃ v, t.F (j : Int) (p, q) = v := ⟨_, rfl⟩
  have HF1 := Lib.hid (fun (w' : World) (hb : Below ((w.alloc (.cells #[.int .i64 t.wells, .slice Aw t.nw cw, .slice Af t.nf cf] 25)).alloc (.cells #[.int .i64 p, .int .i64 q] 27)).heap.size ((w.alloc (.cells #[.int .i64 t.wells, .slice Aw t.nw cw, .slice Af t.nf cf] 25)).alloc (.cells #[.int .i64 p, .int .i64 q] 27)) w') => (hu ▸ fallAt_F t i p q ▸ fall5_any Aw Af cw cf t i p q w' ok hi hp hq ((hT.mono hb0).mono hb) : Calls Tryd.prog 63 #[.agg #[.int .i64 t.wells, .slice Aw t.nw cw, .slice Af t.nf cf], .int .i64 i, .int .i64 p, .int .i64 q] w' fun e w'' => e = .returned (.int .i64 u) ∧ Below w'.heap.size w' w''))
  have HF2 := Lib.hid (fun (w' : World) (hb : Below ((w.alloc (.cells #[.int .i64 t.wells, .slice Aw t.nw cw, .slice Af t.nf cf] 25)).alloc (.cells #[.int .i64 p, .int .i64 q] 27)).heap.size ((w.alloc (.cells #[.int .i64 t.wells, .slice Aw t.nw cw, .slice Af t.nf cf] 25)).alloc (.cells #[.int .i64 p, .int .i64 q] 27)) w') => (hv ▸ fallAt_F t j p q ▸ fall5_any Aw Af cw cf t j p q w' ok hj hp hq ((hT.mono hb0).mono hb) : Calls Tryd.prog 63 #[.agg #[.int .i64 t.wells, .slice Aw t.nw cw, .slice Af t.nf cf], .int .i64 j, .int .i64 p, .int .i64 q] w' fun e w'' => e = .returned (.int .i64 v) ∧ Below w'.heap.size w' w''))
  have HR := Lib.hid (show t.apart (p, q) i j = (u != v) by unfold Qt.apart; rw [hu, hv])
  clear hb0 hT ok hu hv hp hq hi hj
  go_enter Tryd.func120, Tryd.ntmps120
  go_wp2_with fail
  refine wp_region_quiet_below (by kernel_rfl) (by kernel_rfl) ?_
  repeat (go_big_quiet_step (((first | (go_at_call 63; with_reducible exact Calls.regrown_of (HF1.out _ (below_regrown _ _ _))) | (go_at_call 63; with_reducible exact Calls.regrown_of (HF2.out _ (below_regrown _ _ _)))))))
  refine wpQuiet_nil ?_
  intro w9 hw9
  have HB9 := Lib.hid (bTrans HB.out (below_of_regrown hw9))
  clear hw9
  go_wp2_with fail
  go_ret
  exact ⟨ret_bool (by rw [HR.out]), HB9.out⟩
end Go.Proofs.YtchhodikgllgnaaDoor
/- Walks of the reference 05: some. Conditions: a valid town, tests and worlds of it. -/
namespace Go.Proofs.YtchhodikgllgnaaDoor
open Go.RowKit Go.Sort
set_option maxHeartbeats 2000000 in
set_option maxRecDepth 100000 in
theorem some5_any (Aw Af A : Option Addr) (cw cf c : Nat) (t : Qt) (l : List Tp) (i j : Nat) (w : World) (ok : t.Ok) (hT : QAt w Aw Af t) (hl : t.TestsOk l) (hlen : l.length ≤ 100000) (hA : RowAt w A (tstE.cells l)) (hi : i < t.nw) (hj : j < t.nw) :
    Calls Tryd.prog 84 #[.agg #[.int .i64 t.wells, .slice Aw t.nw cw, .slice Af t.nf cf], .slice A l.length c, .int .i64 i, .int .i64 j] w fun e w' => e = .returned (.bool (t.someB l i j)) ∧ Below w.heap.size w w' := by
  have hb0 := bAlloc (Below.refl w.heap.size w) (.cells #[.int .i64 t.wells, .slice Aw t.nw cw, .slice Af t.nf cf] 25)
  have HB := Lib.hid hb0
  have HT := Lib.hid (hT.mono hb0)
  have HA := Lib.hid (hA.mono hb0)
  have HOK := Lib.hid ok
  have HLO := Lib.hid hl
  have HI := Lib.hid hi
  have HJ := Lib.hid hj
  obtain ⟨n, hn⟩ : ∃ n, l.length = n := ⟨_, rfl⟩
  rw [hn] at hlen ⊢
  have HN := Lib.hid hn
  clear hb0 hT hA ok hl hi hj hn
  go_enter Tryd.func84, Tryd.ntmps84
  go_wp2_with fail
  go_loopw [9] (fun s wr => ∃ k : Nat, k ≤ n ∧ s = .int .i64 k ∧ t.someB (l.take k) i j = false ∧ Below (w.alloc (.cells #[.int .i64 t.wells, .slice Aw t.nw cw, .slice Af t.nf cf] 25)).heap.size (w.alloc (.cells #[.int .i64 t.wells, .slice Aw t.nw cw, .slice Af t.nf cf] 25)) wr) (fun s _ => n - (intOf s).toNat)
  case atStart => exact ⟨0, Nat.zero_le _, rfl, rfl, Below.refl _ _⟩
  case round =>
    obtain ⟨k, hk, rfl, hno, hbel⟩ := hrel
    have HNO := Lib.hid hno
    have HL := Lib.hid hbel
    obtain ⟨bc3, bf3⟩ := bcell hbel
    have hz3 := hbel.size
    simp only [World.size_alloc] at hz3
    have hy3 : w.heap.size < wr.heap.size := by omega
    clear hbel hno
    by_cases hlt : k < n
    · obtain ⟨x, hx⟩ : ∃ x, l[k]? = some x := ⟨_, List.getElem?_eq_getElem (by rw [HN.out]; exact hlt)⟩
      obtain ⟨b, o, rfl, hb, c0, c1⟩ := SliceE.tst (HA.out.mono HL.out) hx
      have hxo := HLO.out x (List.mem_of_getElem? hx)
      obtain ⟨p, q⟩ := x
      have k1 : (k : Int) < (n : Int) := by omega
      have k0 : (0 : Int) ≤ (k : Int) := by omega
      obtain ⟨ba, hba⟩ : ∃ ba, t.apart (p, q) i j = ba := ⟨_, rfl⟩
      have HF := Lib.hid (fun (w' : World) (hb : Below wr.heap.size wr w') => (hba ▸ apart5_any Aw Af cw cf t p q i j w' HOK.out ((HT.out.mono HL.out).mono hb) hxo.1 hxo.2 HI.out HJ.out : Calls Tryd.prog 120 #[.agg #[.int .i64 t.wells, .slice Aw t.nw cw, .slice Af t.nf cf], .agg #[.int .i64 p, .int .i64 q], .int .i64 i, .int .i64 j] w' fun e w'' => e = .returned (.bool ba) ∧ Below w'.heap.size w' w''))
      have HST := Lib.hid (show t.someB (l.take (k + 1)) i j = ba by
        have h := HNO.out
        unfold Qt.someB at h ⊢
        rw [List.take_add_one, hx, List.any_append, h]
        simp [hba])
      have HIN := Lib.hid (show ba = true → t.someB l i j = true from fun e => by
        unfold Qt.someB
        rw [List.any_eq_true]
        exact ⟨_, List.mem_of_getElem? hx, by rw [hba]; exact e⟩)
      clear hx hxo hba
      go_wp2_with fail
      refine wp_region_quiet_below (by kernel_rfl) (by kernel_rfl) ?_
      repeat (go_big_quiet_step (((go_at_call 120; with_reducible exact Calls.regrown_of (HF.out _ (below_regrown _ _ _))))))
      refine wpQuiet_nil ?_
      intro w9 hw9
      have HL9 := Lib.hid (bTrans HL.out (below_of_regrown hw9))
      clear hw9
      cases ba
      · go_wp2_with fail
        go_roundw
        case rel =>
          first
          | exact ⟨k + 1, by omega, by go_num, HST.out, HL9.out⟩
          | ((repeat apply Exists.intro)
             refine ⟨⟨k + 1, by omega, ?_, HST.out, HL9.out⟩, rfl⟩
             go_num)
        case measure => simp [intOf]; omega
      · have HY := Lib.hid (HIN.out (by trivial))
        go_wp2_with fail
        go_ret
        exact ⟨ret_bool (by rw [HY.out]), bTrans HB.out HL9.out⟩
    · obtain rfl : k = n := by omega
      have HZ := Lib.hid (show t.someB l i j = false by have := HNO.out; rwa [List.take_of_length_le (by rw [HN.out]; exact Nat.le_refl _)] at this)
      go_wp2_with fail
      go_ret
      exact ⟨ret_bool (by rw [HZ.out]), bTrans HB.out HL.out⟩
end Go.Proofs.YtchhodikgllgnaaDoor
/- Walks of the reference 05: Shown. Conditions: a valid town, a test and worlds of it. -/
namespace Go.Proofs.YtchhodikgllgnaaDoor
open Go.RowKit Go.Sort
set_option maxHeartbeats 3000000 in
set_option maxRecDepth 100000 in
theorem shown5_any (Aw Af A : Option Addr) (cw cf c : Nat) (t : Qt) (p q : Nat) (L : List Int) (f : Int) (w : World) (ok : t.Ok) (hT : QAt w Aw Af t) (hp : (p : Int) < t.wells) (hq : (q : Int) < t.wells) (hL : ∀ a, a ∈ L → ∃ i : Nat, i < t.nw ∧ a = i) (hlen : L.length ≤ 100) (hA : RowAt w A (numL L)) :
    Calls Tryd.prog 47 #[.agg #[.int .i64 t.wells, .slice Aw t.nw cw, .slice Af t.nf cf], .agg #[.int .i64 p, .int .i64 q], .slice A L.length c, .int .i64 f] w fun e w' => (∃ v, e = .returned v ∧ OwnL w' w.heap.size v (t.shown (p, q) L f)) ∧ Below w.heap.size w w' := by
  have hb0 := bAlloc (bAlloc (Below.refl w.heap.size w) (.cells #[.int .i64 t.wells, .slice Aw t.nw cw, .slice Af t.nf cf] 25)) (.cells #[.int .i64 p, .int .i64 q] 27)
  have HB := Lib.hid hb0
  have HT := Lib.hid (hT.mono hb0)
  have HA := Lib.hid (hA.mono hb0)
  have HOK := Lib.hid ok
  have HLL := Lib.hid hL
  have HP := Lib.hid hp
  have HQ := Lib.hid hq
  obtain ⟨n, hn⟩ : ∃ n, L.length = n := ⟨_, rfl⟩
  rw [hn] at hlen ⊢
  have HN := Lib.hid hn
  clear hb0 hT hA ok hL hp hq hn
  go_enter Tryd.func47, Tryd.ntmps47
  go_wp2_with fail
  go_loopw [9, 10] (fun v s wr => ∃ k : Nat, k ≤ n ∧ s = .int .i64 k ∧ OwnL wr ((w.alloc (.cells #[.int .i64 t.wells, .slice Aw t.nw cw, .slice Af t.nf cf] 25)).alloc (.cells #[.int .i64 p, .int .i64 q] 27)).heap.size v (t.shown (p, q) (L.take k) f) ∧ Below ((w.alloc (.cells #[.int .i64 t.wells, .slice Aw t.nw cw, .slice Af t.nf cf] 25)).alloc (.cells #[.int .i64 p, .int .i64 q] 27)).heap.size ((w.alloc (.cells #[.int .i64 t.wells, .slice Aw t.nw cw, .slice Af t.nf cf] 25)).alloc (.cells #[.int .i64 p, .int .i64 q] 27)) wr) (fun _ s _ => n - (intOf s).toNat)
  case atStart => exact ⟨0, Nat.zero_le _, rfl, OwnL.nil _ _, Below.refl _ _⟩
  case round =>
    obtain ⟨k, hk, rfl, hown, hbel⟩ := hrel
    have HO := Lib.hid hown
    have HL := Lib.hid hbel
    obtain ⟨bc3, bf3⟩ := bcell hbel
    have hz3 := hbel.size
    simp only [World.size_alloc] at hz3
    have hy3 : w.heap.size < wr.heap.size := by omega
    have hy4 : w.heap.size + 1 < wr.heap.size := by omega
    clear hbel hown
    by_cases hlt : k < n
    · obtain ⟨a, ha⟩ : ∃ a, L[k]? = some a := ⟨_, List.getElem?_eq_getElem (by rw [HN.out]; exact hlt)⟩
      obtain ⟨x, hx, rfl⟩ := HLL.out a (List.mem_of_getElem? ha)
      obtain ⟨bs, os, hAs, hbs, cs⟩ := (HA.out.mono HL.out).num ha
      subst hAs
      have k1 : (k : Int) < (n : Int) := by omega
      have k0 : (0 : Int) ≤ (k : Int) := by omega
      obtain ⟨v, hv⟩ : ∃ v, t.F (x : Int) (p, q) = v := ⟨_, rfl⟩
      have HF := Lib.hid (fun (w' : World) (hb : Below wr.heap.size wr w') => (hv ▸ fallAt_F t x p q ▸ fall5_any Aw Af cw cf t x p q w' HOK.out hx HP.out HQ.out ((HT.out.mono HL.out).mono hb) : Calls Tryd.prog 63 #[.agg #[.int .i64 t.wells, .slice Aw t.nw cw, .slice Af t.nf cf], .int .i64 x, .int .i64 p, .int .i64 q] w' fun e w'' => e = .returned (.int .i64 v) ∧ Below w'.heap.size w' w''))
      obtain ⟨bg, hbg⟩ : ∃ bg, (v == f) = bg := ⟨_, rfl⟩
      have HST := Lib.hid (show t.shown (p, q) (L.take (k + 1)) f = t.shown (p, q) (L.take k) f ++ (if bg then [(x : Int)] else []) by
        unfold Qt.shown
        rw [List.take_add_one, ha, List.filter_append]
        congr 1
        simp [hv, hbg, List.filter_cons])
      have HLE := Lib.hid (show (t.shown (p, q) (L.take k) f).length ≤ 1000 by unfold Qt.shown; have h1 := List.length_filter_le (fun w => t.F w (p, q) == f) (L.take k); have h2 := List.length_take_le k L; omega)
      clear ha hx hv
      go_wp2_with fail
      refine wp_region_quiet_below (by kernel_rfl) (by kernel_rfl) ?_
      repeat (go_big_quiet_step (((go_at_call 63; with_reducible exact Calls.regrown_of (HF.out _ (below_regrown _ _ _))))))
      refine wpQuiet_nil ?_
      intro w9 hw9
      have hb9 := below_of_regrown hw9
      have HO9 := Lib.hid (HO.out.mono hb9)
      have HL9 := Lib.hid (bTrans HL.out hb9)
      have hz9 := HL9.out.size
      have c9 := (hb9.cell (p := ⟨bs, os + k, none⟩) hbs).trans cs
      have hb99 := Nat.lt_of_lt_of_le hbs hb9.size
      simp only [World.size_alloc] at hz9
      clear hw9 hb9 bc3 bf3 cs hbs
      cases bg
      · have HS := Lib.hid (show t.shown (p, q) (L.take (k + 1)) f = t.shown (p, q) (L.take k) f by rw [HST.out]; simp)
        go_wp2_with fail
        go_roundw
        case rel =>
          first
          | exact ⟨k + 1, by omega, by go_num, by rw [HS.out]; exact HO9.out, HL9.out⟩
          | ((repeat apply Exists.intro)
             refine ⟨⟨k + 1, by omega, ?_, by rw [HS.out]; exact HO9.out, HL9.out⟩, rfl⟩
             go_num)
        case measure => simp [intOf]; omega
      · have HS := Lib.hid (show t.shown (p, q) (L.take (k + 1)) f = t.shown (p, q) (L.take k) f ++ [(x : Int)] by rw [HST.out]; simp)
        go_wp2_with (at_builtin; refine wpList_snoc _ rfl (Operand.tmp 29) (Operand.tmp 34) rfl (w.heap.size + 1 + 1) _ (t.shown (p, q) (L.take k) f) rfl ?q1 w9.heap.size x rfl ?q2 HLE.out ?q3 ?_)
        case q1 =>
          have h := HO9.out
          simp only [World.size_alloc] at h
          exact h.mono (bAlloc (Below.refl _ _) _)
        case q3 => first | omega | (simp <;> omega) | simp [go_sem]
        intro v' w5 hown5 hb5
        have HO5 := Lib.hid hown5
        have HL5 := Lib.hid (hb5 (w.heap.size + 1 + 1) _ (Nat.le_refl _) (show Below (w.heap.size + 1 + 1) ((w.alloc (.cells #[.int .i64 t.wells, .slice Aw t.nw cw, .slice Af t.nf cf] 25)).alloc (.cells #[.int .i64 p, .int .i64 q] 27)) _ by have := bAlloc HL9.out (.cells #[.int .i64 x] 3); simpa using this))
        clear hown5 hb5
        go_wp2_with fail
        go_roundw
        case rel =>
          have h1 := HO5.out
          have h2 := HL5.out
          first
          | exact ⟨k + 1, by omega, by go_num, by rw [HS.out]; simpa using h1, by simpa using h2⟩
          | ((repeat apply Exists.intro)
             refine ⟨⟨k + 1, by omega, ?_, by rw [HS.out]; simpa using h1, by simpa using h2⟩, rfl⟩
             go_num)
        case measure => simp [intOf]; omega
    · obtain rfl : k = n := by omega
      have HZ := Lib.hid (show t.shown (p, q) (L.take k) f = t.shown (p, q) L f by rw [List.take_of_length_le (by rw [HN.out]; exact Nat.le_refl _)])
      have HO5 := Lib.hid (HZ.out ▸ HO.out)
      go_wp2_with fail
      go_ret
      exact ⟨⟨_, rfl, HO5.out.lower (by simp; omega)⟩, bTrans HB.out HL.out⟩
end Go.Proofs.YtchhodikgllgnaaDoor
/- Walks of the reference 05: AllApart. Conditions: a valid town, tests and worlds of it. -/
namespace Go.Proofs.YtchhodikgllgnaaDoor
open Go.RowKit Go.Sort
set_option maxHeartbeats 4000000 in
set_option maxRecDepth 100000 in
theorem allApart5_any (Aw Af A B : Option Addr) (cw cf c cl : Nat) (t : Qt) (l : List Tp) (L : List Int) (w : World) (ok : t.Ok) (hT : QAt w Aw Af t) (hl : t.TestsOk l) (hll : l.length ≤ 100000) (hA : RowAt w A (tstE.cells l)) (hL : ∀ a, a ∈ L → ∃ i : Nat, i < t.nw ∧ a = i) (hlen : L.length ≤ 100) (hB : RowAt w B (numL L)) :
    Calls Tryd.prog 29 #[.agg #[.int .i64 t.wells, .slice Aw t.nw cw, .slice Af t.nf cf], .slice A l.length c, .slice B L.length cl] w fun e w' => e = .returned (.bool (t.allApart l L)) ∧ Below w.heap.size w w' := by
  have hb0 := bAlloc (Below.refl w.heap.size w) (.cells #[.int .i64 t.wells, .slice Aw t.nw cw, .slice Af t.nf cf] 25)
  have HB0 := Lib.hid hb0
  have HT := Lib.hid (hT.mono hb0)
  have HA := Lib.hid (hA.mono hb0)
  have HBR := Lib.hid (hB.mono hb0)
  have HOK := Lib.hid ok
  have HLO := Lib.hid hl
  have HLL := Lib.hid hL
  obtain ⟨m, hm⟩ : ∃ m : Nat, t.wells = (m : Int) := ⟨t.wells.toNat, by have := ok.w0; omega⟩
  have m4 : m ≤ 4 := by have := ok.w1; omega
  have HTS := Lib.hid (fun w' => tests5_any Aw Af cw cf m t w' hm m4)
  have HTL := Lib.hid (show t.tests.length ≤ 100000 by unfold Qt.tests; rw [testsL_len, hm, Int.toNat_natCast]; have : m * m ≤ 4 * 4 := Nat.mul_le_mul m4 m4; omega)
  have HTO := Lib.hid (show t.TestsOk t.tests from fun x hx => by
    have := testsL_mem.1 hx
    have := ok.w0
    omega)
  obtain ⟨n, hn⟩ : ∃ n, L.length = n := ⟨_, rfl⟩
  obtain ⟨nl, hnl⟩ : ∃ nl, l.length = nl := ⟨_, rfl⟩
  have HALL := Lib.hid (show t.allApart l L = !anyB (fun i => anyB (fun k => t.someB t.tests (intL0 L i) (intL0 L k) && !t.someB l (intL0 L i) (intL0 L k)) i) n by unfold Qt.allApart; rw [hn])
  rw [hn] at hlen ⊢
  rw [hnl] at hll ⊢
  have HN := Lib.hid hn
  have HNL := Lib.hid hnl
  clear hb0 hT hA hB ok hl hL hn hnl hm
  go_enter Tryd.func29, Tryd.ntmps29
  go_wp2_with fail
  refine (HTS.out _).mono ?_
  rintro e w1 ⟨⟨v, rfl, hv⟩, hb1⟩
  obtain ⟨At, ct, rfl, hrt⟩ := hv.read
  obtain ⟨nt, hnt⟩ : ∃ nt, t.tests.length = nt := ⟨_, rfl⟩
  rw [hnt]
  have HNT := Lib.hid hnt
  have HRT := Lib.hid hrt
  have HB1 := Lib.hid hb1
  clear hv hrt hb1 hnt
  go_wp2_with fail
  go_loopw [8] (fun s wr => ∃ i : Nat, i ≤ n ∧ s = .int .i64 i ∧ anyB (fun i => anyB (fun k => t.someB t.tests (intL0 L i) (intL0 L k) && !t.someB l (intL0 L i) (intL0 L k)) i) i = false ∧ Below w1.heap.size w1 wr) (fun s _ => n - (intOf s).toNat)
  case atStart => exact ⟨0, Nat.zero_le _, rfl, rfl, Below.refl _ _⟩
  case round =>
    obtain ⟨i, hi, rfl, hno, hbel⟩ := hrel
    have HNO := Lib.hid hno
    have HL := Lib.hid hbel
    clear hno hbel
    by_cases hlt : i < n
    · have i1 : (i : Int) < (n : Int) := by omega
      go_wp2_with fail
      go_loopw [9] (fun s wx => ∃ k : Nat, k ≤ i ∧ s = .int .i64 k ∧ anyB (fun k => t.someB t.tests (intL0 L i) (intL0 L k) && !t.someB l (intL0 L i) (intL0 L k)) k = false ∧ Below w1.heap.size w1 wx) (fun s _ => i - (intOf s).toNat)
      case atStart => exact ⟨0, Nat.zero_le _, rfl, rfl, HL.out⟩
      case round =>
        obtain ⟨k, hk, rfl, hno, hbel⟩ := hrel
        have HNK := Lib.hid hno
        have HX := Lib.hid hbel
        have HXB := Lib.hid (bTrans HB1.out hbel)
        obtain ⟨bc3, bf3⟩ := bcell (bTrans HB1.out hbel)
        have hz3 := (bTrans HB1.out hbel).size
        simp only [World.size_alloc] at hz3
        have hy3 : w.heap.size < wr.heap.size := by omega
        clear hno hbel
        by_cases hlk : k < i
        · obtain ⟨a, ha⟩ : ∃ a, L[i]? = some a := ⟨_, List.getElem?_eq_getElem (by rw [HN.out]; exact hlt)⟩
          obtain ⟨b, hb⟩ : ∃ b, L[k]? = some b := ⟨_, List.getElem?_eq_getElem (by rw [HN.out]; omega)⟩
          obtain ⟨x, hx, rfl⟩ := HLL.out a (List.mem_of_getElem? ha)
          obtain ⟨y, hy, rfl⟩ := HLL.out b (List.mem_of_getElem? hb)
          obtain ⟨bs, os, hBs, hbs, cs⟩ := (HBR.out.mono HXB.out).num ha
          obtain ⟨bs2, os2, hBs2, _, cs2⟩ := (HBR.out.mono HXB.out).num hb
          subst hBs
          simp only [Option.some.injEq, Addr.mk.injEq, and_true] at hBs2
          obtain ⟨rfl, rfl⟩ := hBs2
          have e1 : intL0 L i = (x : Int) := by unfold intL0; rw [ha]; rfl
          have e2 : intL0 L k = (y : Int) := by unfold intL0; rw [hb]; rfl
          obtain ⟨b1, h1⟩ : ∃ b1, t.someB t.tests x y = b1 := ⟨_, rfl⟩
          obtain ⟨b2, h2⟩ : ∃ b2, t.someB l x y = b2 := ⟨_, rfl⟩
          have HS1 := Lib.hid (fun (w' : World) (hb : Below wr.heap.size wr w') => (by
            have := some5_any Aw Af At cw cf ct t t.tests x y w' HOK.out ((HT.out.mono HXB.out).mono hb) HTO.out HTL.out ((HRT.out.mono HX.out).mono hb) hx hy
            rw [HNT.out, h1] at this
            exact this : Calls Tryd.prog 84 #[.agg #[.int .i64 t.wells, .slice Aw t.nw cw, .slice Af t.nf cf], .slice At nt ct, .int .i64 x, .int .i64 y] w' fun e w'' => e = .returned (.bool b1) ∧ Below w'.heap.size w' w''))
          have HS2 := Lib.hid (fun (w' : World) (hb : Below wr.heap.size wr w') => (by
            have := some5_any Aw Af A cw cf c t l x y w' HOK.out ((HT.out.mono HXB.out).mono hb) HLO.out (by rw [HNL.out]; exact hll) ((HA.out.mono HXB.out).mono hb) hx hy
            rw [HNL.out, h2] at this
            exact this : Calls Tryd.prog 84 #[.agg #[.int .i64 t.wells, .slice Aw t.nw cw, .slice Af t.nf cf], .slice A nl c, .int .i64 x, .int .i64 y] w' fun e w'' => e = .returned (.bool b2) ∧ Below w'.heap.size w' w''))
          have HST := Lib.hid (show (fun k => t.someB t.tests (intL0 L i) (intL0 L k) && !t.someB l (intL0 L i) (intL0 L k)) k = (b1 && !b2) by
            show (t.someB t.tests (intL0 L i) (intL0 L k) && !t.someB l (intL0 L i) (intL0 L k)) = _
            rw [e1, e2, h1, h2])
          have k1 : (k : Int) < (i : Int) := by omega
          have k2 : (k : Int) < (n : Int) := by omega
          have k0 : (0 : Int) ≤ (k : Int) := by omega
          have i0 : (0 : Int) ≤ (i : Int) := by omega
          clear ha hb hx hy e1 e2 h1 h2
          rcases two_ways b1 b2 with rfl | ⟨rfl, rfl⟩ | ⟨rfl, rfl⟩
          all_goals
            go_wp2_with fail
            refine wp_region_quiet_below (by kernel_rfl) (by kernel_rfl) ?_
            repeat (go_big_quiet_step (((first | (go_at_call 84; with_reducible exact Calls.regrown_of (HS1.out _ (below_regrown _ _ _))) | (go_at_call 84; with_reducible exact Calls.regrown_of (HS2.out _ (below_regrown _ _ _)))))))
            refine wpQuiet_nil ?_
            intro w9 hw9
            have HX9 := Lib.hid (bTrans HX.out (below_of_regrown hw9))
            have HXB9 := Lib.hid (bTrans HXB.out (below_of_regrown hw9))
            clear hw9
          · have HY := Lib.hid (anyB_step HNK.out (HST.out.trans (by simp)))
            go_wp2_with fail
            go_roundw
            case rel =>
              first
              | exact ⟨k + 1, by omega, by go_num, HY.out, HX9.out⟩
              | ((repeat apply Exists.intro)
                 refine ⟨⟨k + 1, by omega, ?_, HY.out, HX9.out⟩, rfl⟩
                 go_num)
            case measure => simp [intOf]; omega
          · have HY := Lib.hid (show t.allApart l L = false by
              rw [HALL.out, Bool.not_eq_false']
              exact anyB_hit hlt (show (fun i => anyB (fun k => t.someB t.tests (intL0 L i) (intL0 L k) && !t.someB l (intL0 L i) (intL0 L k)) i) i = true from anyB_hit hlk HST.out))
            go_wp2_with fail
            go_ret
            exact ⟨ret_bool (by rw [HY.out]), bTrans HB0.out HXB9.out⟩
          · have HY := Lib.hid (anyB_step HNK.out (HST.out.trans (by simp)))
            go_wp2_with fail
            go_roundw
            case rel =>
              first
              | exact ⟨k + 1, by omega, by go_num, HY.out, HX9.out⟩
              | ((repeat apply Exists.intro)
                 refine ⟨⟨k + 1, by omega, ?_, HY.out, HX9.out⟩, rfl⟩
                 go_num)
            case measure => simp [intOf]; omega
        · obtain rfl : k = i := by omega
          have HY := Lib.hid (anyB_step HNO.out HNK.out)
          have k1 : ¬ (k : Int) < (k : Int) := by omega
          go_wp2_with fail
          go_roundw
          case rel =>
            first
            | exact ⟨k + 1, by omega, by go_num, HY.out, HX.out⟩
            | ((repeat apply Exists.intro)
               refine ⟨⟨k + 1, by omega, ?_, HY.out, HX.out⟩, rfl⟩
               go_num)
          case measure => simp [intOf]; omega
    · obtain rfl : i = n := by omega
      have HZ := Lib.hid (show t.allApart l L = true by rw [HALL.out, HNO.out]; rfl)
      go_wp2_with fail
      go_ret
      exact ⟨ret_bool (by rw [HZ.out]), bTrans HB0.out (bTrans HB1.out HL.out)⟩
end Go.Proofs.YtchhodikgllgnaaDoor
/- Walks of the reference 05: Between. Conditions: lengths are Go's. -/
namespace Go.Proofs.YtchhodikgllgnaaDoor
open Go.RowKit Go.Sort
end Go.Proofs.YtchhodikgllgnaaDoor
/- Walks of the reference 05: Total. Conditions: lengths are Go's. -/
namespace Go.Proofs.YtchhodikgllgnaaDoor
open Go.RowKit Go.Sort
end Go.Proofs.YtchhodikgllgnaaDoor
