/- Walks of the package levels: leave, sound, slope, rock, close. Conditions: the bounds lie in a block of their own; a truth keeps to them. -/
import Derived.Test.YtdboicnlkbnbnaaDoorTools
import Derived.Test.YtdboicnlkbnbnaaDoorLevelLaw
namespace Go.Proofs.YtdboicnlkbnbnaaDoor
open Go.RowKit Go.Sort
section
variable {P : Program} {ops : Array Oper} {md : Region.Mode}
theorem goodVals : ∀ cs : List Value, goodAllS (cs.map Stir.const)
  | [] => trivial
  | _ :: cs => ⟨trivial, goodVals cs⟩
theorem crossVals (md : Region.Mode) (ops : Array Oper) (N : Nat) (cs : List Value) : crossAll md ops N (cs.map Stir.const) := by
  intro i s r K h
  rw [List.getElem?_map] at h
  cases e : cs[i]? <;> rw [e] at h <;> cases h
/-- a region that draws, whose values are known, and a tail -/
theorem wp_region_vals {rid : Nat} {Q : Exit → Act → World → Prop} {a : Act} {w : World} {l : List Oper} (n : Nat) (cs : List Value) (hm : P.follows .mixedOrders = true) (hB : stirB .any l.toArray n = true) (hn : cs.length = n)
    (h : wpStir P .any l.toArray w (fun a' w' => wpList P l.toArray Q (l.drop n) a' w') 0 l (cs.map Stir.const) a []) : (Code.region rid l.toArray true).wp P Q a w :=
  wp_region_stir n _ hm hB (by rw [List.length_map]; exact hn) (goodVals cs) (crossVals _ _ _ cs) h
end
/-- bounds in a block of their own -/
structure BdAt (w : World) (a : Nat) (b : Bd) : Prop where
  lt : a < w.heap.size
  cell : ∀ i j, i < 7 → j < 7 → w.cell? ⟨a, i * 7 + j, none⟩ = some (.int .i64 (b i j))
  frz : ∀ k, w.frozen? ⟨a, k, none⟩ = false
theorem BdAt.mono {w w' : World} {a : Nat} {b : Bd} (h : BdAt w a b) (hb : Below w.heap.size w w') : BdAt w' a b :=
  ⟨Nat.lt_of_lt_of_le h.lt hb.size, fun i j hi hj => (hb.cell (p := ⟨a, _, none⟩) h.lt).trans (h.cell i j hi hj), fun k => (hb.frozen (p := ⟨a, k, none⟩) h.lt).trans (h.frz k)⟩
theorem BdAt.set {w : World} {a : Nat} {b : Bd} (h : BdAt w a b) {p q : Nat} (hp : p < 7) (hq : q < 7) (v : Int) : BdAt (w.setCell ⟨a, p * 7 + q, none⟩ (.int .i64 v)) a (fun i j => if i = p ∧ j = q then v else b i j) := by
  refine ⟨by simpa [World.setCell] using h.lt, fun i j hi hj => ?_, fun k => by rw [World.frozen?_setCell]; exact h.frz k⟩
  by_cases e : i = p ∧ j = q
  · obtain ⟨rfl, rfl⟩ := e
    rw [World.cell?_setCell_same _ _ _ (h.cell i j hp hq), if_pos ⟨rfl, rfl⟩]
  · rw [World.cell?_setCell_other _ _ _ _ (fun e' => by injection e' with _ e'; exact e ⟨by omega, by omega⟩), if_neg e]
    exact h.cell i j hi hj
/-- the bounds are turned, and new memory may be made; all else is as it was -/
structure Turned (w w' : World) (a : Nat) (b : Bd) (e : Ending) : Prop where
  ret : e = .returned (.tuple #[])
  at_ : BdAt w' a b
  grown : w.grownBy w' (some a)
theorem grown_trans {w w' w'' : World} {row : Option Nat} (h : w.grownBy w' row) (k : w'.grownBy w'' row) : w.grownBy w'' row :=
  ⟨k.os.trans h.os, k.tape.trans h.tape, k.output.trans h.output, Nat.le_trans h.size k.size, fun n hn hr => (k.block n (Nat.lt_of_lt_of_le hn h.size) hr).trans (h.block n hn hr)⟩
theorem grown_below {w w' : World} {row : Option Nat} (h : Below w.heap.size w w') : w.grownBy w' row := ⟨h.os, h.tape, h.output, h.size, fun k hk _ => h.block k hk⟩
theorem grown_set {w w' : World} {a : Nat} (h : w.grownBy w' (some a)) (o : Nat) (v : Value) : w.grownBy (w'.setCell ⟨a, o, none⟩ v) (some a) :=
  ⟨h.os, h.tape, h.output, by simpa [World.setCell] using h.size, fun k hk hr => (Below.heap_setCell w' ⟨a, o, none⟩ v k (fun e => hr (by rw [e]))).trans (h.block k hk hr)⟩
set_option maxHeartbeats 2000000 in
set_option maxRecDepth 100000 in
theorem leave_any (a p q : Nat) (m : Int) (b : Bd) (w : World) (hp : p < 7) (hq : q < 7) (hB : BdAt w a b) :
    Calls Tryd.prog 50 #[.pointer (some ⟨a, 0, none⟩), .int .i64 p, .int .i64 q, .int .i64 m] w fun e w' => Turned w w' a (leave b p q m) e := by
  have hc := hB.cell p q hp hq
  have hlt := hB.lt
  have HB := Lib.hid hB
  obtain ⟨x, hx⟩ : ∃ x, b p q = x := ⟨_, rfl⟩
  rw [hx] at hc
  obtain ⟨y, hy⟩ : ∃ y, (if m < x then m else x) = y := ⟨_, rfl⟩
  have HY := Lib.hid (show min x m = y by rw [← hy]; split <;> omega)
  have HX := Lib.hid hx
  have p0 : (0 : Int) ≤ (p : Int) := by omega
  have p1 : (p : Int) < 7 := by omega
  have q0 : (0 : Int) ≤ (q : Int) := by omega
  have q1 : (q : Int) < 7 := by omega
  clear hB hx
  go_enter Tryd.func50, Tryd.ntmps50
  go_wp2_with fail
  refine wp_region_vals 15 [.pointer (some ⟨a, 0, none⟩), .int .i64 p, .int .i64 q, .pointer (some ⟨a, 0, none⟩), .int .i64 p, .int .i64 q, .pointer (some ⟨a, 0, none⟩), .pointer (some ⟨a, p * 7, none⟩), .pointer (some ⟨a, p * 7 + q, none⟩), .int .i64 x, .int .i64 m, .int .i64 y, .pointer (some ⟨a, 0, none⟩), .pointer (some ⟨a, p * 7, none⟩), .pointer (some ⟨a, p * 7 + q, none⟩)] (by kernel_rfl) (by kernel_rfl) rfl ?_
  simp only [List.map_cons, List.map_nil]
  iterate 15 refine wpStir_const (by go_simp) ?_
  refine wpStir_end (fun w5 hb5 hd => ?_)
  clear hd
  simp only [List.drop_succ_cons, List.drop_zero]
  simp only [Act.put, List.setIfInBounds_toArray, List.set_cons_succ, List.set_cons_zero]
  have hB5 := HB.out.mono hb5
  have c5 := hB5.cell p q hp hq
  have f5 := hB5.frz (p * 7 + q)
  have hl5 := hB5.lt
  have HB5 := Lib.hid hB5
  have HG5 := Lib.hid (grown_below (row := some a) hb5)
  clear hB5 hb5 p0 p1 q0 q1
  go_wp2_with fail
  go_end0
  refine ⟨rfl, ?_, grown_set HG5.out _ _⟩
  have := HB5.out.set hp hq y
  have e : (fun i j => if i = p ∧ j = q then y else b i j) = leave b p q m := by
    funext i j
    unfold leave
    rw [HX.out, HY.out]
  rw [e] at this
  exact this
theorem leave_at2 (a : Nat) (pi qi : Int) (p q : Nat) (hpi : pi = p) (hqi : qi = q) (m : Int) (b : Bd) (w : World) (hp : p < 7) (hq : q < 7) (hB : BdAt w a b) :
    Calls Tryd.prog 50 #[.pointer (some ⟨a, 0, none⟩), .int .i64 pi, .int .i64 qi, .int .i64 m] w fun e w' => Turned w w' a (leave b p q m) e := by
  subst hpi hqi
  exact leave_any a p q m b w hp hq hB
set_option maxHeartbeats 2000000 in
set_option maxRecDepth 100000 in
theorem sound_any (a : Nat) (s : Snd) (n : Int) (b : Bd) (w : World) (hs : s.Ok n) (hn : n ≤ 6) (hB : BdAt w a b) :
    Calls Tryd.prog 44 #[.pointer (some ⟨a, 0, none⟩), .agg #[.int .i64 s.well, .int .i64 s.low, .int .i64 s.high]] w fun e w' => Turned w w' a (soundB b s) e := by
  have w0 := hs.w0
  have w1 := hs.w1
  have l0 := hs.l0
  have l1 := hs.l1
  have h1 := hs.h1
  have hlt := hB.lt
  have hb0 := Below.refl w.heap.size w |>.alloc (Nat.le_refl _) (.cells #[.int .i64 s.well, .int .i64 s.low, .int .i64 s.high] 31)
  have HB := Lib.hid (hB.mono hb0)
  have HG := Lib.hid (grown_below (row := some a) hb0)
  have HW := Lib.hid (show s.well = (s.well.toNat : Int) by omega)
  have HP := Lib.hid (show s.well.toNat < 7 by omega)
  clear hB hb0
  go_enter Tryd.func44, Tryd.ntmps44
  go_wp2_with fail
  refine (leave_at2 a _ _ 6 s.well.toNat rfl HW.out _ b _ (by decide) HP.out HB.out).mono ?_
  rintro e w2 ⟨rfl, h2, g2⟩
  have HB2 := Lib.hid h2
  have HG2 := Lib.hid (grown_trans HG.out g2)
  have ne : w.heap.size ≠ a := by omega
  have bc : ∀ o, w2.cell? ⟨w.heap.size, o, none⟩ = (w.alloc (.cells #[.int .i64 s.well, .int .i64 s.low, .int .i64 s.high] 31)).cell? ⟨w.heap.size, o, none⟩ := fun o => World.cell?_of_block (a := ⟨w.heap.size, o, none⟩) (g2.block _ (by simp) (fun e => ne (by injection e)))
  clear h2 g2
  go_wp2_with fail
  refine (leave_at2 a _ _ s.well.toNat 6 HW.out rfl _ _ _ HP.out (by decide) HB2.out).mono ?_
  rintro e w3 ⟨rfl, h3, g3⟩
  go_wp2_with fail
  go_end0
  exact ⟨rfl, h3, grown_trans HG2.out g3⟩
set_option maxHeartbeats 2000000 in
set_option maxRecDepth 100000 in
theorem slope_any (a : Nat) (s : Slp) (n : Int) (b : Bd) (w : World) (hs : s.Ok n) (hn : n ≤ 6) (hB : BdAt w a b) :
    Calls Tryd.prog 45 #[.pointer (some ⟨a, 0, none⟩), .agg #[.int .i64 s.a, .int .i64 s.b, .int .i64 s.low, .int .i64 s.high]] w fun e w' => Turned w w' a (slopeB b s) e := by
  have a0 := hs.a0
  have a1 := hs.a1
  have b0 := hs.b0
  have b1 := hs.b1
  have l0 := hs.l0
  have l1 := hs.l1
  have h1 := hs.h1
  have hlt := hB.lt
  have hb0 := Below.refl w.heap.size w |>.alloc (Nat.le_refl _) (.cells #[.int .i64 s.a, .int .i64 s.b, .int .i64 s.low, .int .i64 s.high] 56)
  have HB := Lib.hid (hB.mono hb0)
  have HG := Lib.hid (grown_below (row := some a) hb0)
  have HA := Lib.hid (show s.a = (s.a.toNat : Int) by omega)
  have HA7 := Lib.hid (show s.a.toNat < 7 by omega)
  have HBB := Lib.hid (show s.b = (s.b.toNat : Int) by omega)
  have HB7 := Lib.hid (show s.b.toNat < 7 by omega)
  clear hB hb0
  go_enter Tryd.func45, Tryd.ntmps45
  go_wp2_with fail
  refine (leave_at2 a _ _ s.a.toNat s.b.toNat HA.out HBB.out _ b _ HA7.out HB7.out HB.out).mono ?_
  rintro e w2 ⟨rfl, h2, g2⟩
  have HB2 := Lib.hid h2
  have HG2 := Lib.hid (grown_trans HG.out g2)
  have ne : w.heap.size ≠ a := by omega
  have bc : ∀ o, w2.cell? ⟨w.heap.size, o, none⟩ = (w.alloc (.cells #[.int .i64 s.a, .int .i64 s.b, .int .i64 s.low, .int .i64 s.high] 56)).cell? ⟨w.heap.size, o, none⟩ := fun o => World.cell?_of_block (a := ⟨w.heap.size, o, none⟩) (g2.block _ (by simp) (fun e => ne (by injection e)))
  clear h2 g2
  go_wp2_with fail
  refine (leave_at2 a _ _ s.b.toNat s.a.toNat HBB.out HA.out _ _ _ HB7.out HA7.out HB2.out).mono ?_
  rintro e w3 ⟨rfl, h3, g3⟩
  go_wp2_with fail
  go_end0
  exact ⟨rfl, h3, grown_trans HG2.out g3⟩
/-- the bounds so far -/
structure Cl (w wr : World) (a : Nat) (b : Bd) : Prop where
  at_ : BdAt wr a b
  grown : w.grownBy wr (some a)
/-- what close hands back, where there is a truth -/
structure ClosedOut (w w' : World) (a : Nat) (b : Bd) (e : Ending) : Prop where
  ret : e = .returned (.bool true)
  at_ : BdAt w' a b
  grown : w.grownBy w' (some a)
/-- bounds to which levels keep, none of them above the greatest -/
structure Fine (l : Nat → Int) (b : Bd) : Prop where
  keeps : Keeps l b
  lev : ∀ i, 0 ≤ l i ∧ l i ≤ 99
  up : ∀ i j, b i j ≤ free
theorem Fine.bd {l : Nat → Int} {b : Bd} (h : Fine l b) (i j : Nat) : -99 ≤ b i j ∧ b i j ≤ 1048576 := by
  have h1 := h.keeps i j
  have h2 := h.lev i
  have h3 := h.lev j
  have h4 := h.up i j
  unfold free at h4
  omega
theorem Fine.diag {l : Nat → Int} {b : Bd} (h : Fine l b) (i : Nat) : 0 ≤ b i i := by have := h.keeps i i; omega
theorem Fine.to {l : Nat → Int} {b c : Bd} (h : Fine l b) (hk : Keeps l c) (hl : LeB c b) : Fine l c := ⟨hk, h.lev, fun i j => Int.le_trans (hl i j) (h.up i j)⟩
theorem Fine.viaK {l : Nat → Int} {b : Bd} (h : Fine l b) (n : Nat) : Fine l (viaK n b) := h.to (viaK_keeps h.keeps n) (viaK_le b n)
theorem Fine.viaI {l : Nat → Int} {b : Bd} (h : Fine l b) (k n : Nat) : Fine l (viaI k n b) := h.to (viaI_keeps k h.keeps n) (viaI_le k b n)
theorem Fine.viaJ {l : Nat → Int} {b : Bd} (h : Fine l b) (k i n : Nat) : Fine l (viaJ k i n b) := h.to (viaJ_keeps k i h.keeps n) (viaJ_le k i b n)
set_option maxHeartbeats 8000000 in
set_option maxRecDepth 100000 in
theorem close_any (a : Nat) (l : Nat → Int) (b : Bd) (w : World) (hF : Fine l b) (hB : BdAt w a b) :
    Calls Tryd.prog 46 #[.pointer (some ⟨a, 0, none⟩)] w fun e w' => ClosedOut w w' a (viaK 7 b) e := by
  have HB := Lib.hid hB
  have HF := Lib.hid hF
  clear hB hF
  go_enter Tryd.func46, Tryd.ntmps46
  go_wp2_with fail
  go_loopw [7] (fun k wr => ∃ kn : Nat, k = .int .i64 kn ∧ kn ≤ 7 ∧ Cl w wr a (viaK kn b)) (fun k _ => 7 - (intOf k).toNat)
  case atStart => exact ⟨0, rfl, by omega, HB.out, grown_below (Below.refl _ _)⟩
  case round =>
    obtain ⟨k, rfl, hk7, hcl⟩ := hrel
    have HC := Lib.hid hcl
    clear hcl
    by_cases hk : k < 7
    · have HFK := Lib.hid (HF.out.viaK k)
      have k1 : (k : Int) < 7 := by omega
      have k0 : (0 : Int) ≤ (k : Int) := by omega
      go_wp2_with fail
      go_loopw [10] (fun i wr => ∃ n : Nat, i = .int .i64 n ∧ n ≤ 7 ∧ Cl w wr a (viaI k n (viaK k b))) (fun i _ => 7 - (intOf i).toNat)
      case atStart => exact ⟨0, rfl, by omega, HC.out⟩
      case round =>
        obtain ⟨n, rfl, hn7, hcl⟩ := hrel
        have HC2 := Lib.hid hcl
        clear hcl
        by_cases hn : n < 7
        · have HFN := Lib.hid (HFK.out.viaI k n)
          have n1 : (n : Int) < 7 := by omega
          have n0 : (0 : Int) ≤ (n : Int) := by omega
          go_wp2_with fail
          go_loopw [13] (fun j wr => ∃ m : Nat, j = .int .i64 m ∧ m ≤ 7 ∧ Cl w wr a (viaJ k n m (viaI k n (viaK k b)))) (fun j _ => 7 - (intOf j).toNat)
          case atStart => exact ⟨0, rfl, by omega, HC2.out⟩
          case round =>
            obtain ⟨m, rfl, hm7, hcl⟩ := hrel
            have HC3 := Lib.hid hcl
            clear hcl
            by_cases hm : m < 7
            · have m1 : (m : Int) < 7 := by omega
              have m0 : (0 : Int) ≤ (m : Int) := by omega
              have hB3 := HC3.out.at_
              have hF3 := HFN.out.viaJ k n m
              obtain ⟨c, hc⟩ : ∃ c, c = viaJ k n m (viaI k n (viaK k b)) := ⟨_, rfl⟩
              rw [← hc] at hB3 hF3
              have c1 := hB3.cell n k hn hk
              have c2 := hB3.cell k m hk hm
              obtain ⟨x0, x1⟩ := hF3.bd n k
              obtain ⟨y0, y1⟩ := hF3.bd k m
              have hlt := hB3.lt
              obtain ⟨x, hx⟩ : ∃ x, c n k = x := ⟨_, rfl⟩
              obtain ⟨y, hy⟩ : ∃ y, c k m = y := ⟨_, rfl⟩
              rw [hx] at c1 x0 x1
              rw [hy] at c2 y0 y1
              have HX := Lib.hid hx
              have HY := Lib.hid hy
              have HCC := Lib.hid hc
              have HB3 := Lib.hid hB3
              have HG3 := Lib.hid HC3.out.grown
              have HST := Lib.hid (show viaJ k n (m + 1) (viaI k n (viaK k b)) = viaB k n m c by rw [hc]; rfl)
              clear hB3 hF3 hx hy hc
              by_cases hxy : x < 1048576 ∧ y < 1048576
              · obtain ⟨hx, hy⟩ := hxy
                have HV := Lib.hid (show viaB k n m c = leave c n m (x + y) by
                  unfold viaB
                  rw [HX.out, HY.out, if_pos ⟨hx, hy⟩])
                have e1 : IntKind.i64.wrap (x + y) = x + y := IntWalk.i64_in _ (by omega)
                go_wp2_with fail
                refine wp_region_vals 18 [.pointer (some ⟨a, 0, none⟩), .int .i64 n, .int .i64 m, .pointer (some ⟨a, 0, none⟩), .int .i64 n, .int .i64 k, .pointer (some ⟨a, 0, none⟩), .pointer (some ⟨a, n * 7, none⟩), .pointer (some ⟨a, n * 7 + k, none⟩), .int .i64 x, .pointer (some ⟨a, 0, none⟩), .int .i64 k, .int .i64 m, .pointer (some ⟨a, 0, none⟩), .pointer (some ⟨a, k * 7, none⟩), .pointer (some ⟨a, k * 7 + m, none⟩), .int .i64 y, .int .i64 (x + y)] (by kernel_rfl) (by kernel_rfl) rfl ?_
                simp only [List.map_cons, List.map_nil]
                iterate 18 refine wpStir_const (by go_simp) ?_
                refine wpStir_end (fun w5 hb5 hd => ?_)
                clear hd
                simp only [List.drop_succ_cons, List.drop_zero]
                simp only [Act.put, List.setIfInBounds_toArray, List.set_cons_succ, List.set_cons_zero]
                clear e1 c1 c2 hlt
                have HB5 := Lib.hid (HB3.out.mono hb5)
                have HG5 := Lib.hid (grown_trans HG3.out (grown_below (row := some a) hb5))
                clear hb5
                go_wp2_with fail
                refine (leave_any a n m _ c _ hn hm HB5.out).mono ?_
                rintro e w6 ⟨rfl, h6, g6⟩
                have HB6 := Lib.hid (show Cl w w6 a (viaJ k n (m + 1) (viaI k n (viaK k b))) from ⟨by rw [HST.out, HV.out]; exact h6, grown_trans HG5.out g6⟩)
                clear h6 g6
                go_wp2_with fail
                go_roundw
                case rel => exact ⟨m + 1, by go_num, by omega, HB6.out⟩
                case measure => simp [intOf]; omega
              · have HV := Lib.hid (show Cl w wr a (viaJ k n (m + 1) (viaI k n (viaK k b))) from ⟨by
                  rw [HST.out]
                  unfold viaB
                  rw [HX.out, HY.out, if_neg (show ¬ (x < free ∧ y < free) from hxy)]
                  exact HB3.out, HG3.out⟩)
                by_cases hx : x < 1048576
                · have hy : ¬ y < 1048576 := fun h => hxy ⟨hx, h⟩
                  clear hxy
                  go_wp2_with fail
                  go_roundw
                  case rel => exact ⟨m + 1, by go_num, by omega, HV.out⟩
                  case measure => simp [intOf]; omega
                · clear hxy
                  go_wp2_with fail
                  go_roundw
                  case rel => exact ⟨m + 1, by go_num, by omega, HV.out⟩
                  case measure => simp [intOf]; omega
            · obtain rfl : m = 7 := by omega
              go_wp2_with fail
              go_roundw
              case rel => exact ⟨n + 1, by go_num, by omega, HC3.out⟩
              case measure => simp [intOf]; omega
        · obtain rfl : n = 7 := by omega
          go_wp2_with fail
          go_roundw
          case rel => exact ⟨k + 1, by go_num, by omega, HC2.out⟩
          case measure => simp [intOf]; omega
    · obtain rfl : k = 7 := by omega
      go_wp2_with fail
      go_loop [56] (fun i => ∃ n : Nat, i = .int .i64 n ∧ n ≤ 7) (fun i => 7 - (intOf i).toNat)
      case atStart => exact ⟨0, rfl, by omega⟩
      case round =>
        obtain ⟨n, rfl, hn7⟩ := hrel
        by_cases hn : n < 7
        · have c1 := HC.out.at_.cell n n hn hn
          have hd := (HF.out.viaK 7).diag n
          have hlt := HC.out.at_.lt
          obtain ⟨x, hx⟩ : ∃ x, viaK 7 b n n = x := ⟨_, rfl⟩
          rw [hx] at c1 hd
          have n1 : (n : Int) < 7 := by omega
          have n0 : (0 : Int) ≤ (n : Int) := by omega
          clear hx
          go_wp2_with fail
          go_round
          case rel => exact ⟨n + 1, by go_num, by omega⟩
          case measure => simp [intOf]; omega
        · obtain rfl : n = 7 := by omega
          go_wp2_with fail
          go_ret
          exact ⟨rfl, HC.out.at_, HC.out.grown⟩
/-- the rows of the bare bounds so far: i whole ones, and k of the next one -/
def partB (i k : Nat) : Bd := fun x y => if x < i ∨ (x = i ∧ y < k) then bare x y else 0
theorem partB_zero (x y : Nat) : partB 0 0 x y = 0 := if_neg (by omega)
theorem partB_row (i : Nat) {x y : Nat} (hy : y < 7) : partB i 7 x y = partB (i + 1) 0 x y := by
  unfold partB
  by_cases h : x < i ∨ (x = i ∧ y < 7)
  · rw [if_pos h, if_pos (by omega)]
  · rw [if_neg h, if_neg (by omega)]
theorem partB_full {x y : Nat} (hx : x < 7) : partB 7 0 x y = bare x y := if_pos (.inl hx)
theorem partB_skip (i : Nat) : ∀ x y, partB i i x y = partB i (i + 1) x y := fun x y => by
  unfold partB
  by_cases h : x < i ∨ (x = i ∧ y < i)
  · rw [if_pos h, if_pos (by omega)]
  · rw [if_neg h]
    by_cases h2 : x < i ∨ (x = i ∧ y < i + 1)
    · rw [if_pos h2]
      have : x = i ∧ y = i := by omega
      unfold bare
      rw [if_pos (by omega)]
    · rw [if_neg h2]
theorem partB_set (i k : Nat) (hne : i ≠ k) : (fun x y => if x = i ∧ y = k then free else partB i k x y) = partB i (k + 1) := by
  funext x y
  unfold partB
  by_cases h : x = i ∧ y = k
  · rw [if_pos h, if_pos (by omega)]
    unfold bare
    rw [if_neg (by omega)]
  · rw [if_neg h]
    by_cases h2 : x < i ∨ (x = i ∧ y < k)
    · rw [if_pos h2, if_pos (by omega)]
    · rw [if_neg h2, if_neg (by omega)]
theorem BdAt.congr {w : World} {a : Nat} {b c : Bd} (h : BdAt w a b) (e : ∀ x y, x < 7 → y < 7 → b x y = c x y) : BdAt w a c := ⟨h.lt, fun i j hi hj => by rw [← e i j hi hj]; exact h.cell i j hi hj, h.frz⟩
/-- what rock hands back -/
def Rocked (w w' : World) (b : Bd) (e : Ending) : Prop := ∃ a, e = .returned (.pointer (some ⟨a, 0, none⟩)) ∧ BdAt w' a b ∧ w.heap.size ≤ a ∧ Below w.heap.size w w'
theorem below_grown2 {w w' w'' : World} {a : Nat} (h : Below w.heap.size w w') (hg : w'.grownBy w'' (some a)) (ha : w.heap.size ≤ a) : Below w.heap.size w w'' :=
  h.grown hg h.size (fun k hk => by injection hk with hk; omega)
set_option maxHeartbeats 8000000 in
set_option maxRecDepth 100000 in
theorem rock_any2 (n : Nat) (w : World) (hn : n ≤ 6) :
    Calls Tryd.prog 43 #[.int .i64 n] w fun e w' => Rocked w w' (rockB n) e := by
  go_enter Tryd.func43, Tryd.ntmps43
  go_wp2_with fail
  go_loopw [9] (fun i wr => ∃ k : Nat, i = .int .i64 k ∧ k ≤ 7 ∧ BdAt wr w.heap.size (partB k 0) ∧ Below w.heap.size w wr) (fun i _ => 7 - (intOf i).toNat)
  case atStart =>
    refine ⟨0, rfl, by omega, ⟨by simp, fun i j hi hj => ?_, fun k => by simp⟩, bAlloc (Below.refl _ _) _⟩
    rw [partB_zero]
    rcases (by omega : i = 0 ∨ i = 1 ∨ i = 2 ∨ i = 3 ∨ i = 4 ∨ i = 5 ∨ i = 6) with rfl | rfl | rfl | rfl | rfl | rfl | rfl <;> rcases (by omega : j = 0 ∨ j = 1 ∨ j = 2 ∨ j = 3 ∨ j = 4 ∨ j = 5 ∨ j = 6) with rfl | rfl | rfl | rfl | rfl | rfl | rfl <;> simp [go_sem]
  case round =>
    obtain ⟨k, rfl, hk7, hB, hbel⟩ := hrel
    have HB := Lib.hid hB
    have HL := Lib.hid hbel
    clear hB hbel
    by_cases hk : k < 7
    · have k1 : (k : Int) < 7 := by omega
      have k0 : (0 : Int) ≤ (k : Int) := by omega
      go_wp2_with fail
      go_loopw [12] (fun j wr => ∃ m : Nat, j = .int .i64 m ∧ m ≤ 7 ∧ BdAt wr w.heap.size (partB k m) ∧ Below w.heap.size w wr) (fun j _ => 7 - (intOf j).toNat)
      case atStart => exact ⟨0, rfl, by omega, HB.out, HL.out⟩
      case round =>
        obtain ⟨m, rfl, hm7, hB2, hbel⟩ := hrel
        have HB2 := Lib.hid hB2
        have HL2 := Lib.hid hbel
        clear hbel
        by_cases hm : m < 7
        · have m1 : (m : Int) < 7 := by omega
          have m0 : (0 : Int) ≤ (m : Int) := by omega
          by_cases hkm : k = m
          · subst hkm
            clear hB2
            go_wp2_with fail
            go_roundw
            case rel => exact ⟨k + 1, by go_num, by omega, HB2.out.congr fun x y _ _ => partB_skip k x y, HL2.out⟩
            case measure => simp [intOf]; omega
          · have c1 := hB2.cell k m hk hm
            have f1 := hB2.frz (k * 7 + m)
            have hlt := hB2.lt
            have hne : ((k : Int) != (m : Int)) = true := bne_iff_ne.2 (by omega)
            have hne2 : ((k : Int) == (m : Int)) = false := beq_eq_false_iff_ne.2 (by omega)
            have HS := Lib.hid (show BdAt (wr.setCell ⟨w.heap.size, k * 7 + m, none⟩ (.int .i64 1048576)) w.heap.size (partB k (m + 1)) by
              have := hB2.set hk hm 1048576
              rw [← partB_set k m hkm]
              exact this)
            have HLS := Lib.hid (bSet (p := ⟨w.heap.size, k * 7 + m, none⟩) (Nat.le_refl _) HL2.out (.int .i64 1048576))
            clear hB2 hkm
            go_wp2_with fail
            go_roundw
            case rel => exact ⟨m + 1, by go_num, by omega, HS.out, HLS.out⟩
            case measure => simp [intOf]; omega
        · obtain rfl : m = 7 := by omega
          clear hB2
          go_wp2_with fail
          go_roundw
          case rel => exact ⟨k + 1, by go_num, by omega, HB2.out.congr fun x y _ hy => partB_row k hy, HL2.out⟩
          case measure => simp [intOf]; omega
    · obtain rfl : k = 7 := by omega
      go_wp2_with fail
      go_loopw [27] (fun j wr => ∃ m : Nat, j = .int .i64 m ∧ m ≤ n ∧ BdAt wr w.heap.size (rockB m) ∧ Below w.heap.size w wr) (fun j _ => n - (intOf j).toNat)
      case atStart => exact ⟨0, rfl, by omega, HB.out.congr fun x y hx _ => partB_full hx, HL.out⟩
      case round =>
        obtain ⟨m, rfl, hmn, hB2, hbel⟩ := hrel
        have HB2 := Lib.hid hB2
        have HL2 := Lib.hid hbel
        clear hbel hB2
        by_cases hm : m < n
        · have m1 : (m : Int) < (n : Int) := by omega
          have HM7 := Lib.hid (show m < 7 by omega)
          go_wp2_with fail
          refine (leave_at2 _ _ _ 6 m rfl rfl _ _ _ (by decide) HM7.out HB2.out).mono ?_
          rintro e w3 ⟨rfl, h3, g3⟩
          have HB3 := Lib.hid h3
          have HL3 := Lib.hid (below_grown2 HL2.out g3 (Nat.le_refl _))
          clear h3 g3
          go_wp2_with fail
          refine (leave_at2 _ _ _ m 6 rfl rfl _ _ _ HM7.out (by decide) HB3.out).mono ?_
          rintro e w4 ⟨rfl, h4, g4⟩
          have HB4 := Lib.hid (show BdAt w4 w.heap.size (rockB (m + 1)) from h4)
          have HL4 := Lib.hid (below_grown2 HL3.out g4 (Nat.le_refl _))
          clear h4 g4
          go_wp2_with fail
          go_roundw
          case rel =>
            (repeat apply Exists.intro)
            refine ⟨⟨m + 1, ?_, by omega, HB4.out, HL4.out⟩, rfl⟩
            go_num
          case measure => simp [intOf]; omega
        · obtain rfl : m = n := by omega
          go_wp2_with fail
          go_ret
          exact ⟨_, rfl, HB2.out, Nat.le_refl _, HL2.out⟩
end Go.Proofs.YtdboicnlkbnbnaaDoor
