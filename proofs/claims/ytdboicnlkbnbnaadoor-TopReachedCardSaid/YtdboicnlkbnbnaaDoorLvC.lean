/- Walks of the package levels: isWell, Check, open, span, Level, of a valid town that has a truth. -/
import Derived.Test.YtdboicnlkbnbnaaDoorLvB
namespace Go.Proofs.YtdboicnlkbnbnaaDoor
open Go.RowKit Go.Sort
theorem within_lv (n lo hi : Int) (w : World) : Calls Tryd.prog 37 #[.int .i64 n, .int .i64 lo, .int .i64 hi] w fun e w' => e = .returned (.bool (inR n lo hi)) ∧ w = w' := by
  go_enter Tryd.func37, Tryd.ntmps37
  go_wp2
  all_goals
    go_ret
    exact ⟨ret_bool (by simp [inR]; omega), rfl⟩
theorem within_lt (n lo hi : Int) (w : World) (h : lo ≤ n ∧ n ≤ hi) : Calls Tryd.prog 37 #[.int .i64 n, .int .i64 lo, .int .i64 hi] w fun e w' => e = .returned (.bool true) ∧ w = w' :=
  (within_lv n lo hi w).mono fun e w' ⟨he, hw⟩ => ⟨by rw [he, inR_t h], hw⟩
theorem isWell_lt (As Al : Option Addr) (cs cl : Nat) (t : Lt) (n : Int) (w : World) (h0 : 0 ≤ t.wells) (h1 : t.wells ≤ 6) (h : 0 ≤ n ∧ n < t.wells) :
    Calls Tryd.prog 26 #[.agg #[.int .i64 t.wells, .slice As t.ns cs, .slice Al t.nl cl], .int .i64 n] w fun e w' => e = .returned (.bool true) ∧ Below w.heap.size w w' := by
  have HH := Lib.hid (show 0 ≤ n ∧ n ≤ t.wells - 1 by omega)
  go_enter Tryd.func26, Tryd.ntmps26
  go_wp2_with (go_at_call 37; refine (within_lt _ _ _ _ HH.out).mono ?_; rintro e w' ⟨rfl, rfl⟩)
  go_ret
  exact ⟨rfl, bAlloc (Below.refl _ _) _⟩
set_option maxHeartbeats 8000000 in
set_option maxRecDepth 100000 in
theorem levCheck_ok (As Al : Option Addr) (cs cl : Nat) (t : Lt) (w : World) (ok : t.Ok) (hT : LtAt w As Al t) :
    Calls Tryd.prog 34 #[.agg #[.int .i64 t.wells, .slice As t.ns cs, .slice Al t.nl cl]] w fun e w' => e = .returned (.int .i64 0) ∧ Below w.heap.size w w' := by
  have hb0 := bAlloc (Below.refl w.heap.size w) (.cells #[.int .i64 t.wells, .slice As t.ns cs, .slice Al t.nl cl] 25)
  have HT := Lib.hid (hT.mono hb0)
  have HB := Lib.hid hb0
  have w0 := ok.w0
  have w1 := ok.w1
  have ns8 := ok.ns
  have nl8 := ok.nl
  have HOK := Lib.hid ok
  clear hT hb0 ok
  go_enter Tryd.func34, Tryd.ntmps34
  go_wp2_with (go_at_call 37; refine (within_lt _ _ _ _ ⟨w0, w1⟩).mono ?_; rintro e w' ⟨rfl, rfl⟩)
  go_loopw [26] (fun i wr => ∃ k : Nat, i = .int .i64 k ∧ k ≤ t.ns ∧ Below (w.alloc (.cells #[.int .i64 t.wells, .slice As t.ns cs, .slice Al t.nl cl] 25)).heap.size (w.alloc (.cells #[.int .i64 t.wells, .slice As t.ns cs, .slice Al t.nl cl] 25)) wr) (fun i _ => t.ns - (intOf i).toNat)
  case atStart => exact ⟨0, rfl, Nat.zero_le _, Below.refl _ _⟩
  case round =>
    obtain ⟨k, rfl, hk, hbel⟩ := hrel
    have HL3 := Lib.hid hbel
    obtain ⟨bc3, bf3⟩ := bcell hbel
    have hz3 := hbel.size
    simp only [World.size_alloc] at hz3
    have hy3 : w.heap.size < wr.heap.size := hz3
    clear hbel
    by_cases hlt : k < t.ns
    · rcases (HT.out.mono HL3.out).snd with h0 | ⟨b, o, hA, hb, hcell⟩
      · omega
      obtain ⟨c0, c1, c2⟩ := hcell k hlt
      have hs := HOK.out.snd k hlt
      have s0 := hs.w0
      have s1 := hs.w1
      have s2 := hs.l0
      have s3 := hs.l1
      have s4 := hs.h1
      clear hcell hs
      have k1 : (k : Int) < (t.ns : Int) := by omega
      subst hA
      go_wp2_with fail
      refine (isWell_lt _ _ _ _ t _ _ w0 w1 ⟨s0, s1⟩).mono ?_
      rintro e w4 ⟨rfl, hb4⟩
      have HL4 := Lib.hid (bTrans (bAlloc HL3.out _) hb4)
      obtain ⟨bc4, bf4⟩ := bcell hb4
      have hz4 := hb4.size
      simp only [World.size_alloc] at hz4
      have hy4 : wr.heap.size < w4.heap.size := hz4
      clear hb4
      go_wp2_with (go_at_call 37; refine (within_lt _ _ _ _ ⟨s2, s3⟩).mono ?_; rintro e w' ⟨rfl, rfl⟩)
      go_roundw
      case rel =>
        first
        | exact ⟨k + 1, by go_num, by omega, HL4.out⟩
        | ((repeat apply Exists.intro)
           refine ⟨⟨k + 1, ?_, by omega, HL4.out⟩, rfl⟩
           go_num)
      case measure => simp [intOf]; omega
    · obtain rfl : k = t.ns := by omega
      go_wp2_with fail
      clear bc3 bf3
      go_loopw [52] (fun i wr => ∃ k : Nat, i = .int .i64 k ∧ k ≤ t.nl ∧ Below (w.alloc (.cells #[.int .i64 t.wells, .slice As t.ns cs, .slice Al t.nl cl] 25)).heap.size (w.alloc (.cells #[.int .i64 t.wells, .slice As t.ns cs, .slice Al t.nl cl] 25)) wr) (fun i _ => t.nl - (intOf i).toNat)
      case atStart => exact ⟨0, rfl, Nat.zero_le _, HL3.out⟩
      case round =>
        obtain ⟨k, rfl, hk, hbel⟩ := hrel
        have HL5 := Lib.hid hbel
        obtain ⟨bc5, bf5⟩ := bcell hbel
        have hz5 := hbel.size
        simp only [World.size_alloc] at hz5
        have hy5 : w.heap.size < wr.heap.size := hz5
        clear hbel
        by_cases hlt : k < t.nl
        · rcases (HT.out.mono HL5.out).slp with h0 | ⟨b, o, hA, hb, hcell⟩
          · omega
          obtain ⟨c0, c1, c2, c3⟩ := hcell k hlt
          have hs := HOK.out.slp k hlt
          have s0 := hs.a0
          have s1 := hs.a1
          have s2 := hs.b0
          have s3 := hs.b1
          have s4 := hs.l0
          have s5 := hs.l1
          have s6 := hs.h1
          have s7 : ((t.slp k).a == (t.slp k).b) = false := beq_eq_false_iff_ne.2 hs.ne
          clear hcell hs
          have k1 : (k : Int) < (t.nl : Int) := by omega
          subst hA
          go_wp2_with fail
          refine (isWell_lt _ _ _ _ t _ _ w0 w1 ⟨s0, s1⟩).mono ?_
          rintro e w6 ⟨rfl, hb6⟩
          have HL6 := Lib.hid (bTrans (bAlloc HL5.out _) hb6)
          obtain ⟨bc6, bf6⟩ := bcell hb6
          have hz6 := hb6.size
          simp only [World.size_alloc] at hz6
          have hy6 : wr.heap.size < w6.heap.size := hz6
          clear hb6
          go_wp2_with fail
          refine (isWell_lt _ _ _ _ t _ _ w0 w1 ⟨s2, s3⟩).mono ?_
          rintro e w7 ⟨rfl, hb7⟩
          have HL7 := Lib.hid (bTrans HL6.out hb7)
          obtain ⟨bc7, bf7⟩ := bcell hb7
          have hz7 := hb7.size
          have hy7 : wr.heap.size < w7.heap.size := by omega
          clear hb7
          go_wp2_with (go_at_call 37; refine (within_lt _ _ _ _ ⟨s4, s5⟩).mono ?_; rintro e w' ⟨rfl, rfl⟩)
          go_roundw
          case rel =>
            first
            | exact ⟨k + 1, by go_num, by omega, HL7.out⟩
            | ((repeat apply Exists.intro)
               refine ⟨⟨k + 1, ?_, by omega, HL7.out⟩, rfl⟩
               go_num)
          case measure => simp [intOf]; omega
        · obtain rfl : k = t.nl := by omega
          go_wp2_with fail
          go_ret
          exact ⟨rfl, bTrans HB.out HL5.out⟩
/-- what open hands back, where there is a truth -/
def OpenLv (w w' : World) (t : Lt) (e : Ending) : Prop := ∃ a, e = .returned (.tuple #[.pointer (some ⟨a, 0, none⟩), .int .i64 0]) ∧ BdAt w' a t.shut ∧ Below w.heap.size w w'
set_option maxHeartbeats 4000000 in
set_option maxRecDepth 100000 in
theorem openLv_ok (As Al : Option Addr) (cs cl : Nat) (t : Lt) (l : Nat → Int) (w : World) (ok : t.Ok) (ht : t.Truth l) (hT : LtAt w As Al t) :
    Calls Tryd.prog 25 #[.agg #[.int .i64 t.wells, .slice As t.ns cs, .slice Al t.nl cl], .bool true] w fun e w' => OpenLv w w' t e := by
  have hb0 := bAlloc (Below.refl w.heap.size w) (.cells #[.int .i64 t.wells, .slice As t.ns cs, .slice Al t.nl cl] 25)
  have HT := Lib.hid (hT.mono hb0)
  have HB := Lib.hid hb0
  clear hT hb0
  go_enter Tryd.func25, Tryd.ntmps25
  go_wp2_with fail
  refine (levCheck_ok _ _ _ _ t _ ok HT.out).mono ?_
  rintro e w1 ⟨rfl, hb1⟩
  have HB1 := Lib.hid hb1
  obtain ⟨bc1, bf1⟩ := bcell hb1
  have hz1 := hb1.size
  simp only [World.size_alloc] at hz1
  have hy1 : w.heap.size < w1.heap.size := hz1
  clear hb1
  go_wp2_with fail
  refine (said_any _ _ _ _ t l _ ok ht (HT.out.mono HB1.out)).mono ?_
  rintro e w2 ⟨a, rfl, h2, _, hb2⟩
  have HB2 := Lib.hid h2
  go_wp2_with fail
  go_ret2
  exact ⟨a, rfl, HB2.out, bTrans HB.out (bTrans HB1.out hb2)⟩
set_option maxHeartbeats 4000000 in
set_option maxRecDepth 100000 in
theorem span_any (a p q : Nat) (pi qi : Int) (hpi : pi = p) (hqi : qi = q) (b : Bd) (w : World) (hp : p < 7) (hq : q < 7) (hB : BdAt w a b) (h1 : -9999999 ≤ b q p) (h2 : b q p ≤ 9999999) :
    Calls Tryd.prog 27 #[.pointer (some ⟨a, 0, none⟩), .int .i64 pi, .int .i64 qi] w fun e w' => e = .returned (.agg #[.int .i64 (-(b q p)), .int .i64 (b p q)]) ∧ Below w.heap.size w w' := by
  subst hpi hqi
  have c1 := hB.cell p q hp hq
  have c2 := hB.cell q p hq hp
  have hlt := hB.lt
  obtain ⟨x, hx⟩ : ∃ x, b p q = x := ⟨_, rfl⟩
  obtain ⟨y, hy⟩ : ∃ y, b q p = y := ⟨_, rfl⟩
  rw [hx] at c1 ⊢
  rw [hy] at c2 h1 h2 ⊢
  have e1 : IntKind.i64.wrap (-y) = -y := IntWalk.i64_in _ (by omega)
  have p0 : (0 : Int) ≤ (p : Int) := by omega
  have p1 : (p : Int) < 7 := by omega
  have q0 : (0 : Int) ≤ (q : Int) := by omega
  have q1 : (q : Int) < 7 := by omega
  clear hB hx hy
  go_enter Tryd.func27, Tryd.ntmps27
  go_wp2_with fail
  refine wp_region_vals 16 [.pointer (some ⟨a, 0, none⟩), .int .i64 q, .int .i64 p, .pointer (some ⟨a, 0, none⟩), .pointer (some ⟨a, q * 7, none⟩), .pointer (some ⟨a, q * 7 + p, none⟩), .int .i64 y, .int .i64 (-y), .pointer (some ⟨a, 0, none⟩), .int .i64 p, .int .i64 q, .pointer (some ⟨a, 0, none⟩), .pointer (some ⟨a, p * 7, none⟩), .pointer (some ⟨a, p * 7 + q, none⟩), .int .i64 x, .agg #[.int .i64 (-y), .int .i64 x]] (by kernel_rfl) (by kernel_rfl) rfl ?_
  simp only [List.map_cons, List.map_nil]
  iterate 16 refine wpStir_const (by go_simp) ?_
  refine wpStir_end (fun w5 hb5 hd => ?_)
  clear hd
  simp only [List.drop_succ_cons, List.drop_zero]
  simp only [Act.put, List.setIfInBounds_toArray, List.set_cons_succ, List.set_cons_zero]
  clear c1 c2 e1
  obtain ⟨bc5, bf5⟩ := bcell hb5
  have hz5 := hb5.size
  simp only [World.size_alloc] at hz5
  go_wp2_with fail
  refine bodyPost_ret (v := .agg #[.int .i64 (-y), .int .i64 x]) (by simp [results, Tryd.results27, go_sem, *]) rfl ⟨rfl, ?_⟩
  (repeat (first | (with_reducible exact Below.refl _ _) | (with_reducible refine bAlloc ?_ _) | (with_reducible refine bDrew ?_) | (with_reducible refine bGrow ?_ _ _) | (with_reducible refine bSet ?_ ?_ _; (first | exact Nat.le_refl _ | exact Nat.le_add_right _ _ | (simp; omega))) | (with_reducible refine bTrans ?_ (by assumption))))
def openS (v : Value) : Prop := ∃ a, v = .tuple #[.pointer (some ⟨a, 0, none⟩), .int .i64 0]
def openR (b : Bd) (w : World) (v : Value) : Prop := ∃ a, v = .tuple #[.pointer (some ⟨a, 0, none⟩), .int .i64 0] ∧ BdAt w a b
theorem openR_get {b : Bd} {w : World} {a : Nat} (h : openR b w (.tuple #[.pointer (some ⟨a, 0, none⟩), .int .i64 0])) : BdAt w a b := by
  obtain ⟨a', e, h⟩ := h
  injection e with e
  have e := congrArg (fun x : Array Value => x[0]?) e
  simp at e
  exact e ▸ h
def ptrS (v : Value) : Prop := ∃ a, v = .pointer (some ⟨a, 0, none⟩)
def ptrR (b : Bd) (w : World) (v : Value) : Prop := ∃ a, v = .pointer (some ⟨a, 0, none⟩) ∧ BdAt w a b
theorem ptrR_get {b : Bd} {w : World} {a : Nat} (h : ptrR b w (.pointer (some ⟨a, 0, none⟩))) : BdAt w a b := by
  obtain ⟨a', e, h⟩ := h
  injection e with e
  injection e with e
  injection e with e
  exact e ▸ h
theorem crossOpen (md : Region.Mode) (ops : Array Oper) (N : Nat) (c0 c1 c2 c3 c7 c9 : Value) (s s' : Value → Prop) (r r' : World → Value → Prop) : crossAll md ops N [.const c0, .const c1, .const c2, .const c3, .held s r, .held s r, .held s' r', .const c7, .held s' r', .const c9] := by
  intro i s r K h
  match i, h with
  | 0, h => injection h with h; cases h
  | 1, h => injection h with h; cases h
  | 2, h => injection h with h; cases h
  | 3, h => injection h with h; cases h
  | 4, h => injection h with h; cases h
  | 5, h => injection h with h; cases h
  | 6, h => injection h with h; cases h
  | 7, h => injection h with h; cases h
  | 8, h => injection h with h; cases h
  | 9, h => injection h with h; cases h
  | i + 10, h => simp at h
set_option maxHeartbeats 4000000 in
set_option maxRecDepth 100000 in
theorem Level_any (As Al : Option Addr) (cs cl : Nat) (t : Lt) (l : Nat → Int) (n : Int) (w : World) (ok : t.Ok) (ht : t.Truth l) (hn : 0 ≤ n ∧ n < t.wells) (hT : LtAt w As Al t) :
    Calls Tryd.prog 11 #[.agg #[.int .i64 t.wells, .slice As t.ns cs, .slice Al t.nl cl], .int .i64 n] w fun e w' => e = .returned (.tuple #[.agg #[.int .i64 (t.low n.toNat), .int .i64 (t.high n.toNat)], .int .i64 0]) ∧ Below w.heap.size w w' := by
  have hb0 := bAlloc (bAlloc (Below.refl w.heap.size w) (.cells #[.int .i64 t.wells, .slice As t.ns cs, .slice Al t.nl cl] 25)) (.cells #[.int .i64 0, .int .i64 0] 43)
  have HT := Lib.hid (hT.mono hb0)
  have HB := Lib.hid hb0
  have hw0 := ok.w0
  have hw1 := ok.w1
  have hbd := ((open_fine ok ht).viaK 7).bd n.toNat 6
  have HBD := Lib.hid (show -99 ≤ t.shut n.toNat 6 ∧ t.shut n.toNat 6 ≤ 1048576 from hbd)
  have HN := Lib.hid (show n = (n.toNat : Int) by omega)
  have HN7 := Lib.hid (show n.toNat < 7 by omega)
  clear hT hb0 hbd
  go_enter Tryd.func11, Tryd.ntmps11
  go_wp2_with fail
  refine wp_region_stir 10 [.const (.agg #[.int .i64 t.wells, .slice As t.ns cs, .slice Al t.nl cl]), .const (.agg #[.int .i64 t.wells, .slice As t.ns cs, .slice Al t.nl cl]), .const (.int .i64 n), .const (.bool true), .held openS (openR t.shut), .held openS (openR t.shut), .held ptrS (ptrR t.shut), .const (.int .i64 0), .held ptrS (ptrR t.shut), .const (.int .i64 0)] (by kernel_rfl) (by kernel_rfl) rfl ⟨trivial, trivial, trivial, trivial, ⟨⟨_, 0, rfl⟩, fun _ _ _ hb ⟨a, e, h⟩ => ⟨a, e, h.mono hb⟩⟩, ⟨⟨_, 0, rfl⟩, fun _ _ _ hb ⟨a, e, h⟩ => ⟨a, e, h.mono hb⟩⟩, ⟨⟨_, 0, rfl⟩, fun _ _ _ hb ⟨a, e, h⟩ => ⟨a, e, h.mono hb⟩⟩, trivial, ⟨⟨_, 0, rfl⟩, fun _ _ _ hb ⟨a, e, h⟩ => ⟨a, e, h.mono hb⟩⟩, trivial, trivial⟩ (crossOpen _ _ _ _ _ _ _ _ _ _ _ _ _) ?_
  refine wpStir_const (by go_simp) ?_
  refine wpStir_const (by go_simp) ?_
  refine wpStir_const (by go_simp) ?_
  refine wpStir_call rfl (fun w' hb hd => ?_) ?_
  · clear hd
    go_simp
    refine (isWell_lt _ _ _ _ t _ _ hw0 hw1 hn).mono ?_
    rintro e w'' ⟨he, hb'⟩
    exact ⟨he, hb'⟩
  refine wpStir_held rfl (fun w' hb hd => ?_) (fun v hv => ?_)
  · clear hd
    go_simp
    refine (openLv_ok _ _ _ _ t l _ ok ht (HT.out.mono hb)).mono ?_
    rintro e w'' ⟨a, he, h1, hb'⟩
    exact ⟨_, he, hb', ⟨a, rfl⟩, a, rfl, h1⟩
  obtain ⟨a4, rfl⟩ := hv
  refine wpStir_held rfl (fun w' hb hd => ?_) (fun v hv => ?_)
  · have h := openR_get (hd.1 (by kernel_rfl))
    clear hd
    go_simp
    exact ⟨⟨_, rfl⟩, _, rfl, h⟩
  obtain ⟨a5, rfl⟩ := hv
  refine wpStir_held rfl (fun w' hb hd => ?_) (fun v hv => ?_)
  · have h := openR_get (hd.1 (by kernel_rfl))
    clear hd
    go_simp
    exact ⟨⟨_, rfl⟩, _, rfl, h⟩
  obtain ⟨a6, rfl⟩ := hv
  refine wpStir_const (by go_simp) ?_
  refine wpStir_held rfl (fun w' hb hd => ?_) (fun v hv => ?_)
  · have h := ptrR_get (hd.1 (by kernel_rfl))
    clear hd
    go_simp
    exact ⟨⟨_, rfl⟩, _, rfl, h⟩
  obtain ⟨a, rfl⟩ := hv
  refine wpStir_const (by go_simp) ?_
  refine wpStir_end (fun w5 hb5 hd => ?_)
  have h5 := ptrR_get hd.1
  clear hd
  simp only [List.drop_succ_cons, List.drop_zero]
  simp only [Act.put, List.setIfInBounds_toArray, List.set_cons_succ, List.set_cons_zero]
  have HB5 := Lib.hid h5
  have HL5 := Lib.hid hb5
  have hz5 := hb5.size
  simp only [World.size_alloc] at hz5
  obtain ⟨bc5, bf5⟩ := bcell hb5
  clear h5 hb5
  go_wp2_with fail
  refine (span_any a 6 n.toNat _ _ rfl HN.out _ _ (by decide) HN7.out HB5.out (by have := HBD.out.1; omega) (by have := HBD.out.2; omega)).mono ?_
  rintro e w6 ⟨rfl, hb6⟩
  have HL6 := Lib.hid (bTrans HL5.out hb6)
  obtain ⟨bc6, bf6⟩ := bcell HL6.out
  have hz6 := HL6.out.size
  simp only [World.size_alloc] at hz6
  clear hb6 bc5 bf5 hz5
  go_wp2_with fail
  have hl6 := HL6.out
  have hb0 := HB.out
  refine bodyPost_ret (v := .tuple #[.agg #[.int .i64 (-(t.shut n.toNat 6)), .int .i64 (t.shut 6 n.toNat)], .int .i64 0]) (by simp [results, Tryd.results11, go_sem, *]) rfl ⟨rfl, ?_⟩
  (repeat (first | (with_reducible exact Below.refl _ _) | (with_reducible refine bAlloc ?_ _) | (with_reducible refine bDrew ?_) | (with_reducible refine bGrow ?_ _ _) | (with_reducible refine bSet ?_ ?_ _; (first | exact Nat.le_refl _ | exact Nat.le_add_right _ _ | (simp; omega))) | (with_reducible refine bTrans ?_ (by assumption))))
end Go.Proofs.YtdboicnlkbnbnaaDoor
