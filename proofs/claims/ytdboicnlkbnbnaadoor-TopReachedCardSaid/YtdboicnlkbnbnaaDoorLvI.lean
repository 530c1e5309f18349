/- Walks of the reference of levels: cut, Spans, IsOne, of a valid town: if it says that there is a truth, there is one. -/
import Derived.Test.YtdboicnlkbnbnaaDoorLvH
import Derived.Laws.MakeOwn
namespace Go.Proofs.YtdboicnlkbnbnaaDoor
open Go.RowKit Go.Sort
theorem cut_any (a b c d : Int) (w : World) : Calls Tryd.prog 42 #[.agg #[.int .i64 a, .int .i64 b], .agg #[.int .i64 c, .int .i64 d]] w fun e w' => e = .returned (.agg #[.int .i64 (cutS (a, b) (c, d)).1, .int .i64 (cutS (a, b) (c, d)).2]) ∧ Below w.heap.size w w' := by
  obtain ⟨x, hx⟩ : ∃ x, (if a < c then c else a) = x := ⟨_, rfl⟩
  obtain ⟨y, hy⟩ : ∃ y, (if d < b then d else b) = y := ⟨_, rfl⟩
  have HX := Lib.hid (show (cutS (a, b) (c, d)).1 = x by rw [← hx]; show max a c = _; split <;> omega)
  have HY := Lib.hid (show (cutS (a, b) (c, d)).2 = y by rw [← hy]; show min b d = _; split <;> omega)
  go_enter Tryd.func42, Tryd.ntmps42
  go_wp2_with fail
  refine bodyPost_ret (v := .agg #[.int .i64 x, .int .i64 y]) (by simp [results, Tryd.results42, go_sem, *]) rfl ⟨by rw [HX.out, HY.out], ?_⟩
  (repeat (first | (with_reducible exact Below.refl _ _) | (with_reducible refine bAlloc ?_ _) | (with_reducible refine bDrew ?_) | (with_reducible refine bGrow ?_ _ _) | (with_reducible refine bSet ?_ ?_ _; (first | exact Nat.le_refl _ | exact Nat.le_add_right _ _ | (simp; omega))) | (with_reducible refine bTrans ?_ (by assumption))))
/-- spans in a block of their own -/
structure SpAt (w : World) (b n : Nat) (l : Sp) : Prop where
  lt : b < w.heap.size
  cell : ∀ i, i < n → w.cell? ⟨b, i * 2, none⟩ = some (.int .i64 (l i).1) ∧ w.cell? ⟨b, i * 2 + 1, none⟩ = some (.int .i64 (l i).2)
  frz : ∀ k, w.frozen? ⟨b, k, none⟩ = false
theorem SpAt.mono {w w' : World} {b n : Nat} {l : Sp} (h : SpAt w b n l) (hb : Below w.heap.size w w') : SpAt w' b n l :=
  ⟨Nat.lt_of_lt_of_le h.lt hb.size, fun i hi => ⟨(hb.cell (p := ⟨b, _, none⟩) h.lt).trans (h.cell i hi).1, (hb.cell (p := ⟨b, _, none⟩) h.lt).trans (h.cell i hi).2⟩, fun k => (hb.frozen (p := ⟨b, k, none⟩) h.lt).trans (h.frz k)⟩
theorem SpAt.congr {w : World} {b n : Nat} {l k : Sp} (h : SpAt w b n l) (e : ∀ i, i < n → l i = k i) : SpAt w b n k := ⟨h.lt, fun i hi => by rw [← e i hi]; exact h.cell i hi, h.frz⟩
theorem SpAt.high {w : World} {b n : Nat} {l : Sp} (h : SpAt w b n l) {p : Nat} (hp : p < n) (y : Int) : SpAt (w.setCell ⟨b, p * 2 + 1, none⟩ (.int .i64 y)) b n (setS l p ((l p).1, y)) := by
  refine ⟨by simpa [World.setCell] using h.lt, fun i hi => ?_, fun k => by rw [World.frozen?_setCell]; exact h.frz k⟩
  have c := h.cell i hi
  by_cases e : i = p
  · subst e
    rw [setS_at]
    exact ⟨(World.cell?_setCell_other _ _ _ _ (fun e' => by injection e' with _ e'; omega)).trans c.1, World.cell?_setCell_same _ _ _ c.2⟩
  · rw [setS_ne _ _ e]
    exact ⟨(World.cell?_setCell_other _ _ _ _ (fun e' => by injection e' with _ e'; omega)).trans c.1, (World.cell?_setCell_other _ _ _ _ (fun e' => by injection e' with _ e'; omega)).trans c.2⟩
theorem SpAt.set {w : World} {b n : Nat} {l : Sp} (h : SpAt w b n l) {p : Nat} (hp : p < n) (x y : Int) : SpAt ((w.setCell ⟨b, p * 2, none⟩ (.int .i64 x)).setCell ⟨b, p * 2 + 1, none⟩ (.int .i64 y)) b n (setS l p (x, y)) := by
  refine ⟨by simpa [World.setCell] using h.lt, fun i hi => ?_, fun k => by rw [World.frozen?_setCell, World.frozen?_setCell]; exact h.frz k⟩
  have c := h.cell i hi
  by_cases e : i = p
  · subst e
    rw [setS_at]
    refine ⟨(World.cell?_setCell_other _ _ _ _ (fun e' => by injection e' with _ e'; omega)).trans (World.cell?_setCell_same _ _ _ c.1), World.cell?_setCell_same _ _ _ ((World.cell?_setCell_other _ _ _ _ (fun e' => by injection e' with _ e'; omega)).trans c.2)⟩
  · rw [setS_ne _ _ e]
    exact ⟨(World.cell?_setCell_other _ _ _ _ (fun e' => by injection e' with _ e'; omega)).trans ((World.cell?_setCell_other _ _ _ _ (fun e' => by injection e' with _ e'; omega)).trans c.1),
      (World.cell?_setCell_other _ _ _ _ (fun e' => by injection e' with _ e'; omega)).trans ((World.cell?_setCell_other _ _ _ _ (fun e' => by injection e' with _ e'; omega)).trans c.2)⟩
/-- a variable of the call's own: its cells -/
structure BoxAt (w : World) (a : Nat) (cs : List Value) : Prop where
  lt : a < w.heap.size
  cell : ∀ i v, cs[i]? = some v → w.cell? ⟨a, i, none⟩ = some v
theorem BoxAt.mono {w w' : World} {a : Nat} {cs : List Value} (h : BoxAt w a cs) (hb : Below w.heap.size w w') : BoxAt w' a cs :=
  ⟨Nat.lt_of_lt_of_le h.lt hb.size, fun i v hi => (hb.cell (p := ⟨a, i, none⟩) h.lt).trans (h.cell i v hi)⟩
theorem BoxAt.set {w : World} {a b : Nat} {cs : List Value} (h : BoxAt w a cs) (hne : b ≠ a) (o : Nat) (u : Value) : BoxAt (w.setCell ⟨b, o, none⟩ u) a cs :=
  ⟨by simpa [World.setCell] using h.lt, fun i v hi => (World.cell?_setCell_other _ _ _ _ (fun e => by injection e with e; exact hne e)).trans (h.cell i v hi)⟩
theorem BoxAt.two {w : World} {a : Nat} {x y : Value} (h : a < w.heap.size) (h0 : w.cell? ⟨a, 0, none⟩ = some x) (h1 : w.cell? ⟨a, 1, none⟩ = some y) : BoxAt w a [x, y] :=
  ⟨h, fun i v hi => match i, hi with
    | 0, hi => by injection hi with hi; subst hi; exact h0
    | 1, hi => by injection hi with hi; subst hi; exact h1⟩
theorem BoxAt.four {w : World} {a : Nat} {x y z u : Value} (h : a < w.heap.size) (h0 : w.cell? ⟨a, 0, none⟩ = some x) (h1 : w.cell? ⟨a, 1, none⟩ = some y) (h2 : w.cell? ⟨a, 2, none⟩ = some z) (h3 : w.cell? ⟨a, 3, none⟩ = some u) : BoxAt w a [x, y, z, u] :=
  ⟨h, fun i v hi => match i, hi with
    | 0, hi => by injection hi with hi; subst hi; exact h0
    | 1, hi => by injection hi with hi; subst hi; exact h1
    | 2, hi => by injection hi with hi; subst hi; exact h2
    | 3, hi => by injection hi with hi; subst hi; exact h3⟩
/-- the spans that memory holds -/
def spOf (w : World) (b : Nat) : Sp := fun i => (match w.cell? ⟨b, i * 2, none⟩ with | some (.int _ x) => x | _ => 0, match w.cell? ⟨b, i * 2 + 1, none⟩ with | some (.int _ x) => x | _ => 0)
theorem SpAt.of {w : World} {b n : Nat} {l : Sp} (h : SpAt w b n l) {i : Nat} (hi : i < n) : spOf w b i = l i := by
  unfold spOf
  rw [(h.cell i hi).1, (h.cell i hi).2]
theorem widthS_congr {k l : Sp} : ∀ n, (∀ i, i < n → k i = l i) → widthS k n = widthS l n
  | 0, _ => rfl
  | n + 1, h => by simp only [widthS]; rw [widthS_congr n (fun i hi => h i (by omega)), h n (by omega)]
def spMeas (n b : Nat) (v : Value) (w : World) : Nat := match v with | .bool true => (widthS (spOf w b) n + 1).toNat + 1 | _ => 0
theorem spMeas_true {n b : Nat} {w : World} {l : Sp} (h : SpAt w b n l) : spMeas n b (.bool true) w = (widthS l n + 1).toNat + 1 := by
  unfold spMeas
  rw [widthS_congr n fun i hi => h.of hi]
/-- the spans at the head of a round of the outer loop -/
structure SpHead (t : Lt) (n : Nat) (ch : Bool) (l : Sp) : Prop where
  holds : t.Holds l
  bd : ∀ i, i < n → (l i).1 ≤ 9999 ∧ -9999 ≤ (l i).2
  done : ch = false → (∀ i, i < n → (l i).1 ≤ (l i).2) ∧ ∀ j, j < t.nl → turnS (t.slp j) l = false
/-- the spans behind k slopes of a round that began with l0 -/
structure SpRound (t : Lt) (n : Nat) (l0 : Sp) (k : Nat) (ch : Bool) (l : Sp) : Prop where
  nar : Nar l l0
  bd : ∀ i, i < n → 0 ≤ (l i).1 ∧ (l i).1 ≤ 99 * (k + 1 : Nat) ∧ -(99 * (k : Int)) ≤ (l i).2 ∧ (l i).2 ≤ 99
  same : ch = false → l = l0 ∧ ∀ j, j < k → turnS (t.slp j) l0 = false
  turn : ch = true → widthS l n < widthS l0 n
theorem cutS_bd {a b : Int × Int} {lo hi : Int} (h1 : a.1 ≤ hi) (h2 : b.1 ≤ hi) (h3 : lo ≤ a.2) (h4 : lo ≤ b.2) : (cutS a b).1 ≤ hi ∧ lo ≤ (cutS a b).2 := by
  unfold cutS
  exact ⟨by show max _ _ ≤ _; omega, by show _ ≤ min _ _; omega⟩
theorem SpRound.step {t : Lt} {n : Nat} {l0 l : Sp} {k : Nat} {ch : Bool} (h : SpRound t n l0 k ch l) (hok : (t.slp k).Ok n) : SpRound t n l0 (k + 1) (ch || turnS (t.slp k) l) (stepS (t.slp k) l) := by
  have a0 := hok.a0
  have a1 := hok.a1
  have b0 := hok.b0
  have b1 := hok.b1
  have hne := hok.ne
  have l0' := hok.l0
  have l1' := hok.l1
  have h1' := hok.h1
  have hne' : (t.slp k).a.toNat ≠ (t.slp k).b.toNat := by omega
  have han : (t.slp k).a.toNat < n := by omega
  have hbn : (t.slp k).b.toNat < n := by omega
  have hnar := stepS_nar (l := l) hne'
  obtain ⟨ba0, ba1, ba2, ba3⟩ := h.bd _ han
  obtain ⟨bb0, bb1, bb2, bb3⟩ := h.bd _ hbn
  refine ⟨hnar.trans h.nar, fun i hi => ?_, fun hc => ?_, fun hc => ?_⟩
  · obtain ⟨c0, c1, c2, c3⟩ := h.bd i hi
    have hn := hnar i
    have hup : (stepS (t.slp k) l i).1 ≤ 99 * (k + 1 + 1 : Nat) ∧ -(99 * ((k + 1 : Nat) : Int)) ≤ (stepS (t.slp k) l i).2 := by
      by_cases ea : i = (t.slp k).a.toNat
      · subst ea
        rw [stepS_a]
        exact cutS_bd (by omega) (by show (l _).1 - _ ≤ _; omega) (by omega) (by show _ ≤ (l _).2 - _; omega)
      · by_cases eb : i = (t.slp k).b.toNat
        · subst eb
          rw [stepS_b hne']
          exact cutS_bd (by omega) (by show (l _).1 + _ ≤ _; omega) (by omega) (by show _ ≤ (l _).2 + _; omega)
        · have : stepS (t.slp k) l i = l i := by
            unfold stepS
            rw [setS_ne _ _ ea, setS_ne _ _ eb]
          rw [this]
          omega
    omega
  · obtain ⟨hc1, hc2⟩ := Bool.or_eq_false_iff.1 hc
    obtain ⟨e1, e2⟩ := h.same hc1
    have e3 := (stepS_same hc2).1
    subst e1
    refine ⟨e3, fun j hj => ?_⟩
    rcases Nat.lt_or_ge j k with h1 | h1
    · exact e2 j h1
    · obtain rfl : j = k := by omega
      exact hc2
  · cases ht : turnS (t.slp k) l
    · rw [ht, Bool.or_false] at hc
      rw [(stepS_same ht).1]
      exact h.turn hc
    · have h1 := stepS_turn hne' han hbn ht
      cases ch
      · rw [(h.same rfl).1] at h1 ⊢
        exact h1
      · have := h.turn rfl
        omega
theorem SpRound.start {t : Lt} {n : Nat} {l : Sp} (h : SpHead t n true l) (hn : (n : Int) = t.wells) (hle : ∀ i, i < n → (l i).1 ≤ (l i).2) : SpRound t n l 0 false l :=
  ⟨Nar.refl _, fun i hi => by
    have h1 := h.holds.lo i (by omega)
    have h2 := h.holds.hi i (by omega)
    have h3 := hle i hi
    omega, fun _ => ⟨rfl, fun j hj => by omega⟩, fun hc => by cases hc⟩
theorem SpRound.head {t : Lt} {n : Nat} {l0 l : Sp} {ch : Bool} (h : SpRound t n l0 t.nl ch l) (h0 : SpHead t n true l0) (hnl : t.nl ≤ 8) (hle : ∀ i, i < n → (l0 i).1 ≤ (l0 i).2) : SpHead t n ch l :=
  ⟨h0.holds.nar h.nar, fun i hi => by have := h.bd i hi; omega, fun hc => by
    obtain ⟨e1, e2⟩ := h.same hc
    subst e1
    exact ⟨hle, e2⟩⟩
theorem SpHead.truth {t : Lt} {n : Nat} {l : Sp} (h : SpHead t n false l) (ok : t.Ok) (hn : (n : Int) = t.wells) : ∃ g, t.Truth g := by
  obtain ⟨h1, h2⟩ := h.done rfl
  exact ⟨_, spans_truth ok h.holds (fun w hw => h1 w (by omega)) h2⟩
end Go.Proofs.YtdboicnlkbnbnaaDoor
