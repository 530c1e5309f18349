/- Ways from a depth on, as data, and how a row of them reads in memory. No condition. -/
import Derived.Test.YtbbnpneabmldnaaDoorShaftMath
import Derived.OwnWalk
import Derived.Laws.AppendOwn
import Derived.Laws.OwnMore
import Derived.Laws.IdiomCopy
namespace Go.Proofs.YtbbnpneabmldnaaDoor
open Go.RowKit Go.Sort
structure Way where
  (rings pence next : Int)
  deriving Inhabited, DecidableEq
def noWay : Way := ⟨-1, 0, 0⟩
def Way.vals (x : Way) : List Value := [.int .i64 x.rings, .int .i64 x.pence, .int .i64 x.next]
def wayL (f : Nat → Way) : Nat → List Value
  | 0 => []
  | n + 1 => wayL f n ++ (f n).vals
theorem wayL_len (f : Nat → Way) (n : Nat) : (wayL f n).length = n * 3 := by
  induction n with
  | zero => rfl
  | succ n ih => simp only [wayL, List.length_append, ih, Way.vals, List.length_cons, List.length_nil]; omega
theorem wayL_get (f : Nat → Way) {n i : Nat} (h : i < n) : (wayL f n)[i * 3]? = some (.int .i64 (f i).rings) ∧ (wayL f n)[i * 3 + 1]? = some (.int .i64 (f i).pence) ∧ (wayL f n)[i * 3 + 2]? = some (.int .i64 (f i).next) := by
  induction n with
  | zero => omega
  | succ n ih =>
    have hl := wayL_len f n
    rcases Nat.lt_or_ge i n with h1 | h1
    · obtain ⟨a, b, c⟩ := ih h1
      simp only [wayL]
      refine ⟨?_, ?_, ?_⟩ <;> rw [List.getElem?_append_left (by omega)] <;> assumption
    · obtain rfl : i = n := by omega
      simp only [wayL]
      refine ⟨?_, ?_, ?_⟩ <;> rw [List.getElem?_append_right (by omega), hl] <;> simp [Way.vals]
theorem wayL_inv (f : Nat → Way) {n j : Nat} {v : Value} (h : (wayL f n)[j]? = some v) : ∃ i, i < n ∧ ((j = i * 3 ∧ v = .int .i64 (f i).rings) ∨ (j = i * 3 + 1 ∧ v = .int .i64 (f i).pence) ∨ (j = i * 3 + 2 ∧ v = .int .i64 (f i).next)) := by
  have hj : j < n * 3 := by
    have := (List.getElem?_eq_some_iff.1 h).1
    rwa [wayL_len] at this
  obtain ⟨a, b, c⟩ := wayL_get f (n := n) (i := j / 3) (by omega)
  refine ⟨j / 3, by omega, ?_⟩
  rcases (by omega : j = j / 3 * 3 ∨ j = j / 3 * 3 + 1 ∨ j = j / 3 * 3 + 2) with e | e | e
  · rw [← e, h] at a; exact .inl ⟨e, by simpa using a⟩
  · rw [← e, h] at b; exact .inr (.inl ⟨e, by simpa using b⟩)
  · rw [← e, h] at c; exact .inr (.inr ⟨e, by simpa using c⟩)
theorem wayL_one (f : Nat → Way) (n : Nat) : ∀ v ∈ wayL f n, v.oneCell' = true := by
  intro v hv
  obtain ⟨j, hj, e⟩ := List.getElem_of_mem hv
  obtain ⟨i, _, h⟩ := wayL_inv f (n := n) (j := j) (v := v) (by rw [List.getElem?_eq_getElem hj, e])
  rcases h with ⟨_, rfl⟩ | ⟨_, rfl⟩ | ⟨_, rfl⟩ <;> rfl
structure WaysAt (w : World) (g n : Nat) (f : Nat → Way) : Prop where
  lt : g < w.heap.size
  c0 : ∀ i, i < n → w.cell? ⟨g, i * 3, none⟩ = some (.int .i64 (f i).rings)
  c1 : ∀ i, i < n → w.cell? ⟨g, i * 3 + 1, none⟩ = some (.int .i64 (f i).pence)
  c2 : ∀ i, i < n → w.cell? ⟨g, i * 3 + 2, none⟩ = some (.int .i64 (f i).next)
  fr : ∀ j, w.frozen? ⟨g, j, none⟩ = false
theorem WaysAt.mono {w w' : World} {g n : Nat} {f : Nat → Way} (h : WaysAt w g n f) (hb : Below w.heap.size w w') : WaysAt w' g n f :=
  ⟨Nat.lt_of_lt_of_le h.lt hb.size, fun i hi => (hb.cell (p := ⟨g, _, none⟩) h.lt).trans (h.c0 i hi), fun i hi => (hb.cell (p := ⟨g, _, none⟩) h.lt).trans (h.c1 i hi),
    fun i hi => (hb.cell (p := ⟨g, _, none⟩) h.lt).trans (h.c2 i hi), fun j => (hb.frozen (p := ⟨g, j, none⟩) h.lt).trans (h.fr j)⟩
theorem WaysAt.congr {w : World} {g n : Nat} {f f' : Nat → Way} (h : WaysAt w g n f) (he : ∀ i, i < n → f i = f' i) : WaysAt w g n f' :=
  ⟨h.lt, fun i hi => he i hi ▸ h.c0 i hi, fun i hi => he i hi ▸ h.c1 i hi, fun i hi => he i hi ▸ h.c2 i hi, h.fr⟩
theorem WaysAt.read {w : World} {g n : Nat} {f : Nat → Way} (h : WaysAt w g n f) {o k : Nat} (hk : o + k ≤ n) : ∀ j v, (wayL (fun i => f (o + i)) k)[j]? = some v → w.cell? ((⟨g, o * 3, none⟩ : Addr).add j) = some v := by
  intro j v hv
  have hadd : (⟨g, o * 3, none⟩ : Addr).add j = ⟨g, o * 3 + j, none⟩ := by unfold Addr.add; split <;> simp_all
  rw [hadd]
  obtain ⟨i, hi, e⟩ := wayL_inv _ hv
  rcases e with ⟨rfl, rfl⟩ | ⟨rfl, rfl⟩ | ⟨rfl, rfl⟩
  · rw [← h.c0 (o + i) (by omega)]; congr 2; omega
  · rw [← h.c1 (o + i) (by omega)]; congr 2; omega
  · rw [← h.c2 (o + i) (by omega)]; congr 2; omega
/-- other memory stays, and the cells of the row too: what is not written reads as before -/
theorem WaysAt.other {w : World} {g n : Nat} {f : Nat → Way} (h : WaysAt w g n f) {p : Addr} (hp : p.block ≠ g) (v : Value) : WaysAt (w.setCell p v) g n f := by
  have hc : ∀ j, (w.setCell p v).cell? ⟨g, j, none⟩ = w.cell? ⟨g, j, none⟩ := fun j => World.cell?_setCell_other _ _ _ _ (fun e => hp (by rw [e]))
  exact ⟨by simpa [World.setCell] using h.lt, fun i hi => (hc _).trans (h.c0 i hi), fun i hi => (hc _).trans (h.c1 i hi), fun i hi => (hc _).trans (h.c2 i hi), fun j => by rw [World.frozen?_setCell]; exact h.fr j⟩
theorem WaysAt.set {w : World} {g n : Nat} {f : Nat → Way} (h : WaysAt w g n f) {d : Nat} (hd : d < n) (x : Way) :
    WaysAt (((w.setCell ⟨g, d * 3, none⟩ (.int .i64 x.rings)).setCell ⟨g, d * 3 + 1, none⟩ (.int .i64 x.pence)).setCell ⟨g, d * 3 + 2, none⟩ (.int .i64 x.next)) g n (fun i => if i = d then x else f i) := by
  have k0 := h.c0 d hd
  have k1 := h.c1 d hd
  have k2 := h.c2 d hd
  have other : ∀ j, j ≠ d * 3 → j ≠ d * 3 + 1 → j ≠ d * 3 + 2 → (((w.setCell ⟨g, d * 3, none⟩ (.int .i64 x.rings)).setCell ⟨g, d * 3 + 1, none⟩ (.int .i64 x.pence)).setCell ⟨g, d * 3 + 2, none⟩ (.int .i64 x.next)).cell? ⟨g, j, none⟩ = w.cell? ⟨g, j, none⟩ := fun j h0 h1 h2 => by
    rw [World.cell?_setCell_other _ _ _ _ (fun e => by injection e with _ e; omega), World.cell?_setCell_other _ _ _ _ (fun e => by injection e with _ e; omega), World.cell?_setCell_other _ _ _ _ (fun e => by injection e with _ e; omega)]
  refine ⟨by simpa [World.setCell] using h.lt, fun i hi => ?_, fun i hi => ?_, fun i hi => ?_, fun j => by rw [World.frozen?_setCell, World.frozen?_setCell, World.frozen?_setCell]; exact h.fr j⟩
  all_goals
    by_cases e : i = d
    · subst e
      simp only [if_true]
      simp [World.cell?_setCell_other, World.cell?_setCell_same _ _ _ k0, k1, k2, go_sem]
    · simp only [if_neg e]
      rw [other _ (by omega) (by omega) (by omega)]
      first | exact h.c0 i hi | exact h.c1 i hi | exact h.c2 i hi
theorem WaysAt.setCells {w : World} {g n : Nat} {f : Nat → Way} (h : WaysAt w g n f) {o k : Nat} (hk : o + k ≤ n) (f' : Nat → Way) :
    WaysAt (w.setCells g (o * 3) (wayL f' k)) g n (fun i => if o ≤ i ∧ i < o + k then f' (i - o) else f i) := by
  have hl := wayL_len f' k
  have hex : ∀ j, j < n * 3 → (w.cell? ⟨g, j, none⟩).isSome = true := fun j hj => by
    rcases (by omega : j = j / 3 * 3 ∨ j = j / 3 * 3 + 1 ∨ j = j / 3 * 3 + 2) with e | e | e
    · rw [e, h.c0 (j / 3) (by omega)]; rfl
    · rw [e, h.c1 (j / 3) (by omega)]; rfl
    · rw [e, h.c2 (j / 3) (by omega)]; rfl
  have hin : ∀ j v, (wayL f' k)[j]? = some v → (w.setCells g (o * 3) (wayL f' k)).cell? ⟨g, o * 3 + j, none⟩ = some v := fun j v hv => by
    obtain ⟨hj, e⟩ := List.getElem?_eq_some_iff.1 hv
    rw [World.cell?_setCells_in g (wayL f' k) (o * 3) w (fun j hj => hex _ (by omega)) j hj, e]
  have hout : ∀ j, (j < o * 3 ∨ o * 3 + k * 3 ≤ j) → (w.setCells g (o * 3) (wayL f' k)).cell? ⟨g, j, none⟩ = w.cell? ⟨g, j, none⟩ := fun j hj =>
    World.cell?_setCells_out g _ _ _ _ (fun _ _ => by rw [hl]; exact hj)
  have hsz : (w.setCells g (o * 3) (wayL f' k)).heap.size = w.heap.size := by
    have : ∀ (vs : List Value) (p : Nat) (w : World), (w.setCells g p vs).heap.size = w.heap.size := by
      intro vs
      induction vs with
      | nil => intro p w; rfl
      | cons v r ih => intro p w; rw [World.setCells, ih]; simp [World.setCell]
    exact this _ _ _
  refine ⟨by rw [hsz]; exact h.lt, fun i hi => ?_, fun i hi => ?_, fun i hi => ?_, fun j => by rw [World.frozen?_setCells]; exact h.fr j⟩
  all_goals
    by_cases e : o ≤ i ∧ i < o + k
    · rw [if_pos e]
      obtain ⟨a, b, c⟩ := wayL_get f' (n := k) (i := i - o) (by omega)
      first
        | (rw [← hin _ _ a]; congr 2; omega)
        | (rw [← hin _ _ b]; congr 2; omega)
        | (rw [← hin _ _ c]; congr 2; omega)
    · rw [if_neg e, hout _ (by omega)]
      first | exact h.c0 i hi | exact h.c1 i hi | exact h.c2 i hi
theorem waysAt_own {w : World} {base g n cap : Nat} {e : TypeId} {f : Nat → Way} (h : w.ownsRow base e 3 (.slice (some ⟨g, 0, none⟩) n cap) n (wayL f n)) : base ≤ g ∧ WaysAt w g n f := by
  have hlt := h.lt g rfl
  have hc : ∀ j u, (wayL f n)[j]? = some u → w.cell? ⟨g, j, none⟩ = some u := fun j u hu => by
    have := h.cells (g := g) rfl j u hu
    rwa [show (⟨g, 0, none⟩ : Addr).add j = ⟨g, j, none⟩ from by unfold Addr.add; split <;> simp_all] at this
  exact ⟨hlt.1, hlt.2, fun i hi => hc _ _ (wayL_get f hi).1, fun i hi => hc _ _ (wayL_get f hi).2.1, fun i hi => hc _ _ (wayL_get f hi).2.2, fun j => h.frozenAt j⟩
theorem below_grownBy {w w' : World} {base : Nat} {row : Option Nat} (h : w.grownBy w' row) (hb : base ≤ w.heap.size) (hr : ∀ k, row = some k → base ≤ k) : Below base w w' :=
  ⟨h.os, h.tape, h.output, h.size, fun k hk => h.block k (by omega) (fun e => by have := hr k e.symm; omega)⟩
end Go.Proofs.YtbbnpneabmldnaaDoor
