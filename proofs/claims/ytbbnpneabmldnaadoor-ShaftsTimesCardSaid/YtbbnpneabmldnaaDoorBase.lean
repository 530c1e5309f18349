/- Common words for all proofs of this set: how slices of integers and of rocks read in memory, what a call that only makes new blocks leaves, a region that draws its order and calls such functions. No condition. -/
import Derived.Test.YtbbnpneabmldnaaDoorProg
import Derived.WalkKit
import Derived.WalkSpells
import Derived.WalkLawsBesides
import Derived.BigQuiet
import Derived.Lib.Hide
import Derived.Lib.QuietBelow
namespace Go.Proofs.YtbbnpneabmldnaaDoor
open Go.RowKit Go.Sort

/-! ### Worlds -/
theorem cell_grow {w : World} {n : Nat} (h : n < w.heap.size) (i d : Nat) (os : Array Obj) : (grow (redrawn w d) os).cell? ⟨n, i, none⟩ = w.cell? ⟨n, i, none⟩ :=
  (below_regrown w d os).cell (p := ⟨n, i, none⟩) h
theorem frozen_grow {w : World} {n : Nat} (h : n < w.heap.size) (i d : Nat) (os : Array Obj) : (grow (redrawn w d) os).frozen? ⟨n, i, none⟩ = w.frozen? ⟨n, i, none⟩ :=
  (below_regrown w d os).frozen (p := ⟨n, i, none⟩) h
attribute [go_sem] cell_grow frozen_grow Instr.field asAgg
theorem below_of_regrown {w w' : World} (h : ∃ p : Regrown, w' = grow (redrawn w p.d) p.os) : Below w.heap.size w w' := by
  obtain ⟨p, rfl⟩ := h; exact below_regrown w p.d p.os
theorem bcell {W w1 : World} (hb : Below W.heap.size W w1) : (∀ b o, b < W.heap.size → w1.cell? ⟨b, o, none⟩ = W.cell? ⟨b, o, none⟩) ∧ (∀ b o, b < W.heap.size → w1.frozen? ⟨b, o, none⟩ = W.frozen? ⟨b, o, none⟩) :=
  ⟨fun b o h => hb.cell (p := ⟨b, o, none⟩) h, fun b o h => hb.frozen (p := ⟨b, o, none⟩) h⟩
section
variable {w x y : World}
theorem bAlloc (h : Below w.heap.size w x) (o : Obj) : Below w.heap.size w (x.alloc o) := h.alloc h.size o
theorem bDrew (h : Below w.heap.size w x) : Below w.heap.size w x.drew := h.drew
theorem bGrow (h : Below w.heap.size w x) (d : Nat) (os : Array Obj) : Below w.heap.size w (grow (redrawn x d) os) := h.trans ((below_regrown x d os).mono h.size)
theorem bTrans (h : Below w.heap.size w x) (k : Below x.heap.size x y) : Below w.heap.size w y := h.trans (k.mono h.size)
theorem bSet {p : Addr} (hp : w.heap.size ≤ p.block) (h : Below w.heap.size w x) (u : Value) : Below w.heap.size w (x.setCell p u) := h.setCell hp u
end

/-! ### Endings -/
theorem ret_bool {a b : Bool} (h : a = b) : Ending.returned (.bool a) = .returned (.bool b) := by rw [h]
theorem ret_int {k : IntKind} {a b : Int} (h : a = b) : Ending.returned (.int k a) = .returned (.int k b) := by rw [h]

/-! ### Plain notions -/
def inR (n lo hi : Int) : Bool := decide (lo ≤ n) && decide (n ≤ hi)
theorem inR_iff {n lo hi : Int} : inR n lo hi = true ↔ lo ≤ n ∧ n ≤ hi := by simp [inR]
theorem inR_t {n lo hi : Int} (h : lo ≤ n ∧ n ≤ hi) : inR n lo hi = true := inR_iff.2 h
theorem inR_f {n lo hi : Int} (h : ¬ (lo ≤ n ∧ n ≤ hi)) : inR n lo hi = false := by
  cases e : inR n lo hi
  · rfl
  · exact absurd (inR_iff.1 e) h
def anyB (p : Nat → Bool) : Nat → Bool
  | 0 => false
  | n + 1 => anyB p n || p n
theorem anyB_false {p : Nat → Bool} {n : Nat} : anyB p n = false ↔ ∀ i, i < n → p i = false := by
  induction n with
  | zero => simp [anyB]
  | succ n ih =>
    simp only [anyB, Bool.or_eq_false_iff, ih]
    exact ⟨fun h i hi => by
      rcases Nat.lt_or_ge i n with h1 | h1
      · exact h.1 i h1
      · obtain rfl : i = n := by omega
        exact h.2, fun h => ⟨fun i hi => h i (by omega), h n (by omega)⟩⟩
theorem anyB_true {p : Nat → Bool} {n : Nat} : anyB p n = true ↔ ∃ i, i < n ∧ p i = true := by
  induction n with
  | zero => simp [anyB]
  | succ n ih =>
    simp only [anyB, Bool.or_eq_true, ih]
    constructor
    · rintro (⟨i, h1, h2⟩ | h)
      · exact ⟨i, by omega, h2⟩
      · exact ⟨n, by omega, h⟩
    · rintro ⟨i, h1, h2⟩
      rcases Nat.lt_or_ge i n with h3 | h3
      · exact .inl ⟨i, h3, h2⟩
      · obtain rfl : i = n := by omega
        exact .inr h2
theorem anyB_hit {p : Nat → Bool} {n k : Nat} (h : k < n) (hk : p k = true) : anyB p n = true := anyB_true.2 ⟨k, h, hk⟩
theorem anyB_step {p : Nat → Bool} {k : Nat} (h : anyB p k = false) (hk : p k = false) : anyB p (k + 1) = false := by simp [anyB, h, hk]
theorem anyB_congr {p q : Nat → Bool} {n : Nat} (h : ∀ i, i < n → p i = q i) : anyB p n = anyB q n := by
  induction n with
  | zero => rfl
  | succ n ih => simp only [anyB, ih (fun i hi => h i (by omega)), h n (by omega)]

/-! ### How slices read -/
def IntsAt (w : World) (A : Option Addr) (n : Nat) (f : Nat → Int) : Prop :=
  n = 0 ∨ ∃ b o, A = some ⟨b, o, none⟩ ∧ b < w.heap.size ∧ ∀ i, i < n → w.cell? ⟨b, o + i, none⟩ = some (.int .i64 (f i))
theorem IntsAt.mono {w w' : World} {A : Option Addr} {n : Nat} {f : Nat → Int} (h : IntsAt w A n f) (hb : Below w.heap.size w w') : IntsAt w' A n f := by
  rcases h with h | ⟨b, o, rfl, hlt, hc⟩
  · exact .inl h
  · exact .inr ⟨b, o, rfl, Nat.lt_of_lt_of_le hlt hb.size, fun i hi => (hb.cell (p := ⟨b, o + i, none⟩) hlt).trans (hc i hi)⟩
theorem IntsAt.nil {w : World} {A : Option Addr} {f : Nat → Int} : IntsAt w A 0 f := .inl rfl
theorem IntsAt.get {w : World} {A : Option Addr} {n : Nat} {f : Nat → Int} (h : IntsAt w A n f) {i : Nat} (hi : i < n) :
    ∃ b o, A = some ⟨b, o, none⟩ ∧ b < w.heap.size ∧ w.cell? ⟨b, o + i, none⟩ = some (.int .i64 (f i)) := by
  rcases h with h | ⟨b, o, rfl, hlt, hc⟩
  · omega
  · exact ⟨b, o, rfl, hlt, hc i hi⟩
end Go.Proofs.YtbbnpneabmldnaaDoor
