/- Parts joined. -/
import Derived.Test.YtchhodikgllgnaaDoorNQP
import Derived.Test.YtchhodikgllgnaaDoorNQN
import Derived.Test.YtchhodikgllgnaaDoorNQG
import Derived.Test.YtchhodikgllgnaaDoorNQF
import Derived.Test.YtchhodikgllgnaaDoorNQI
import Derived.Test.YtchhodikgllgnaaDoorNQJ
import Derived.Test.YtchhodikgllgnaaDoorNQD
import Derived.Test.YtchhodikgllgnaaDoorNQL
import Derived.Test.YtchhodikgllgnaaDoorNQK
set_option linter.unusedSimpArgs false
set_option linter.unusedVariables false
/- The chapter's example towns: plain facts, and the walk of Example of the law 05. No condition. -/
namespace Go.Proofs.YtchhodikgllgnaaDoor
open Go.RowKit Go.Sort
def exWd (i : Nat) : Wd := ⟨2, fun _ => 2, fun k j => if k = 0 then (if j = 0 then 3 else if i = 1 then 2 else 1) else (if j = 0 then (if i = 0 then 0 else if i = 1 then 1 else 2) else 2)⟩
def exG : Qt := ⟨2, 3, exWd, 0, fun _ => ⟨0, 0, 0, 0, 0⟩⟩
def exF : Fact := ⟨0, 2, 1, 2, 3⟩
def exE : Qt := exG.add exF
def exD (k : Nat) : Int := if k = 0 then 2 else 3
theorem exWd_ok (i : Nat) : (exWd i).Ok 2 :=
  ⟨rfl, fun _ _ => rfl, fun k _ j _ => by
    unfold exWd
    simp only
    repeat' split
    all_goals omega⟩
theorem exG_ok : exG.Ok := ⟨by decide, by decide, by decide, by decide, fun i _ => exWd_ok i, fun i hi => absurd hi (Nat.not_lt_zero _)⟩
theorem exE_ok : exE.Ok := ⟨by decide, by decide, by decide, by decide, fun i _ => exWd_ok i, fun i hi => by
  obtain rfl : i = 0 := by have : i < 1 := hi; omega
  exact ⟨by decide, by decide, by decide, by decide, by decide, by decide, by decide, by decide, by decide⟩⟩
theorem exE_left : exE.leftL = [0, 2] := by decide +kernel
theorem exG_left : exG.leftL = [0, 1, 2] := by decide +kernel
theorem exE_know : exE.knowErr true = 0 := knowErr_ok exE_ok (by rw [exE_left]; decide)
theorem exG_know : exG.knowErr true = 0 := knowErr_ok exG_ok (by rw [exG_left]; decide)
theorem exG_fits : exG.Fits := ⟨by decide, by decide, fun i _ => ⟨by show 2 * 24 ≤ _; decide, fun k _ => by show 2 * 8 ≤ _; decide⟩⟩
theorem exE_fits : exE.Fits := ⟨by decide, by decide, fun i _ => ⟨by show 2 * 24 ≤ _; decide, fun k _ => by show 2 * 8 ≤ _; decide⟩⟩
theorem ex_total : spanOf (exE.lowers exD 2 0) exE.leftL = (6, 12) := by rw [exE_left]; decide +kernel
theorem ex_harms : harmK (exE.between 0 1) 0 = 1 := by decide +kernel
theorem ex_split : exG.splitL (0, 1) exG.leftL = 2 := by decide +kernel
theorem ex_depth : exG.depth exG.leftL = 1 := by decide +kernel
theorem ex_fewest : exG.fewest exG.leftL = [(1, 0)] := by decide +kernel
theorem ex_draws : exE.drawsB 2 exD = true := by decide +kernel
theorem ex_well (n : Int) (h : 0 ≤ n) (h1 : n < 2) : exE.wellB n = true := by rw [wellB_ok exE_ok]; exact inR_t ⟨h, by show n ≤ 2 - 1; omega⟩
theorem ex_wellG (n : Int) (h : 0 ≤ n) (h1 : n < 2) : exG.wellB n = true := by rw [wellB_ok exG_ok]; exact inR_t ⟨h, by show n ≤ 2 - 1; omega⟩
theorem ints2 {w : World} {b : Nat} {g : Nat → Int} (hl : b < w.heap.size) (h0 : w.cell? ⟨b, 0, none⟩ = some (.int .i64 (g 0))) (h1 : w.cell? ⟨b, 1, none⟩ = some (.int .i64 (g 1))) : IntsAt w (some ⟨b, 0, none⟩) 2 g :=
  .inr ⟨b, 0, rfl, hl, fun i hi => match i, hi with
    | 0, _ => h0
    | 1, _ => h1
    | n + 2, hi => absurd hi (by omega)⟩
theorem rows2 {w : World} {b b0 b1 : Nat} (i : Nat) (hl : b < w.heap.size) (h0 : w.cell? ⟨b, 0, none⟩ = some (.slice (some ⟨b0, 0, none⟩) 2 2)) (h1 : w.cell? ⟨b, 1, none⟩ = some (.slice (some ⟨b1, 0, none⟩) 2 2)) (i0 : IntsAt w (some ⟨b0, 0, none⟩) 2 ((exWd i).fall 0)) (i1 : IntsAt w (some ⟨b1, 0, none⟩) 2 ((exWd i).fall 1)) : RowsAt w (some ⟨b, 0, none⟩) (exWd i) :=
  .inr ⟨b, 0, rfl, hl, fun k hk => match k, hk with
    | 0, _ => ⟨_, 2, h0, i0, by show (2 : Nat) ≤ _; decide⟩
    | 1, _ => ⟨_, 2, h1, i1, by show (2 : Nat) ≤ _; decide⟩
    | n + 2, hk => absurd hk (by show ¬ n + 2 < 2; omega)⟩
theorem worlds3 {w : World} {b b0 b1 b2 : Nat} (hl : b < w.heap.size) (h0 : w.cell? ⟨b, 0, none⟩ = some (.slice (some ⟨b0, 0, none⟩) 2 2)) (h1 : w.cell? ⟨b, 1, none⟩ = some (.slice (some ⟨b1, 0, none⟩) 2 2)) (h2 : w.cell? ⟨b, 2, none⟩ = some (.slice (some ⟨b2, 0, none⟩) 2 2)) (r0 : RowsAt w (some ⟨b0, 0, none⟩) (exWd 0)) (r1 : RowsAt w (some ⟨b1, 0, none⟩) (exWd 1)) (r2 : RowsAt w (some ⟨b2, 0, none⟩) (exWd 2)) : QAt w (some ⟨b, 0, none⟩) none exG :=
  ⟨.inr ⟨b, 0, rfl, hl, fun i hi => match i, hi with
    | 0, _ => ⟨_, 2, h0, r0, by show (2 : Nat) ≤ _; decide⟩
    | 1, _ => ⟨_, 2, h1, r1, by show (2 : Nat) ≤ _; decide⟩
    | 2, _ => ⟨_, 2, h2, r2, by show (2 : Nat) ≤ _; decide⟩
    | n + 3, hi => absurd hi (by show ¬ n + 3 < 3; omega)⟩, .inl rfl⟩
set_option maxHeartbeats 4000000 in
theorem exG_at (w : World) : ∀ w' : World, (∀ b, w.heap.size + 2 ≤ b → b < ((((((((((((w.alloc (.cells #[.int .i64 0, .slice none 0 0, .slice none 0 0] 25)).alloc (.cells #[.int .i64 2, .slice (some ⟨w.heap.size + 1 + 1 + 1 + 1 + 1 + 1 + 1 + 1 + 1 + 1 + 1, 0, none⟩) 3 3, .slice none 0 0] 25)).alloc (.cells #[.int .i64 3, .int .i64 1] 3)).alloc (.cells #[.int .i64 0, .int .i64 2] 3)).alloc (.cells #[.slice (some ⟨w.heap.size + 1 + 1, 0, none⟩) 2 2, .slice (some ⟨w.heap.size + 1 + 1 + 1, 0, none⟩) 2 2] 40)).alloc (.cells #[.int .i64 3, .int .i64 2] 3)).alloc (.cells #[.int .i64 1, .int .i64 2] 3)).alloc (.cells #[.slice (some ⟨w.heap.size + 1 + 1 + 1 + 1 + 1, 0, none⟩) 2 2, .slice (some ⟨w.heap.size + 1 + 1 + 1 + 1 + 1 + 1, 0, none⟩) 2 2] 40)).alloc (.cells #[.int .i64 3, .int .i64 1] 3)).alloc (.cells #[.int .i64 2, .int .i64 2] 3)).alloc (.cells #[.slice (some ⟨w.heap.size + 1 + 1 + 1 + 1 + 1 + 1 + 1 + 1, 0, none⟩) 2 2, .slice (some ⟨w.heap.size + 1 + 1 + 1 + 1 + 1 + 1 + 1 + 1 + 1, 0, none⟩) 2 2] 40)).alloc (.cells #[.slice (some ⟨w.heap.size + 1 + 1 + 1 + 1, 0, none⟩) 2 2, .slice (some ⟨w.heap.size + 1 + 1 + 1 + 1 + 1 + 1 + 1, 0, none⟩) 2 2, .slice (some ⟨w.heap.size + 1 + 1 + 1 + 1 + 1 + 1 + 1 + 1 + 1 + 1, 0, none⟩) 2 2] 81)).heap.size → w'.heap[b]? = ((((((((((((w.alloc (.cells #[.int .i64 0, .slice none 0 0, .slice none 0 0] 25)).alloc (.cells #[.int .i64 2, .slice (some ⟨w.heap.size + 1 + 1 + 1 + 1 + 1 + 1 + 1 + 1 + 1 + 1 + 1, 0, none⟩) 3 3, .slice none 0 0] 25)).alloc (.cells #[.int .i64 3, .int .i64 1] 3)).alloc (.cells #[.int .i64 0, .int .i64 2] 3)).alloc (.cells #[.slice (some ⟨w.heap.size + 1 + 1, 0, none⟩) 2 2, .slice (some ⟨w.heap.size + 1 + 1 + 1, 0, none⟩) 2 2] 40)).alloc (.cells #[.int .i64 3, .int .i64 2] 3)).alloc (.cells #[.int .i64 1, .int .i64 2] 3)).alloc (.cells #[.slice (some ⟨w.heap.size + 1 + 1 + 1 + 1 + 1, 0, none⟩) 2 2, .slice (some ⟨w.heap.size + 1 + 1 + 1 + 1 + 1 + 1, 0, none⟩) 2 2] 40)).alloc (.cells #[.int .i64 3, .int .i64 1] 3)).alloc (.cells #[.int .i64 2, .int .i64 2] 3)).alloc (.cells #[.slice (some ⟨w.heap.size + 1 + 1 + 1 + 1 + 1 + 1 + 1 + 1, 0, none⟩) 2 2, .slice (some ⟨w.heap.size + 1 + 1 + 1 + 1 + 1 + 1 + 1 + 1 + 1, 0, none⟩) 2 2] 40)).alloc (.cells #[.slice (some ⟨w.heap.size + 1 + 1 + 1 + 1, 0, none⟩) 2 2, .slice (some ⟨w.heap.size + 1 + 1 + 1 + 1 + 1 + 1 + 1, 0, none⟩) 2 2, .slice (some ⟨w.heap.size + 1 + 1 + 1 + 1 + 1 + 1 + 1 + 1 + 1 + 1, 0, none⟩) 2 2] 81)).heap[b]?) → ((((((((((((w.alloc (.cells #[.int .i64 0, .slice none 0 0, .slice none 0 0] 25)).alloc (.cells #[.int .i64 2, .slice (some ⟨w.heap.size + 1 + 1 + 1 + 1 + 1 + 1 + 1 + 1 + 1 + 1 + 1, 0, none⟩) 3 3, .slice none 0 0] 25)).alloc (.cells #[.int .i64 3, .int .i64 1] 3)).alloc (.cells #[.int .i64 0, .int .i64 2] 3)).alloc (.cells #[.slice (some ⟨w.heap.size + 1 + 1, 0, none⟩) 2 2, .slice (some ⟨w.heap.size + 1 + 1 + 1, 0, none⟩) 2 2] 40)).alloc (.cells #[.int .i64 3, .int .i64 2] 3)).alloc (.cells #[.int .i64 1, .int .i64 2] 3)).alloc (.cells #[.slice (some ⟨w.heap.size + 1 + 1 + 1 + 1 + 1, 0, none⟩) 2 2, .slice (some ⟨w.heap.size + 1 + 1 + 1 + 1 + 1 + 1, 0, none⟩) 2 2] 40)).alloc (.cells #[.int .i64 3, .int .i64 1] 3)).alloc (.cells #[.int .i64 2, .int .i64 2] 3)).alloc (.cells #[.slice (some ⟨w.heap.size + 1 + 1 + 1 + 1 + 1 + 1 + 1 + 1, 0, none⟩) 2 2, .slice (some ⟨w.heap.size + 1 + 1 + 1 + 1 + 1 + 1 + 1 + 1 + 1, 0, none⟩) 2 2] 40)).alloc (.cells #[.slice (some ⟨w.heap.size + 1 + 1 + 1 + 1, 0, none⟩) 2 2, .slice (some ⟨w.heap.size + 1 + 1 + 1 + 1 + 1 + 1 + 1, 0, none⟩) 2 2, .slice (some ⟨w.heap.size + 1 + 1 + 1 + 1 + 1 + 1 + 1 + 1 + 1 + 1, 0, none⟩) 2 2] 81)).heap.size ≤ w'.heap.size → QAt w' (some ⟨w.heap.size + 1 + 1 + 1 + 1 + 1 + 1 + 1 + 1 + 1 + 1 + 1, 0, none⟩) none exG := by
  intro w' hk hs
  simp only [World.size_alloc] at hs
  have c2_0 : w'.cell? ⟨w.heap.size + 1 + 1, 0, none⟩ = some (.int .i64 3) := (cell_of_heap (hk (w.heap.size + 1 + 1) (by omega) (by simp <;> omega)) 0).trans (by simp [go_sem])
  have c2_1 : w'.cell? ⟨w.heap.size + 1 + 1, 1, none⟩ = some (.int .i64 1) := (cell_of_heap (hk (w.heap.size + 1 + 1) (by omega) (by simp <;> omega)) 1).trans (by simp [go_sem])
  have c3_0 : w'.cell? ⟨w.heap.size + 1 + 1 + 1, 0, none⟩ = some (.int .i64 0) := (cell_of_heap (hk (w.heap.size + 1 + 1 + 1) (by omega) (by simp <;> omega)) 0).trans (by simp [go_sem])
  have c3_1 : w'.cell? ⟨w.heap.size + 1 + 1 + 1, 1, none⟩ = some (.int .i64 2) := (cell_of_heap (hk (w.heap.size + 1 + 1 + 1) (by omega) (by simp <;> omega)) 1).trans (by simp [go_sem])
  have c4_0 : w'.cell? ⟨w.heap.size + 1 + 1 + 1 + 1, 0, none⟩ = some (.slice (some ⟨w.heap.size + 1 + 1, 0, none⟩) 2 2) := (cell_of_heap (hk (w.heap.size + 1 + 1 + 1 + 1) (by omega) (by simp <;> omega)) 0).trans (by simp [go_sem])
  have c4_1 : w'.cell? ⟨w.heap.size + 1 + 1 + 1 + 1, 1, none⟩ = some (.slice (some ⟨w.heap.size + 1 + 1 + 1, 0, none⟩) 2 2) := (cell_of_heap (hk (w.heap.size + 1 + 1 + 1 + 1) (by omega) (by simp <;> omega)) 1).trans (by simp [go_sem])
  have c5_0 : w'.cell? ⟨w.heap.size + 1 + 1 + 1 + 1 + 1, 0, none⟩ = some (.int .i64 3) := (cell_of_heap (hk (w.heap.size + 1 + 1 + 1 + 1 + 1) (by omega) (by simp <;> omega)) 0).trans (by simp [go_sem])
  have c5_1 : w'.cell? ⟨w.heap.size + 1 + 1 + 1 + 1 + 1, 1, none⟩ = some (.int .i64 2) := (cell_of_heap (hk (w.heap.size + 1 + 1 + 1 + 1 + 1) (by omega) (by simp <;> omega)) 1).trans (by simp [go_sem])
  have c6_0 : w'.cell? ⟨w.heap.size + 1 + 1 + 1 + 1 + 1 + 1, 0, none⟩ = some (.int .i64 1) := (cell_of_heap (hk (w.heap.size + 1 + 1 + 1 + 1 + 1 + 1) (by omega) (by simp <;> omega)) 0).trans (by simp [go_sem])
  have c6_1 : w'.cell? ⟨w.heap.size + 1 + 1 + 1 + 1 + 1 + 1, 1, none⟩ = some (.int .i64 2) := (cell_of_heap (hk (w.heap.size + 1 + 1 + 1 + 1 + 1 + 1) (by omega) (by simp <;> omega)) 1).trans (by simp [go_sem])
  have c7_0 : w'.cell? ⟨w.heap.size + 1 + 1 + 1 + 1 + 1 + 1 + 1, 0, none⟩ = some (.slice (some ⟨w.heap.size + 1 + 1 + 1 + 1 + 1, 0, none⟩) 2 2) := (cell_of_heap (hk (w.heap.size + 1 + 1 + 1 + 1 + 1 + 1 + 1) (by omega) (by simp <;> omega)) 0).trans (by simp [go_sem])
  have c7_1 : w'.cell? ⟨w.heap.size + 1 + 1 + 1 + 1 + 1 + 1 + 1, 1, none⟩ = some (.slice (some ⟨w.heap.size + 1 + 1 + 1 + 1 + 1 + 1, 0, none⟩) 2 2) := (cell_of_heap (hk (w.heap.size + 1 + 1 + 1 + 1 + 1 + 1 + 1) (by omega) (by simp <;> omega)) 1).trans (by simp [go_sem])
  have c8_0 : w'.cell? ⟨w.heap.size + 1 + 1 + 1 + 1 + 1 + 1 + 1 + 1, 0, none⟩ = some (.int .i64 3) := (cell_of_heap (hk (w.heap.size + 1 + 1 + 1 + 1 + 1 + 1 + 1 + 1) (by omega) (by simp <;> omega)) 0).trans (by simp [go_sem])
  have c8_1 : w'.cell? ⟨w.heap.size + 1 + 1 + 1 + 1 + 1 + 1 + 1 + 1, 1, none⟩ = some (.int .i64 1) := (cell_of_heap (hk (w.heap.size + 1 + 1 + 1 + 1 + 1 + 1 + 1 + 1) (by omega) (by simp <;> omega)) 1).trans (by simp [go_sem])
  have c9_0 : w'.cell? ⟨w.heap.size + 1 + 1 + 1 + 1 + 1 + 1 + 1 + 1 + 1, 0, none⟩ = some (.int .i64 2) := (cell_of_heap (hk (w.heap.size + 1 + 1 + 1 + 1 + 1 + 1 + 1 + 1 + 1) (by omega) (by simp <;> omega)) 0).trans (by simp [go_sem])
  have c9_1 : w'.cell? ⟨w.heap.size + 1 + 1 + 1 + 1 + 1 + 1 + 1 + 1 + 1, 1, none⟩ = some (.int .i64 2) := (cell_of_heap (hk (w.heap.size + 1 + 1 + 1 + 1 + 1 + 1 + 1 + 1 + 1) (by omega) (by simp <;> omega)) 1).trans (by simp [go_sem])
  have c10_0 : w'.cell? ⟨w.heap.size + 1 + 1 + 1 + 1 + 1 + 1 + 1 + 1 + 1 + 1, 0, none⟩ = some (.slice (some ⟨w.heap.size + 1 + 1 + 1 + 1 + 1 + 1 + 1 + 1, 0, none⟩) 2 2) := (cell_of_heap (hk (w.heap.size + 1 + 1 + 1 + 1 + 1 + 1 + 1 + 1 + 1 + 1) (by omega) (by simp <;> omega)) 0).trans (by simp [go_sem])
  have c10_1 : w'.cell? ⟨w.heap.size + 1 + 1 + 1 + 1 + 1 + 1 + 1 + 1 + 1 + 1, 1, none⟩ = some (.slice (some ⟨w.heap.size + 1 + 1 + 1 + 1 + 1 + 1 + 1 + 1 + 1, 0, none⟩) 2 2) := (cell_of_heap (hk (w.heap.size + 1 + 1 + 1 + 1 + 1 + 1 + 1 + 1 + 1 + 1) (by omega) (by simp <;> omega)) 1).trans (by simp [go_sem])
  have c11_0 : w'.cell? ⟨w.heap.size + 1 + 1 + 1 + 1 + 1 + 1 + 1 + 1 + 1 + 1 + 1, 0, none⟩ = some (.slice (some ⟨w.heap.size + 1 + 1 + 1 + 1, 0, none⟩) 2 2) := (cell_of_heap (hk (w.heap.size + 1 + 1 + 1 + 1 + 1 + 1 + 1 + 1 + 1 + 1 + 1) (by omega) (by simp <;> omega)) 0).trans (by simp [go_sem])
  have c11_1 : w'.cell? ⟨w.heap.size + 1 + 1 + 1 + 1 + 1 + 1 + 1 + 1 + 1 + 1 + 1, 1, none⟩ = some (.slice (some ⟨w.heap.size + 1 + 1 + 1 + 1 + 1 + 1 + 1, 0, none⟩) 2 2) := (cell_of_heap (hk (w.heap.size + 1 + 1 + 1 + 1 + 1 + 1 + 1 + 1 + 1 + 1 + 1) (by omega) (by simp <;> omega)) 1).trans (by simp [go_sem])
  have c11_2 : w'.cell? ⟨w.heap.size + 1 + 1 + 1 + 1 + 1 + 1 + 1 + 1 + 1 + 1 + 1, 2, none⟩ = some (.slice (some ⟨w.heap.size + 1 + 1 + 1 + 1 + 1 + 1 + 1 + 1 + 1 + 1, 0, none⟩) 2 2) := (cell_of_heap (hk (w.heap.size + 1 + 1 + 1 + 1 + 1 + 1 + 1 + 1 + 1 + 1 + 1) (by omega) (by simp <;> omega)) 2).trans (by simp [go_sem])
  have l2 : w.heap.size + 1 + 1 < w'.heap.size := by omega
  have l3 : w.heap.size + 1 + 1 + 1 < w'.heap.size := by omega
  have l4 : w.heap.size + 1 + 1 + 1 + 1 < w'.heap.size := by omega
  have l5 : w.heap.size + 1 + 1 + 1 + 1 + 1 < w'.heap.size := by omega
  have l6 : w.heap.size + 1 + 1 + 1 + 1 + 1 + 1 < w'.heap.size := by omega
  have l7 : w.heap.size + 1 + 1 + 1 + 1 + 1 + 1 + 1 < w'.heap.size := by omega
  have l8 : w.heap.size + 1 + 1 + 1 + 1 + 1 + 1 + 1 + 1 < w'.heap.size := by omega
  have l9 : w.heap.size + 1 + 1 + 1 + 1 + 1 + 1 + 1 + 1 + 1 < w'.heap.size := by omega
  have l10 : w.heap.size + 1 + 1 + 1 + 1 + 1 + 1 + 1 + 1 + 1 + 1 < w'.heap.size := by omega
  have l11 : w.heap.size + 1 + 1 + 1 + 1 + 1 + 1 + 1 + 1 + 1 + 1 + 1 < w'.heap.size := by omega
  exact worlds3 l11 c11_0 c11_1 c11_2 (rows2 0 l4 c4_0 c4_1 (ints2 l2 c2_0 c2_1) (ints2 l3 c3_0 c3_1)) (rows2 1 l7 c7_0 c7_1 (ints2 l5 c5_0 c5_1) (ints2 l6 c6_0 c6_1)) (rows2 2 l10 c10_0 c10_1 (ints2 l8 c8_0 c8_1) (ints2 l9 c9_0 c9_1))
/-- a town of the call's own, as a value -/
def twcS (m : Int) (n k : Nat) (v : Value) : Prop := ∃ (Aw : Option Addr) (cw : Nat) (Af : Option Addr) (cf : Nat), v = .agg #[.int .i64 m, .slice Aw n cw, .slice Af k cf]
def twcR (N : Nat) (t : Qt) (w : World) (v : Value) : Prop := ∀ vW vF, v = .agg #[.int .i64 t.wells, vW, vF] → CopyAt w N vW vF t
theorem twcG {N : Nat} {t : Qt} {m : Int} {n k : Nat} : (Stir.held (twcS m n k) (twcR N t)).good := ⟨⟨_, none, 0, none, 0, rfl⟩, fun _ _ _ hb h vW vF e => (h vW vF e).mono hb⟩
theorem CopyAt.kept {l : List TypeId} {w w' : World} {base : Nat} {vW vF : Value} {t : Qt} (h : CopyAt w base vW vF t) (hk : Kept l w w') (h1 : 3 ∈ l) (h2 : 40 ∈ l) (h3 : 81 ∈ l) (h4 : 53 ∈ l) : CopyAt w' base vW vF t := by
  obtain ⟨⟨us, a, b⟩, c⟩ := h
  exact ⟨⟨us, owns_kept a hk h3, b.kept hk h1 h2⟩, owns_kept c hk h4⟩
theorem CopyOut.twc {w : World} {base N : Nat} {t : Qt} {e : Ending} (h : CopyOut w base t e) (hN : N ≤ base) : ∃ v, e = .returned v ∧ twcS t.wells t.nw t.nf v ∧ twcR N t w v := by
  obtain ⟨vW, vF, rfl, hc⟩ := h
  obtain ⟨Aw, cw, Af, cf, e1, e2, _⟩ := hc.qat
  refine ⟨_, rfl, ⟨Aw, cw, Af, cf, by rw [e1, e2]⟩, fun vW' vF' e => ?_⟩
  simp only [Value.agg.injEq, Array.mk.injEq, List.cons.injEq, and_true, true_and] at e
  obtain ⟨rfl, rfl⟩ := e
  exact hc.lower hN
def ExOut (w : World) (e : Ending) : Prop := ∃ (Aw : Option Addr) (cw : Nat) (Af : Option Addr) (cf : Nat) (Bw : Option Addr) (dw : Nat), e = .returned (.tuple #[.agg #[.int .i64 2, .slice Aw 3 cw, .slice Af 1 cf], .agg #[.int .i64 2, .slice Bw 3 dw, .slice none 0 0]]) ∧ QAt w Aw Af exE ∧ QAt w Bw none exG
set_option maxHeartbeats 4000000 in
set_option maxRecDepth 100000 in
theorem example5_any (w : World) : Calls Tryd.prog 69 #[] w fun e w' => ExOut w' e ∧ Below w.heap.size w w' := by
  go_enter Tryd.func69, Tryd.ntmps69
  go_wp2_with fail
  have hQ := exG_at w
  have hB : Below w.heap.size w ((((((((((((w.alloc (.cells #[.int .i64 0, .slice none 0 0, .slice none 0 0] 25)).alloc (.cells #[.int .i64 2, .slice (some ⟨w.heap.size + 1 + 1 + 1 + 1 + 1 + 1 + 1 + 1 + 1 + 1 + 1, 0, none⟩) 3 3, .slice none 0 0] 25)).alloc (.cells #[.int .i64 3, .int .i64 1] 3)).alloc (.cells #[.int .i64 0, .int .i64 2] 3)).alloc (.cells #[.slice (some ⟨w.heap.size + 1 + 1, 0, none⟩) 2 2, .slice (some ⟨w.heap.size + 1 + 1 + 1, 0, none⟩) 2 2] 40)).alloc (.cells #[.int .i64 3, .int .i64 2] 3)).alloc (.cells #[.int .i64 1, .int .i64 2] 3)).alloc (.cells #[.slice (some ⟨w.heap.size + 1 + 1 + 1 + 1 + 1, 0, none⟩) 2 2, .slice (some ⟨w.heap.size + 1 + 1 + 1 + 1 + 1 + 1, 0, none⟩) 2 2] 40)).alloc (.cells #[.int .i64 3, .int .i64 1] 3)).alloc (.cells #[.int .i64 2, .int .i64 2] 3)).alloc (.cells #[.slice (some ⟨w.heap.size + 1 + 1 + 1 + 1 + 1 + 1 + 1 + 1, 0, none⟩) 2 2, .slice (some ⟨w.heap.size + 1 + 1 + 1 + 1 + 1 + 1 + 1 + 1 + 1, 0, none⟩) 2 2] 40)).alloc (.cells #[.slice (some ⟨w.heap.size + 1 + 1 + 1 + 1, 0, none⟩) 2 2, .slice (some ⟨w.heap.size + 1 + 1 + 1 + 1 + 1 + 1 + 1, 0, none⟩) 2 2, .slice (some ⟨w.heap.size + 1 + 1 + 1 + 1 + 1 + 1 + 1 + 1 + 1 + 1, 0, none⟩) 2 2] 81)) := by (repeat (first | (with_reducible exact Below.refl _ _) | (with_reducible refine bAlloc ?_ _) | (with_reducible refine bDrew ?_) | (with_reducible refine bGrow ?_ _ _) | (with_reducible refine bSet ?_ ?_ _; (first | exact Nat.le_refl _ | exact Nat.le_add_right _ _ | (simp; omega))) | (with_reducible refine bTrans ?_ (by assumption))))
  have hT0 : TBox ((((((((((((w.alloc (.cells #[.int .i64 0, .slice none 0 0, .slice none 0 0] 25)).alloc (.cells #[.int .i64 2, .slice (some ⟨w.heap.size + 1 + 1 + 1 + 1 + 1 + 1 + 1 + 1 + 1 + 1 + 1, 0, none⟩) 3 3, .slice none 0 0] 25)).alloc (.cells #[.int .i64 3, .int .i64 1] 3)).alloc (.cells #[.int .i64 0, .int .i64 2] 3)).alloc (.cells #[.slice (some ⟨w.heap.size + 1 + 1, 0, none⟩) 2 2, .slice (some ⟨w.heap.size + 1 + 1 + 1, 0, none⟩) 2 2] 40)).alloc (.cells #[.int .i64 3, .int .i64 2] 3)).alloc (.cells #[.int .i64 1, .int .i64 2] 3)).alloc (.cells #[.slice (some ⟨w.heap.size + 1 + 1 + 1 + 1 + 1, 0, none⟩) 2 2, .slice (some ⟨w.heap.size + 1 + 1 + 1 + 1 + 1 + 1, 0, none⟩) 2 2] 40)).alloc (.cells #[.int .i64 3, .int .i64 1] 3)).alloc (.cells #[.int .i64 2, .int .i64 2] 3)).alloc (.cells #[.slice (some ⟨w.heap.size + 1 + 1 + 1 + 1 + 1 + 1 + 1 + 1, 0, none⟩) 2 2, .slice (some ⟨w.heap.size + 1 + 1 + 1 + 1 + 1 + 1 + 1 + 1 + 1, 0, none⟩) 2 2] 40)).alloc (.cells #[.slice (some ⟨w.heap.size + 1 + 1 + 1 + 1, 0, none⟩) 2 2, .slice (some ⟨w.heap.size + 1 + 1 + 1 + 1 + 1 + 1 + 1, 0, none⟩) 2 2, .slice (some ⟨w.heap.size + 1 + 1 + 1 + 1 + 1 + 1 + 1 + 1 + 1 + 1, 0, none⟩) 2 2] 81)) w.heap.size 25 #[.int .i64 0, .slice none 0 0, .slice none 0 0] := TBox.mono (TBox.new w #[.int .i64 0, .slice none 0 0, .slice none 0 0] 25) (by (repeat (first | (with_reducible exact Below.refl _ _) | (with_reducible refine bAlloc ?_ _) | (with_reducible refine bDrew ?_) | (with_reducible refine bGrow ?_ _ _) | (with_reducible refine bSet ?_ ?_ _; (first | exact Nat.le_refl _ | exact Nat.le_add_right _ _ | (simp; omega))) | (with_reducible refine bTrans ?_ (by assumption)))))
  have hT1 : TBox ((((((((((((w.alloc (.cells #[.int .i64 0, .slice none 0 0, .slice none 0 0] 25)).alloc (.cells #[.int .i64 2, .slice (some ⟨w.heap.size + 1 + 1 + 1 + 1 + 1 + 1 + 1 + 1 + 1 + 1 + 1, 0, none⟩) 3 3, .slice none 0 0] 25)).alloc (.cells #[.int .i64 3, .int .i64 1] 3)).alloc (.cells #[.int .i64 0, .int .i64 2] 3)).alloc (.cells #[.slice (some ⟨w.heap.size + 1 + 1, 0, none⟩) 2 2, .slice (some ⟨w.heap.size + 1 + 1 + 1, 0, none⟩) 2 2] 40)).alloc (.cells #[.int .i64 3, .int .i64 2] 3)).alloc (.cells #[.int .i64 1, .int .i64 2] 3)).alloc (.cells #[.slice (some ⟨w.heap.size + 1 + 1 + 1 + 1 + 1, 0, none⟩) 2 2, .slice (some ⟨w.heap.size + 1 + 1 + 1 + 1 + 1 + 1, 0, none⟩) 2 2] 40)).alloc (.cells #[.int .i64 3, .int .i64 1] 3)).alloc (.cells #[.int .i64 2, .int .i64 2] 3)).alloc (.cells #[.slice (some ⟨w.heap.size + 1 + 1 + 1 + 1 + 1 + 1 + 1 + 1, 0, none⟩) 2 2, .slice (some ⟨w.heap.size + 1 + 1 + 1 + 1 + 1 + 1 + 1 + 1 + 1, 0, none⟩) 2 2] 40)).alloc (.cells #[.slice (some ⟨w.heap.size + 1 + 1 + 1 + 1, 0, none⟩) 2 2, .slice (some ⟨w.heap.size + 1 + 1 + 1 + 1 + 1 + 1 + 1, 0, none⟩) 2 2, .slice (some ⟨w.heap.size + 1 + 1 + 1 + 1 + 1 + 1 + 1 + 1 + 1 + 1, 0, none⟩) 2 2] 81)) (w.heap.size + 1) 25 #[.int .i64 2, .slice (some ⟨w.heap.size + 1 + 1 + 1 + 1 + 1 + 1 + 1 + 1 + 1 + 1 + 1, 0, none⟩) 3 3, .slice none 0 0] := by
    have := TBox.mono (TBox.new (w.alloc (.cells #[.int .i64 0, .slice none 0 0, .slice none 0 0] 25)) #[.int .i64 2, .slice (some ⟨w.heap.size + 1 + 1 + 1 + 1 + 1 + 1 + 1 + 1 + 1 + 1 + 1, 0, none⟩) 3 3, .slice none 0 0] 25) (w' := ((((((((((((w.alloc (.cells #[.int .i64 0, .slice none 0 0, .slice none 0 0] 25)).alloc (.cells #[.int .i64 2, .slice (some ⟨w.heap.size + 1 + 1 + 1 + 1 + 1 + 1 + 1 + 1 + 1 + 1 + 1, 0, none⟩) 3 3, .slice none 0 0] 25)).alloc (.cells #[.int .i64 3, .int .i64 1] 3)).alloc (.cells #[.int .i64 0, .int .i64 2] 3)).alloc (.cells #[.slice (some ⟨w.heap.size + 1 + 1, 0, none⟩) 2 2, .slice (some ⟨w.heap.size + 1 + 1 + 1, 0, none⟩) 2 2] 40)).alloc (.cells #[.int .i64 3, .int .i64 2] 3)).alloc (.cells #[.int .i64 1, .int .i64 2] 3)).alloc (.cells #[.slice (some ⟨w.heap.size + 1 + 1 + 1 + 1 + 1, 0, none⟩) 2 2, .slice (some ⟨w.heap.size + 1 + 1 + 1 + 1 + 1 + 1, 0, none⟩) 2 2] 40)).alloc (.cells #[.int .i64 3, .int .i64 1] 3)).alloc (.cells #[.int .i64 2, .int .i64 2] 3)).alloc (.cells #[.slice (some ⟨w.heap.size + 1 + 1 + 1 + 1 + 1 + 1 + 1 + 1, 0, none⟩) 2 2, .slice (some ⟨w.heap.size + 1 + 1 + 1 + 1 + 1 + 1 + 1 + 1 + 1, 0, none⟩) 2 2] 40)).alloc (.cells #[.slice (some ⟨w.heap.size + 1 + 1 + 1 + 1, 0, none⟩) 2 2, .slice (some ⟨w.heap.size + 1 + 1 + 1 + 1 + 1 + 1 + 1, 0, none⟩) 2 2, .slice (some ⟨w.heap.size + 1 + 1 + 1 + 1 + 1 + 1 + 1 + 1 + 1 + 1, 0, none⟩) 2 2] 81))) (by (repeat (first | (with_reducible exact Below.refl _ _) | (with_reducible refine bAlloc ?_ _) | (with_reducible refine bDrew ?_) | (with_reducible refine bGrow ?_ _ _) | (with_reducible refine bSet ?_ ?_ _; (first | exact Nat.le_refl _ | exact Nat.le_add_right _ _ | (simp; omega))) | (with_reducible refine bTrans ?_ (by assumption)))))
    simpa [TBox] using this
  generalize ((((((((((((w.alloc (.cells #[.int .i64 0, .slice none 0 0, .slice none 0 0] 25)).alloc (.cells #[.int .i64 2, .slice (some ⟨w.heap.size + 1 + 1 + 1 + 1 + 1 + 1 + 1 + 1 + 1 + 1 + 1, 0, none⟩) 3 3, .slice none 0 0] 25)).alloc (.cells #[.int .i64 3, .int .i64 1] 3)).alloc (.cells #[.int .i64 0, .int .i64 2] 3)).alloc (.cells #[.slice (some ⟨w.heap.size + 1 + 1, 0, none⟩) 2 2, .slice (some ⟨w.heap.size + 1 + 1 + 1, 0, none⟩) 2 2] 40)).alloc (.cells #[.int .i64 3, .int .i64 2] 3)).alloc (.cells #[.int .i64 1, .int .i64 2] 3)).alloc (.cells #[.slice (some ⟨w.heap.size + 1 + 1 + 1 + 1 + 1, 0, none⟩) 2 2, .slice (some ⟨w.heap.size + 1 + 1 + 1 + 1 + 1 + 1, 0, none⟩) 2 2] 40)).alloc (.cells #[.int .i64 3, .int .i64 1] 3)).alloc (.cells #[.int .i64 2, .int .i64 2] 3)).alloc (.cells #[.slice (some ⟨w.heap.size + 1 + 1 + 1 + 1 + 1 + 1 + 1 + 1, 0, none⟩) 2 2, .slice (some ⟨w.heap.size + 1 + 1 + 1 + 1 + 1 + 1 + 1 + 1 + 1, 0, none⟩) 2 2] 40)).alloc (.cells #[.slice (some ⟨w.heap.size + 1 + 1 + 1 + 1, 0, none⟩) 2 2, .slice (some ⟨w.heap.size + 1 + 1 + 1 + 1 + 1 + 1 + 1, 0, none⟩) 2 2, .slice (some ⟨w.heap.size + 1 + 1 + 1 + 1 + 1 + 1 + 1 + 1 + 1 + 1, 0, none⟩) 2 2] 81)) = W at *
  generalize w.heap.size + 1 + 1 + 1 + 1 + 1 + 1 + 1 + 1 + 1 + 1 + 1 = B at *
  have HQA := Lib.hid hQ
  have HQ := Lib.hid (hQ W (fun _ _ _ => rfl) (Nat.le_refl _))
  have HB := Lib.hid hB
  have HT0 := Lib.hid hT0
  have HT1 := Lib.hid hT1
  have c10 : W.cell? ⟨w.heap.size + 1, 0, none⟩ = some (.int .i64 2) := hT1.cell 0
  have c11 : W.cell? ⟨w.heap.size + 1, 1, none⟩ = some (.slice (some ⟨B, 0, none⟩) 3 3) := hT1.cell 1
  have c12 : W.cell? ⟨w.heap.size + 1, 2, none⟩ = some (.slice none 0 0) := hT1.cell 2
  have hl1 := hT1.lt
  have HTL := Lib.hid (fun (w' : World) (hb : Below W.heap.size W w') => (told5_any (some ⟨B, 0, none⟩) none 3 0 exG exF w' exG_fits (HQ.out.mono hb) : Calls Tryd.prog 36 #[.agg #[.int .i64 2, .slice (some ⟨B, 0, none⟩) 3 3, .slice none 0 0], .agg #[.int .i64 0, .int .i64 2, .int .i64 1, .int .i64 2, .int .i64 3]] w' fun e w'' => CopyOut w'' w'.heap.size exE e ∧ Below w'.heap.size w' w''))
  clear hQ hB hT0 hT1
  refine wp_region_tardy 4 3 [.const (.agg #[.int .i64 2, .slice (some ⟨B, 0, none⟩) 3 3, .slice none 0 0]), .const (.agg #[.int .i64 0, .int .i64 2, .int .i64 1, .int .i64 2, .int .i64 3]), .held (twcS 2 3 1) (twcR W.heap.size exE), .const (.agg #[.int .i64 2, .slice (some ⟨B, 0, none⟩) 3 3, .slice none 0 0])]
    (.agg #[.int .i64 2, .slice (some ⟨B, 0, none⟩) 3 3, .slice none 0 0]) (by kernel_rfl) (by kernel_rfl) rfl ⟨trivial, trivial, twcG, trivial, trivial⟩ (crossAll_no _ _ _ _ trivial) rfl rfl rfl rfl rfl rfl ?_
  iterate 2 refine wpStir_const (by go_simp) ?_
  simp only [Act.put, List.setIfInBounds_toArray, List.set_cons_succ, List.set_cons_zero]
  refine wpStir_held rfl (fun w' hb hd => ?_) (fun v hv => ?_)
  · clear hd
    go_simp
    refine (HTL.out w' hb).mono ?_
    rintro e w'' ⟨ho, hb'⟩
    obtain ⟨v, rfl, h1, h2⟩ := ho.twc hb.size
    exact ⟨v, rfl, hb', h1, h2⟩
  obtain ⟨Aw, cw, Af, cf, rfl⟩ := hv
  refine wpStir_const (by go_simp) ?_
  simp only [Act.put, List.setIfInBounds_toArray, List.set_cons_succ, List.set_cons_zero]
  refine wpStir_end (fun w5 hb5 hd => ?_)
  have hcp : CopyAt w5 W.heap.size _ _ exE := hd.1 _ _ rfl
  clear hd c10 c11 c12
  have HC := Lib.hid hcp
  have h0 := HT0.out.mono hb5
  have h1 := HT1.out.mono hb5
  have H0 := Lib.hid h0
  have H1 := Lib.hid h1
  have HB5 := Lib.hid (bTrans HB.out hb5)
  have HBW := Lib.hid hb5
  have HZ5 := Lib.hid hb5.size
  have a0 : w5.cell? ⟨w.heap.size, 0, none⟩ = some (.int .i64 0) := h0.cell 0
  have a1 : w5.cell? ⟨w.heap.size, 1, none⟩ = some (.slice none 0 0) := h0.cell 1
  have a2 : w5.cell? ⟨w.heap.size, 2, none⟩ = some (.slice none 0 0) := h0.cell 2
  have b0 : w5.cell? ⟨w.heap.size + 1, 0, none⟩ = some (.int .i64 2) := h1.cell 0
  have b1 : w5.cell? ⟨w.heap.size + 1, 1, none⟩ = some (.slice (some ⟨B, 0, none⟩) 3 3) := h1.cell 1
  have b2 : w5.cell? ⟨w.heap.size + 1, 2, none⟩ = some (.slice none 0 0) := h1.cell 2
  have f0 := h0.frozen 0
  have f1 := h0.frozen 1
  have f2 := h0.frozen 2
  have g0 := h1.frozen 0
  have g1 := h1.frozen 1
  have g2 := h1.frozen 2
  have l1 : w.heap.size + 1 < w5.heap.size := h1.lt
  have l0 : w.heap.size < w5.heap.size := h0.lt
  clear h0 h1 hcp hb5
  obtain ⟨w6, hw6⟩ : ∃ w6, ((w5.setCell ⟨w.heap.size, 0, none⟩ (.int .i64 2)).setCell ⟨w.heap.size, 1, none⟩ (.slice Aw 3 cw)).setCell ⟨w.heap.size, 2, none⟩ (.slice Af 1 cf) = w6 := ⟨_, rfl⟩
  have h0 : TBox w6 w.heap.size 25 #[.int .i64 2, .slice Aw 3 cw, .slice Af 1 cf] := hw6 ▸ ((H0.out.set 0 (.int .i64 2)).set 1 (.slice Aw 3 cw)).set 2 (.slice Af 1 cf)
  have h1 : TBox w6 (w.heap.size + 1) 25 #[.int .i64 2, .slice (some ⟨B, 0, none⟩) 3 3, .slice none 0 0] := hw6 ▸ ((H1.out.other (by omega) 0 (.int .i64 2)).other (by omega) 1 (.slice Aw 3 cw)).other (by omega) 2 (.slice Af 1 cf)
  have k0 : Kept [3, 40, 81, 53] w5 w6 := hw6 ▸ ((Kept.set H0.out (by decide) 0 (.int .i64 2)).trans (Kept.set (H0.out.set 0 (.int .i64 2)) (by decide) 1 (.slice Aw 3 cw))).trans (Kept.set ((H0.out.set 0 (.int .i64 2)).set 1 (.slice Aw 3 cw)) (by decide) 2 (.slice Af 1 cf))
  have hb6 : Below w.heap.size w w6 := hw6 ▸ Below.setCell (p := ⟨w.heap.size, 2, none⟩) (Below.setCell (p := ⟨w.heap.size, 1, none⟩) (Below.setCell (p := ⟨w.heap.size, 0, none⟩) HB5.out (by simp) (.int .i64 2)) (by simp) (.slice Aw 3 cw)) (by simp) (.slice Af 1 cf)
  have HH6 := Lib.hid (show ∀ b, b ≠ w.heap.size → w6.heap[b]? = w5.heap[b]? from fun b hb => by
    rw [← hw6, Below.heap_setCell _ _ _ b hb, Below.heap_setCell _ _ _ b hb, Below.heap_setCell _ _ _ b hb])
  have HW6 := Lib.hid hw6
  have H60 := Lib.hid h0
  have H61 := Lib.hid h1
  have HK6 := Lib.hid k0
  have HB6 := Lib.hid hb6
  clear hw6 k0 hb6 h0 h1
  have d0 : w6.cell? ⟨w.heap.size + 1, 0, none⟩ = some (.int .i64 2) := H61.out.cell 0
  have d1 : w6.cell? ⟨w.heap.size + 1, 1, none⟩ = some (.slice (some ⟨B, 0, none⟩) 3 3) := H61.out.cell 1
  have d2 : w6.cell? ⟨w.heap.size + 1, 2, none⟩ = some (.slice none 0 0) := H61.out.cell 2
  have l6 : w.heap.size + 1 < w6.heap.size := H61.out.lt
  refine ⟨w6, by rw [← HW6.out]; go_simp, by go_simp, ?_⟩
  clear a0 a1 a2 b0 b1 b2 f0 f1 f2 g0 g1 g2 l1 l0 HW6
  have e0 : w6.cell? ⟨w.heap.size, 0, none⟩ = some (.int .i64 2) := H60.out.cell 0
  have e1 : w6.cell? ⟨w.heap.size, 1, none⟩ = some (.slice Aw 3 cw) := H60.out.cell 1
  have e2 : w6.cell? ⟨w.heap.size, 2, none⟩ = some (.slice Af 1 cf) := H60.out.cell 2
  have g0 := H61.out.frozen 0
  have g1 := H61.out.frozen 1
  have g2 := H61.out.frozen 2
  simp only [List.drop_succ_cons, List.drop_zero]
  go_wp2_with fail
  have r1 := H61.out.set 0 (.int .i64 2)
  have r2 := r1.set 1 (.slice (some ⟨B, 0, none⟩) 3 3)
  have k9 := HK6.out.trans (((Kept.set (l := [3, 40, 81, 53]) H61.out (by decide) 0 (.int .i64 2)).trans (Kept.set r1 (by decide) 1 (.slice (some ⟨B, 0, none⟩) 3 3))).trans (Kept.set r2 (by decide) 2 (.slice none 0 0)))
  have hc9 := HC.out.kept k9 (by simp) (by simp) (by simp) (by simp)
  obtain ⟨A1, c1, A2, c2, e1, e2, hq⟩ := hc9.qat
  injection e1 with e1 x1 e1'
  injection e2 with e2 x2 e2'
  clear x1 x2
  subst e1 e1' e2 e2'
  have hs9 := k9.1
  have hz5 := HB5.out.size
  refine bodyPost_ret (v := .tuple #[.agg #[.int .i64 2, .slice Aw 3 cw, .slice Af 1 cf], .agg #[.int .i64 2, .slice (some ⟨B, 0, none⟩) 3 3, .slice none 0 0]]) (by simp [results, Tryd.results69, go_sem, *]) rfl ⟨⟨Aw, cw, Af, cf, _, 3, rfl, hq, HQA.out _ (fun b h1 h2 => ?_) (Nat.le_trans HZ5.out hs9)⟩, ?_⟩
  · rw [Below.heap_setCell _ _ _ b (by show b ≠ w.heap.size + 1; omega), Below.heap_setCell _ _ _ b (by show b ≠ w.heap.size + 1; omega), Below.heap_setCell _ _ _ b (by show b ≠ w.heap.size + 1; omega)]
    rw [HH6.out b (by omega)]
    exact HBW.out.block b h2
  · exact Below.setCell (p := ⟨w.heap.size + 1, 2, none⟩) (Below.setCell (p := ⟨w.heap.size + 1, 1, none⟩) (Below.setCell (p := ⟨w.heap.size + 1, 0, none⟩) HB6.out (by simp) (.int .i64 2)) (by simp) (.slice (some ⟨B, 0, none⟩) 3 3)) (by simp) (.slice none 0 0)
end Go.Proofs.YtchhodikgllgnaaDoor
/- The walk of works of the law 05. Condition: the listed table holds what it holds. -/
namespace Go.Proofs.YtchhodikgllgnaaDoor
open Go.RowKit Go.Sort
theorem intL_get_none (g : Nat → Int) {n i : Nat} (h : n ≤ i) : (intL g n)[i]? = none := List.getElem?_eq_none (by rw [intL_len]; exact h)
theorem numL_intL (l : List Int) : numL l = intL (intL0 l) l.length := by
  refine List.ext_getElem? fun i => ?_
  rcases Nat.lt_or_ge i l.length with h | h
  · rw [intL_get _ h]
    unfold numL intL0
    rw [List.getElem?_map, List.getElem?_eq_getElem h]
    rfl
  · rw [intL_get_none _ h]
    unfold numL
    rw [List.getElem?_map, List.getElem?_eq_none h]
    rfl
/-- a slice that reads as a list of numbers -/
def LstI (w : World) (v : Value) (l : List Int) : Prop := ∃ A c, v = .slice A l.length c ∧ IntsAt w A l.length (intL0 l)
theorem OwnL.lst {w : World} {base : Nat} {v : Value} {l : List Int} (h : OwnL w base v l) : LstI w v l := by
  obtain ⟨A, c, e, hr⟩ := h.nums
  exact ⟨A, c, e, intsAt_row.2 (by rw [← numL_intL]; exact hr)⟩
theorem LstI.mono {w w' : World} {v : Value} {l : List Int} (h : LstI w v l) (hb : Below w.heap.size w w') : LstI w' v l := by
  obtain ⟨A, c, e, hr⟩ := h
  exact ⟨A, c, e, hr.mono hb⟩
theorem LstI.nil {w : World} : LstI w (.slice none 0 0) [] := ⟨none, 0, rfl, .inl rfl⟩
/-- SameInts of two slices that read as the same list -/
theorem sameInts_same (A B : Option Addr) (n c c' : Nat) (f : Nat → Int) (w : World) (hn : n ≤ 9223372036854775807) (hf : IntsAt w A n f) (hg : IntsAt w B n f) :
    Calls Tryd.prog 54 #[.slice A n c, .slice B n c'] w fun e w' => e = .returned (.bool true) ∧ Below w.heap.size w w' := by
  have := sameInts_any A B n n c c' f f w hn hn hf hg
  rw [show (decide (n = n) && !anyB (fun i => f i != f i) n) = true by rw [anyB_false.2 fun i _ => by simp]; simp] at this
  exact this
theorem exE_small : exE.Small := exE_fits.small
theorem exG_small : exG.Small := exG_fits.small
set_option maxHeartbeats 8000000 in
set_option maxRecDepth 100000 in
theorem works5_any (w : World) (hB : TabAt w) : Calls Tryd.prog 18 #[] w fun e w' => e = .returned (.bool true) ∧ Below w.heap.size w w' := by
  have HTB := Lib.hid hB
  clear hB
  go_enter Tryd.func18, Tryd.ntmps18
  go_wp2_with fail
  refine (example5_any _).mono ?_
  rintro e w1 ⟨⟨Aw, cw, Af, cf, Bw, dw, rfl, hE, hG⟩, hb1⟩
  have HE := Lib.hid ((hE.mono (bAlloc (Below.refl _ _) (.cells #[.int .i64 2, .slice Aw 3 cw, .slice Af 1 cf] 25))).mono (bAlloc (Below.refl _ _) (.cells #[.int .i64 2, .slice Bw 3 dw, .slice none 0 0] 25)))
  have HG := Lib.hid ((hG.mono (bAlloc (Below.refl _ _) (.cells #[.int .i64 2, .slice Aw 3 cw, .slice Af 1 cf] 25))).mono (bAlloc (Below.refl _ _) (.cells #[.int .i64 2, .slice Bw 3 dw, .slice none 0 0] 25)))
  have HBW := Lib.hid (bAlloc (bAlloc hb1 (.cells #[.int .i64 2, .slice Aw 3 cw, .slice Af 1 cf] 25)) (.cells #[.int .i64 2, .slice Bw 3 dw, .slice none 0 0] 25))
  have HT1 := Lib.hid (HTB.out.mono HBW.out)
  clear hE hG hb1
  go_wp2_with fail
  have HD1 := Lib.hid (Below.refl ((w1.alloc (.cells #[.int .i64 2, .slice Aw 3 cw, .slice Af 1 cf] 25)).alloc (.cells #[.int .i64 2, .slice Bw 3 dw, .slice none 0 0] 25)).heap.size ((w1.alloc (.cells #[.int .i64 2, .slice Aw 3 cw, .slice Af 1 cf] 25)).alloc (.cells #[.int .i64 2, .slice Bw 3 dw, .slice none 0 0] 25)))
  refine (leftQ_any Aw Af cw cf exE _ exE_small HE.out HT1.out).mono ?_
  rintro e w2 ⟨⟨v, he, hv, _⟩, hb2⟩
  rw [Qt.err_ok exE_ok] at he
  subst he
  have hv2 := (hv exE_ok).lst
  rw [exE_left] at hv2
  obtain ⟨A2, c2, rfl, hi2⟩ := hv2
  have HI2 := Lib.hid (show IntsAt w2 A2 2 (intL0 [0, 2]) from hi2)
  clear hv hi2
  have HD2 := Lib.hid (bTrans HD1.out hb2)
  obtain ⟨bc2, bf2⟩ := bcell HD2.out
  have hz2 := HD2.out.size
  simp only [World.size_alloc] at hz2
  have hy2 : w1.heap.size < w2.heap.size := by omega
  have hv2 : w1.heap.size + 1 < w2.heap.size := by omega
  clear hb2
  go_wp2_with fail
  have hb3 := bAlloc (Below.refl w2.heap.size w2) (.cells #[.int .i64 2, .int .i64 3] 3)
  have hi3 : IntsAt (w2.alloc (.cells #[.int .i64 2, .int .i64 3] 3)) (some ⟨w2.heap.size, 0, none⟩) 2 exD := ints2 (by simp) (by simp [go_sem, exD]) (by simp [go_sem, exD])
  have HT3 := Lib.hid (totalQ_any Aw Af (some ⟨w2.heap.size, 0, none⟩) cw cf 2 2 exE exD 0 _ (by decide) hi3 exE_small (HE.out.mono (bTrans HD2.out hb3)) (HT1.out.mono (bTrans HD2.out hb3)))
  have e3 : exE.knowErr (exE.drawsB 2 exD && exE.wellB 0) = 0 := by rw [ex_draws, ex_well 0 (by decide) (by decide)]; exact exE_know
  have e4 : exE.totalV 2 exD 0 = (6, 12) := by unfold Qt.totalV; rw [e3, if_pos rfl]; exact ex_total
  rw [e3, e4] at HT3
  clear e3 e4 hi3 hb3
  refine HT3.out.mono ?_
  rintro e w3 ⟨rfl, hb3⟩
  have hb3' := bTrans (bAlloc (Below.refl w2.heap.size w2) (.cells #[.int .i64 2, .int .i64 3] 3)) hb3
  have HI3 := Lib.hid (HI2.out.mono hb3')
  clear hb3 HT3 bc2 bf2 hz2 hy2 hv2
  have HD3 := Lib.hid (bTrans HD2.out hb3')
  obtain ⟨bc3, bf3⟩ := bcell HD3.out
  have hz3 := HD3.out.size
  simp only [World.size_alloc] at hz3
  have hy3 : w1.heap.size < w3.heap.size := by omega
  have hv3 : w1.heap.size + 1 < w3.heap.size := by omega
  clear hb3'
  go_wp2_with fail
  have HS3 := Lib.hid (TBox.new w3 #[.int .i64 6, .int .i64 12] 47)
  have hb3 := bAlloc (Below.refl w3.heap.size w3) (.cells #[.int .i64 6, .int .i64 12] 47)
  have HT4 := Lib.hid (harmsQ_any Aw Af cw cf exE 0 1 0 _ exE_small (HE.out.mono (bTrans HD3.out hb3)) (HT1.out.mono (bTrans HD3.out hb3)))
  have e3 : exE.knowErr (exE.wellB 0 && exE.wellB 1 && inR 0 0 99) = 0 := by rw [ex_well 0 (by decide) (by decide), ex_well 1 (by decide) (by decide)]; exact exE_know
  have e4 : harmK (exE.between (0 : Int).toNat (1 : Int).toNat) 0 = 1 := ex_harms
  rw [e3, e4, if_pos rfl] at HT4
  clear e3 e4 hb3
  refine HT4.out.mono ?_
  rintro e w4 ⟨rfl, hb4⟩
  have HS4 := Lib.hid (HS3.out.mono hb4)
  have hb4' := bTrans (bAlloc (Below.refl w3.heap.size w3) (.cells #[.int .i64 6, .int .i64 12] 47)) hb4
  have HI4 := Lib.hid (HI3.out.mono hb4')
  clear hb4 HT4 bc3 bf3 hz3 hy3 hv3
  have HD4 := Lib.hid (bTrans HD3.out hb4')
  obtain ⟨bc4, bf4⟩ := bcell HD4.out
  have hz4 := HD4.out.size
  simp only [World.size_alloc] at hz4
  have hy4 : w1.heap.size < w4.heap.size := by omega
  have hv4 : w1.heap.size + 1 < w4.heap.size := by omega
  clear hb4'
  go_wp2_with fail
  have HT5 := Lib.hid (splitQ_any Bw none dw 0 exG 0 1 _ exG_small (HG.out.mono HD4.out) (HT1.out.mono HD4.out))
  have e3 : exG.knowErr (exG.wellB 0 && exG.wellB 1) = 0 := by rw [ex_wellG 0 (by decide) (by decide), ex_wellG 1 (by decide) (by decide)]; exact exG_know
  have e4 : exG.splitV 0 1 = 2 := by unfold Qt.splitV; rw [e3, if_pos rfl]; exact ex_split
  rw [e3, e4] at HT5
  clear e3 e4
  refine HT5.out.mono ?_
  rintro e w5 ⟨rfl, hb5⟩
  have HS5 := Lib.hid (HS4.out.mono hb5)
  have HI5 := Lib.hid (HI4.out.mono hb5)
  clear HT5 bc4 bf4 hz4 hy4 hv4
  have HD5 := Lib.hid (bTrans HD4.out hb5)
  obtain ⟨bc5, bf5⟩ := bcell HD5.out
  have hz5 := HD5.out.size
  simp only [World.size_alloc] at hz5
  have hy5 : w1.heap.size < w5.heap.size := by omega
  have hv5 : w1.heap.size + 1 < w5.heap.size := by omega
  clear hb5
  go_wp2_with fail
  have HT6 := Lib.hid (depthQ_any Bw none dw 0 exG _ exG_small (HG.out.mono HD5.out) (HT1.out.mono HD5.out))
  have e4 : exG.depthOut = 1 := by unfold Qt.depthOut; rw [exG_know, if_pos rfl]; exact ex_depth
  rw [exG_know, e4] at HT6
  clear e4
  refine HT6.out.mono ?_
  rintro e w6 ⟨rfl, hb6⟩
  have HS6 := Lib.hid (HS5.out.mono hb6)
  have HI6 := Lib.hid (HI5.out.mono hb6)
  clear HT6 bc5 bf5 hz5 hy5 hv5
  have HD6 := Lib.hid (bTrans HD5.out hb6)
  obtain ⟨bc6, bf6⟩ := bcell HD6.out
  have hz6 := HD6.out.size
  simp only [World.size_alloc] at hz6
  have hy6 : w1.heap.size < w6.heap.size := by omega
  have hv6 : w1.heap.size + 1 < w6.heap.size := by omega
  clear hb6
  go_wp2_with fail
  have HT7 := Lib.hid (fewestQ_any Bw none dw 0 exG _ exG_small (HG.out.mono HD6.out) (HT1.out.mono HD6.out))
  rw [exG_know, ex_fewest] at HT7
  refine HT7.out.mono ?_
  rintro e w7 ⟨⟨ho, _⟩, hb7⟩
  obtain ⟨A7, c7, rfl, hl7⟩ := ho rfl
  have HL7 := Lib.hid hl7.row
  have HS7 := Lib.hid (HS6.out.mono hb7)
  have HI7 := Lib.hid (HI6.out.mono hb7)
  clear HT7 bc6 bf6 hz6 hy6 hv6 ho hl7
  have HD7 := Lib.hid (bTrans HD6.out hb7)
  obtain ⟨bc7, bf7⟩ := bcell HD7.out
  have hz7 := HD7.out.size
  simp only [World.size_alloc] at hz7
  have hy7 : w1.heap.size < w7.heap.size := by omega
  have hv7 : w1.heap.size + 1 < w7.heap.size := by omega
  clear hb7
  have s0 : w7.cell? ⟨w3.heap.size, 0, none⟩ = some (.int .i64 6) := HS7.out.cell 0
  have s1 : w7.cell? ⟨w3.heap.size, 1, none⟩ = some (.int .i64 12) := HS7.out.cell 1
  have sl : w3.heap.size < w7.heap.size := HS7.out.lt
  go_wp2_with fail
  have hb8 := bAlloc (Below.refl w7.heap.size w7) (.cells #[.int .i64 0, .int .i64 2] 3)
  have hi8 : IntsAt (w7.alloc (.cells #[.int .i64 0, .int .i64 2] 3)) (some ⟨w7.heap.size, 0, none⟩) 2 (intL0 [0, 2]) := ints2 (by simp) (by simp [go_sem, intL0]) (by simp [go_sem, intL0])
  have HT8 := Lib.hid (sameInts_same A2 (some ⟨w7.heap.size, 0, none⟩) 2 c2 2 _ _ (by decide) (HI7.out.mono hb8) hi8)
  refine HT8.out.mono ?_
  rintro e w8 ⟨rfl, hb9⟩
  have hb9' := bTrans hb8 hb9
  have HS8 := Lib.hid (HS7.out.mono hb9')
  have HL8 := Lib.hid (HL7.out.mono hb9')
  clear hb8 hi8 HT8 hb9 bc7 bf7 hz7 hy7 hv7 s0 s1 sl
  have HD8 := Lib.hid (bTrans HD7.out hb9')
  obtain ⟨bc8, bf8⟩ := bcell HD8.out
  have hz8 := HD8.out.size
  simp only [World.size_alloc] at hz8
  have hy8 : w1.heap.size < w8.heap.size := by omega
  have hv8 : w1.heap.size + 1 < w8.heap.size := by omega
  clear hb9'
  have s0 : w8.cell? ⟨w3.heap.size, 0, none⟩ = some (.int .i64 6) := HS8.out.cell 0
  have s1 : w8.cell? ⟨w3.heap.size, 1, none⟩ = some (.int .i64 12) := HS8.out.cell 1
  have sl : w3.heap.size < w8.heap.size := HS8.out.lt
  go_wp2_with fail
  have hb9 := bAlloc (Below.refl w8.heap.size w8) (.cells #[.int .i64 1, .int .i64 0] 27)
  have hr9 : RowAt (w8.alloc (.cells #[.int .i64 1, .int .i64 0] 27)) (some ⟨w8.heap.size, 0, none⟩) (tstE.cells [(1, 0)]) := .inr ⟨_, 0, rfl, by simp, fun j v hj => by
    match j, hj with
    | 0, hj => have : Value.int .i64 1 = v := by simpa [tstE, Elem.cells] using hj
               subst this; simp [go_sem]
    | 1, hj => have : Value.int .i64 0 = v := by simpa [tstE, Elem.cells] using hj
               subst this; simp [go_sem]
    | n + 2, hj => simp [tstE, Elem.cells] at hj⟩
  have HT9 := Lib.hid (sameTests_any A7 (some ⟨w8.heap.size, 0, none⟩) c7 1 [(1, 0)] [(1, 0)] _ (by decide) (by decide) (HL8.out.mono hb9) hr9)
  refine HT9.out.mono ?_
  rintro e w9 ⟨rfl, hb10⟩
  have HB10 := Lib.hid (bTrans hb9 hb10)
  clear hb9 hr9 HT9 hb10 bc8 bf8 hz8 hy8 hv8 s0 s1 sl
  go_wp2_with fail
  go_ret
  exact ⟨by simp, bTrans HBW.out (bTrans HD8.out HB10.out)⟩
end Go.Proofs.YtchhodikgllgnaaDoor
/- The walk of Out of the package quarrels. Conditions: lengths are Go's. -/
namespace Go.Proofs.YtchhodikgllgnaaDoor
open Go.RowKit Go.Sort
end Go.Proofs.YtchhodikgllgnaaDoor
/- The statement QuarrelsLeft: the walk. Conditions: what is read fits into memory; the listed table holds what it holds. -/
namespace Go.Proofs.YtchhodikgllgnaaDoor
open Go.RowKit Go.Sort
theorem OwnL.le {w : World} {base : Nat} {v : Value} {l : List Int} (h : OwnL w base v l) : l.length ≤ 9223372036854775807 := by
  rcases h.2 with ⟨_, h⟩ | ⟨_, cap, _, _, _, _, h1, h2, _⟩
  · rw [h]; omega
  · unfold maxLen at h2; omega
open Classical in
/-- the list that Left hands back -/
noncomputable def Qt.leftO (t : Qt) : List Int := if t.Ok then t.leftL else []
open Classical in
/-- the list that Out hands back -/
noncomputable def Qt.outO (t : Qt) (n : Int) : List Int := if t.outErr n = 0 then t.outL n.toNat else []
/-- a slice that reads as a list of numbers, of a length of Go's -/
def LstM (w : World) (v : Value) (l : List Int) : Prop := LstI w v l ∧ l.length ≤ 9223372036854775807
theorem LstM.mono {w w' : World} {v : Value} {l : List Int} (h : LstM w v l) (hb : Below w.heap.size w w') : LstM w' v l := ⟨h.1.mono hb, h.2⟩
theorem OwnL.lstM {w : World} {base : Nat} {v : Value} {l : List Int} (h : OwnL w base v l) : LstM w v l := ⟨h.lst, h.le⟩
theorem LstM.nil {w : World} : LstM w (.slice none 0 0) [] := ⟨LstI.nil, Nat.zero_le _⟩
theorem Left5Out.lst {w : World} {base : Nat} {t : Qt} {e : Ending} (h : Left5Out w base t e) : ∃ v, e = .returned (.tuple #[v, .int .i64 t.err]) ∧ LstM w v t.leftO := by
  obtain ⟨v, he, h1, h2⟩ := h
  refine ⟨v, he, ?_⟩
  unfold Qt.leftO
  by_cases ok : t.Ok
  · rw [if_pos ok]; exact (h1 ok).lstM
  · rw [if_neg ok, h2 ok]; exact LstM.nil
theorem Out5Out.lst {w : World} {base : Nat} {t : Qt} {n : Int} {e : Ending} (h : Out5Out w base t n e) : ∃ v, e = .returned (.tuple #[v, .int .i64 (t.outErr n)]) ∧ LstM w v (t.outO n) := by
  obtain ⟨v, he, h1, h2⟩ := h
  refine ⟨v, he, ?_⟩
  unfold Qt.outO
  by_cases ok : t.outErr n = 0
  · rw [if_pos ok]; exact (h1 ok).lstM
  · rw [if_neg ok, h2 ok]; exact LstM.nil
end Go.Proofs.YtchhodikgllgnaaDoor
/- Boxes of the call's own, read cell by cell. No program in sight. -/
namespace Go.Proofs.YtchhodikgllgnaaDoor
open Go.RowKit Go.Sort
section
variable {w : World} {b : Nat} {t : TypeId}
theorem TBox.c1 {x : Value} (h : TBox w b t #[x]) : w.cell? ⟨b, 0, none⟩ = some x ∧ b < w.heap.size := ⟨h.cell 0, h.lt⟩
theorem TBox.c2 {x y : Value} (h : TBox w b t #[x, y]) : w.cell? ⟨b, 0, none⟩ = some x ∧ w.cell? ⟨b, 1, none⟩ = some y ∧ b < w.heap.size := ⟨h.cell 0, h.cell 1, h.lt⟩
theorem TBox.c3 {x y z : Value} (h : TBox w b t #[x, y, z]) : w.cell? ⟨b, 0, none⟩ = some x ∧ w.cell? ⟨b, 1, none⟩ = some y ∧ w.cell? ⟨b, 2, none⟩ = some z ∧ b < w.heap.size := ⟨h.cell 0, h.cell 1, h.cell 2, h.lt⟩
theorem TBox.c4 {x y z u : Value} (h : TBox w b t #[x, y, z, u]) : w.cell? ⟨b, 0, none⟩ = some x ∧ w.cell? ⟨b, 1, none⟩ = some y ∧ w.cell? ⟨b, 2, none⟩ = some z ∧ w.cell? ⟨b, 3, none⟩ = some u ∧ b < w.heap.size := ⟨h.cell 0, h.cell 1, h.cell 2, h.cell 3, h.lt⟩
end
theorem wpList_skip {P : Program} {ops : Array Oper} {Q : Exit → Act → World → Prop} {rest : List Oper} {o : Oper} {a : Act} {w w'' : World} (hg : o.guard = none) (hd : o.dst = none) (hrun : (execOp a.eval o).run P w = .ok .skip w'') (h : wpList P ops Q rest a w'') : wpList P ops Q (o :: rest) a w := by
  simp only [wpList]
  have hw : Region.wanted o (yielded ops a.tmps) = true := by unfold Region.wanted; rw [hg]
  rw [if_pos hw]
  refine .inl ?_
  unfold Oper.wp
  rw [hrun]
  simp only [Oper.upon]
  rw [hd]
  exact h
def Upto (w0 w : World) : Prop := Below w0.heap.size w0 w
theorem Upto.mono {w0 w w' : World} (h : Upto w0 w) (hb : Below w.heap.size w w') : Upto w0 w' := bTrans h hb
end Go.Proofs.YtchhodikgllgnaaDoor
/- Walks of the law 05: Far, ready, isKnown, inside; of the reference 01: In. Conditions: lengths are Go's. -/
namespace Go.Proofs.YtchhodikgllgnaaDoor
open Go.RowKit Go.Sort
theorem Qt.err_zero {t : Qt} : t.err = 0 ↔ t.Ok := by
  constructor
  · intro h
    by_cases ok : t.Ok
    · exact ok
    · rw [Qt.err_bad ok] at h
      cases h
  · exact Qt.err_ok
/-- far too much, or a valid town with more than the statement examines -/
noncomputable def Qt.farB (t : Qt) : Bool := t.huge || (decide (t.err = 0) && (decide (3 < t.wells) || decide (5 < t.leftL.length)))
noncomputable def Qt.readyB (t : Qt) : Bool := !t.farB && decide (t.err = 0)
theorem readyB_ok {t : Qt} (h : t.readyB = true) : t.Ok ∧ t.huge = false ∧ t.wells ≤ 3 ∧ t.leftL.length ≤ 5 := by
  unfold Qt.readyB Qt.farB at h
  simp only [Bool.and_eq_true, Bool.not_eq_true', Bool.or_eq_false_iff, Bool.and_eq_false_iff, decide_eq_true_eq, decide_eq_false_iff_not] at h
  obtain ⟨⟨h1, h2⟩, h3⟩ := h
  rcases h2 with h2 | h2
  · exact absurd h3 h2
  · exact ⟨Qt.err_zero.1 h3, h1, by omega, by omega⟩
set_option maxHeartbeats 4000000 in
set_option maxRecDepth 100000 in
theorem far_any (Aw Af : Option Addr) (cw cf : Nat) (t : Qt) (w : World) (hs : t.Small) (hT : QAt w Aw Af t) :
    Calls Tryd.prog 17 #[.agg #[.int .i64 t.wells, .slice Aw t.nw cw, .slice Af t.nf cf]] w fun e w' => e = .returned (.bool t.farB) ∧ Below w.heap.size w w' := by
  have hb0 := bAlloc (Below.refl w.heap.size w) (.cells #[.int .i64 t.wells, .slice Aw t.nw cw, .slice Af t.nf cf] 25)
  have HT := Lib.hid (hT.mono hb0)
  have HB := Lib.hid hb0
  have HS := Lib.hid hs
  obtain ⟨bf, hbf⟩ : ∃ b, t.farB = b := ⟨_, rfl⟩
  have HF := Lib.hid hbf
  rw [hbf]
  clear hT hb0 hs hbf
  go_enter Tryd.func17, Tryd.ntmps17
  go_wp2_with fail
  refine (huge_any _ _ _ _ t _ HS.out HT.out).mono ?_
  rintro e w1 ⟨rfl, hb1⟩
  have HB1 := Lib.hid hb1
  obtain ⟨bc1, bf1⟩ := bcell hb1
  have hz1 := hb1.size
  simp only [World.size_alloc] at hz1
  have hy1 : w.heap.size < w1.heap.size := by omega
  clear hb1
  obtain ⟨bh, hbh⟩ : ∃ b, t.huge = b := ⟨_, rfl⟩
  have HH := Lib.hid hbh
  rw [hbh]
  clear hbh
  cases bh
  case true =>
    go_wp2_with fail
    go_ret
    exact ⟨ret_bool (by rw [← HF.out]; unfold Qt.farB; rw [HH.out]; rfl), bTrans HB.out HB1.out⟩
  go_wp2_with fail
  refine (refCheck5 _ _ _ _ t _ HS.out.1 HS.out.2.1 (HT.out.mono HB1.out)).mono ?_
  rintro e w2 ⟨rfl, hb2⟩
  have HB2 := Lib.hid (bTrans HB1.out hb2)
  obtain ⟨bc2, bf2⟩ := bcell HB2.out
  have hz2 := HB2.out.size
  simp only [World.size_alloc] at hz2
  have hy2 : w.heap.size < w2.heap.size := by omega
  clear hb2 bc1 bf1 hz1 hy1
  by_cases hok : t.Ok
  case neg =>
    have HE := Lib.hid (Qt.err_bad hok)
    rw [HE.out]
    clear hok
    go_wp2_with fail
    go_ret
    exact ⟨ret_bool (by rw [← HF.out]; unfold Qt.farB; rw [HH.out, HE.out]; rfl), bTrans HB.out HB2.out⟩
  have HOK := Lib.hid hok
  have HE := Lib.hid (Qt.err_ok hok)
  rw [HE.out]
  clear hok
  by_cases h3 : t.wells > 3
  case pos =>
    have H3 := Lib.hid h3
    go_wp2_with fail
    go_ret
    exact ⟨ret_bool (by rw [← HF.out]; unfold Qt.farB; rw [HH.out, HE.out]; have := H3.out; simp; omega), bTrans HB.out HB2.out⟩
  have H3 := Lib.hid h3
  go_wp2_with fail
  refine (refLeftOf _ _ _ _ t _ HOK.out (HT.out.mono HB2.out)).mono ?_
  rintro e w3 ⟨⟨v, rfl, hv⟩, hb3⟩
  obtain ⟨A, c, rfl, _⟩ := hv.nums
  have HB3 := Lib.hid (bTrans HB2.out hb3)
  obtain ⟨n, hn⟩ : ∃ n, t.leftL.length = n := ⟨_, rfl⟩
  have HN := Lib.hid hn
  rw [hn]
  clear hv hb3 hn bc2 bf2 hz2 hy2
  by_cases h5 : (n : Int) > 5
  · have H5 := Lib.hid h5
    go_wp2_with fail
    go_ret
    exact ⟨ret_bool (by rw [← HF.out]; unfold Qt.farB; rw [HH.out, HE.out, HN.out]; have := H5.out; simp; omega), bTrans HB.out HB3.out⟩
  · have H5 := Lib.hid h5
    go_wp2_with fail
    go_ret
    exact ⟨ret_bool (by rw [← HF.out]; unfold Qt.farB; rw [HH.out, HE.out, HN.out, decide_eq_false (show ¬ 3 < t.wells by have := H3.out; omega), decide_eq_false (show ¬ 5 < n by have := H5.out; omega), show decide ((5 : Int) < (n : Int)) = false from decide_eq_false (by have := H5.out; omega)]; rfl), bTrans HB.out HB3.out⟩
set_option maxHeartbeats 4000000 in
set_option maxRecDepth 100000 in
theorem ready_any (Aw Af : Option Addr) (cw cf : Nat) (t : Qt) (w : World) (hs : t.Small) (hT : QAt w Aw Af t) :
    Calls Tryd.prog 26 #[.agg #[.int .i64 t.wells, .slice Aw t.nw cw, .slice Af t.nf cf]] w fun e w' => e = .returned (.bool t.readyB) ∧ Below w.heap.size w w' := by
  have hb0 := bAlloc (Below.refl w.heap.size w) (.cells #[.int .i64 t.wells, .slice Aw t.nw cw, .slice Af t.nf cf] 25)
  have HT := Lib.hid (hT.mono hb0)
  have HB := Lib.hid hb0
  have HS := Lib.hid hs
  obtain ⟨bf, hbf⟩ : ∃ b, t.readyB = b := ⟨_, rfl⟩
  have HF := Lib.hid hbf
  rw [hbf]
  clear hT hb0 hs hbf
  go_enter Tryd.func26, Tryd.ntmps26
  go_wp2_with fail
  refine (far_any _ _ _ _ t _ HS.out HT.out).mono ?_
  rintro e w1 ⟨rfl, hb1⟩
  have HB1 := Lib.hid hb1
  obtain ⟨bc1, bf1⟩ := bcell hb1
  have hz1 := hb1.size
  simp only [World.size_alloc] at hz1
  have hy1 : w.heap.size < w1.heap.size := by omega
  clear hb1
  obtain ⟨bh, hbh⟩ : ∃ b, t.farB = b := ⟨_, rfl⟩
  have HH := Lib.hid hbh
  rw [hbh]
  clear hbh
  cases bh
  case true =>
    go_wp2_with fail
    go_ret
    exact ⟨ret_bool (by rw [← HF.out]; unfold Qt.readyB; rw [HH.out]; rfl), bTrans HB.out HB1.out⟩
  go_wp2_with fail
  refine (refCheck5 _ _ _ _ t _ HS.out.1 HS.out.2.1 (HT.out.mono HB1.out)).mono ?_
  rintro e w2 ⟨rfl, hb2⟩
  have HB2 := Lib.hid (bTrans HB1.out hb2)
  clear hb2 bc1 bf1 hz1 hy1
  obtain ⟨er, her⟩ : ∃ er, t.err = er := ⟨_, rfl⟩
  have HE := Lib.hid her
  rw [her]
  clear her
  by_cases h0 : er = 0
  · subst h0
    go_wp2_with fail
    go_ret
    exact ⟨ret_bool (by rw [← HF.out]; unfold Qt.readyB; rw [HH.out, HE.out]; rfl), bTrans HB.out HB2.out⟩
  · have H0 := Lib.hid h0
    have h1 : (er == 0) = false := by simp [h0]
    clear h0
    go_wp2_with fail
    go_ret
    exact ⟨ret_bool (by rw [← HF.out]; unfold Qt.readyB; rw [HH.out, HE.out]; have := H0.out; simp [this]), bTrans HB.out HB2.out⟩
theorem isKnown_any (n : Int) (w : World) :
    Calls Tryd.prog 46 #[.int .i64 n] w fun e w' => e = .returned (.bool (n == 0 || n == 3)) ∧ Below w.heap.size w w' := by
  by_cases h0 : n = 0
  · subst h0
    go_enter Tryd.func46, Tryd.ntmps46
    go_wp2_with fail
    go_ret
    exact ⟨rfl, Below.refl _ _⟩
  · have h1 : (n == 0) = false := by simp [h0]
    have H1 := Lib.hid h1
    clear h0
    go_enter Tryd.func46, Tryd.ntmps46
    go_wp2_with fail
    go_ret
    exact ⟨ret_bool (by rw [H1.out, Bool.false_or]), Below.refl _ _⟩
set_option maxHeartbeats 2000000 in
set_option maxRecDepth 100000 in
theorem in1_any (A : Option Addr) (n c : Nat) (f : Nat → Int) (x : Int) (w : World) (hn : n ≤ 9223372036854775807) (hI : IntsAt w A n f) :
    Calls Tryd.prog 40 #[.slice A n c, .int .i64 x] w fun e w' => e = .returned (.bool (anyB (fun i => f i == x) n)) ∧ Below w.heap.size w w' := by
  have HI := Lib.hid hI
  clear hI
  go_enter Tryd.func40, Tryd.ntmps40
  go_wp2_with fail
  go_loopw [5] (fun s wr => ∃ k : Nat, k ≤ n ∧ s = .int .i64 k ∧ anyB (fun i => f i == x) k = false ∧ w = wr) (fun s _ => n - (intOf s).toNat)
  case atStart => exact ⟨0, Nat.zero_le _, rfl, rfl, rfl⟩
  case round =>
    obtain ⟨k, hk, rfl, hno, rfl⟩ := hrel
    have HNO := Lib.hid hno
    clear hno
    by_cases hlt : k < n
    · obtain ⟨b, o, rfl, hb, c0⟩ := HI.out.get hlt
      have k1 : (k : Int) < (n : Int) := by omega
      have k0 : (0 : Int) ≤ (k : Int) := by omega
      obtain ⟨v, hv⟩ : ∃ v, f k = v := ⟨_, rfl⟩
      rw [hv] at c0
      by_cases hx : v = x
      · have HH := Lib.hid (show anyB (fun i => f i == x) n = true from anyB_hit hlt (by simp [hv, hx]))
        have hx1 : (v == x) = true := by simp [hx]
        clear hv hx
        go_wp2_with fail
        go_ret
        exact ⟨ret_bool (by rw [HH.out]), Below.refl _ _⟩
      · have HH := Lib.hid (show anyB (fun i => f i == x) (k + 1) = false from anyB_step HNO.out (by simp [hv, hx]))
        have hx1 : (v == x) = false := by simp [hx]
        clear hv hx
        go_wp2_with fail
        go_roundw
        case rel =>
          first
          | exact ⟨k + 1, by omega, by go_num, HH.out, trivial⟩
          | ((repeat apply Exists.intro)
             refine ⟨⟨k + 1, by omega, ?_, HH.out, trivial⟩, rfl⟩
             go_num)
        case measure => simp [intOf]; omega
    · obtain rfl : k = n := by omega
      have k1 : ¬ (k : Int) < (k : Int) := by omega
      go_wp2_with fail
      go_ret
      exact ⟨ret_bool (by rw [HNO.out]), Below.refl _ _⟩
end Go.Proofs.YtchhodikgllgnaaDoor
/- What the statement of each world says of the plain values. Plain Lean. No condition but a valid town, where it is said. -/
namespace Go.Proofs.YtchhodikgllgnaaDoor
open Go.RowKit Go.Sort
theorem leftO_ok {t : Qt} (ok : t.Ok) : t.leftO = t.leftL := if_pos ok
theorem left_in {t : Qt} (ok : t.Ok) {i : Nat} (hi : i < t.nw) : anyB (fun k => intL0 t.leftO k == (i : Int)) t.leftO.length = t.leftB i := by
  rw [leftO_ok ok]
  cases h : t.leftB i with
  | true =>
    obtain ⟨k, hk, e⟩ := mem_intL0 ((leftTo_mem t t.nw).2 ⟨i, hi, h, rfl⟩ : (i : Int) ∈ t.leftL)
    exact anyB_hit (p := fun k => intL0 t.leftL k == (i : Int)) hk (show (intL0 t.leftL k == (i : Int)) = true by rw [show intL0 t.leftL k = (i : Int) from e]; simp)
  | false =>
    refine anyB_false.2 fun k hk => ?_
    cases hb : (intL0 t.leftL k == (i : Int)) with
    | false => rfl
    | true =>
      obtain ⟨j, _, hj, e⟩ := (leftTo_mem t t.nw).1 (intL0_mem (L := t.leftL) hk)
      have e := (eq_of_beq hb).symm.trans e
      have e' : i = j := by omega
      rw [e', hj] at h
      cases h
theorem left_mem {t : Qt} {i : Nat} (hi : i < t.nw) (h : t.leftB i = true) : (i : Int) ∈ t.leftL := (leftTo_mem t t.nw).2 ⟨i, hi, h, rfl⟩
theorem wellB_in {t : Qt} (ok : t.Ok) {p : Nat} (hp : (p : Int) < t.wells) : t.wellB (p : Int) = true := by rw [wellB_ok ok]; exact inR_t (by omega)
theorem harms_at {t : Qt} (ok : t.Ok) {i p q : Nat} (hi : i < t.nw) (hl : t.leftB i = true) (hp : (p : Int) < t.wells) (hq : (q : Int) < t.wells) {law : Int} (hlaw : inR law 0 99 = true) :
    t.knowErr (t.wellB (p : Int) && t.wellB (q : Int) && inR law 0 99) = 0 ∧ (harmK (t.between p q) law = 1 ∨ harmK (t.between p q) law = 2 ∨ harmK (t.between p q) law = 3) ∧ (harmK (t.between p q) law = 1 → law < t.F i (p, q)) ∧ (harmK (t.between p q) law = 2 → t.F i (p, q) ≤ law) := by
  have hm := left_mem hi hl
  refine ⟨by rw [wellB_in ok hp, wellB_in ok hq, hlaw]; exact knowErr_ok ok (List.ne_nil_of_mem hm), ?_⟩
  rw [between_of]
  refine ⟨?_, fun h => ((harmK_side (t := t) (x := (p, q)) hm (by rw [h]; decide)).1).1 h, fun h => ((harmK_side (t := t) (x := (p, q)) hm (by rw [h]; decide)).2).1 h⟩
  unfold harmK
  split
  · exact .inl rfl
  · split
    · exact .inr (.inl rfl)
    · exact .inr (.inr rfl)
end Go.Proofs.YtchhodikgllgnaaDoor
/- Walks of the reference 05: lists. Conditions: at most 16 tests. -/
namespace Go.Proofs.YtchhodikgllgnaaDoor
open Go.RowKit Go.Sort
/-! ### An append to a row of the call's own: where the row lies afterwards -/
/-! ### Lists of lists of tests -/
def TRow (w : World) (u : Value) (l : List Tp) : Prop := ∃ A c, u = .slice A l.length c ∧ RowK w A 27 (tstE.cells l)
theorem TRow.kept {ts : List TypeId} {w w' : World} {u : Value} {l : List Tp} (h : TRow w u l) (hk : Kept ts w w') (ht : 27 ∈ ts) : TRow w' u l := by
  obtain ⟨A, c, e, hr⟩ := h
  exact ⟨A, c, e, hr.kept hk ht⟩
def TRows (w : World) (LL : List (List Tp)) (us : List Value) : Prop := us.length = LL.length ∧ ∀ (j : Nat) (u : Value) (l : List Tp), us[j]? = some u → LL[j]? = some l → TRow w u l
theorem TRows.kept {ts : List TypeId} {w w' : World} {LL : List (List Tp)} {us : List Value} (h : TRows w LL us) (hk : Kept ts w w') (ht : 27 ∈ ts) : TRows w' LL us := ⟨h.1, fun j u l h1 h2 => (h.2 j u l h1 h2).kept hk ht⟩
theorem TRows.snoc {w : World} {LL : List (List Tp)} {us : List Value} {u : Value} {l : List Tp} (h : TRows w LL us) (hu : TRow w u l) : TRows w (LL ++ [l]) (us ++ [u]) :=
  ⟨by rw [List.length_append, List.length_append, h.1]; rfl, fun j v l' h1 h2 => by
    rcases Nat.lt_or_ge j us.length with hlt | hge
    · rw [List.getElem?_append_left hlt] at h1
      rw [List.getElem?_append_left (by rw [← h.1]; exact hlt)] at h2
      exact h.2 j v l' h1 h2
    · rw [List.getElem?_append_right hge] at h1
      rw [List.getElem?_append_right (by rw [← h.1]; exact hge), ← h.1] at h2
      have h0 : j - us.length = 0 := by
        have := (List.getElem?_eq_some_iff.1 h1).1
        simp only [List.length_cons, List.length_nil] at this
        omega
      rw [h0] at h1 h2
      simp at h1 h2
      subst h1 h2
      exact hu⟩
/-- a list of lists of tests, of the call's own -/
def ListsAt (w : World) (base : Nat) (v : Value) (LL : List (List Tp)) : Prop := ∃ us, w.ownsRow base 34 1 v LL.length us ∧ TRows w LL us
theorem ListsAt.mono {w w' : World} {base : Nat} {v : Value} {LL : List (List Tp)} (h : ListsAt w base v LL) (hb : Below w.heap.size w w') : ListsAt w' base v LL := by
  obtain ⟨us, h1, h2⟩ := h
  exact ⟨us, owns_below h1 hb, h2.kept (Kept.of_below (l := [27]) hb) (by simp)⟩
theorem ListsAt.lower {w : World} {base base' : Nat} {v : Value} {LL : List (List Tp)} (h : ListsAt w base v LL) (hb : base' ≤ base) : ListsAt w base' v LL := by
  obtain ⟨us, h1, h2⟩ := h
  exact ⟨us, owns_lower h1 hb, h2⟩
theorem infoT : (Tryd.prog.info? 27).map (fun i => (i.zero, i.size, i.bytes)) = some (some (.agg #[.int .i64 0, .int .i64 0]), 2, 16) := by kernel_rfl
end Go.Proofs.YtchhodikgllgnaaDoor
/- Walks of the reference 05: Split. Conditions: lengths are Go's. -/
namespace Go.Proofs.YtchhodikgllgnaaDoor
open Go.RowKit Go.Sort
theorem left_worlds {t : Qt} : ∀ a, a ∈ t.leftL → ∃ i : Nat, i < t.nw ∧ a = i := fun a ha => by
  obtain ⟨i, hi, _, rfl⟩ := (leftTo_mem t t.nw).1 ha
  exact ⟨i, hi, rfl⟩
theorem left_six {t : Qt} (ok : t.Ok) : t.leftL.length ≤ 6 := by have := leftTo_len t t.nw; have := ok.nw; unfold Qt.leftL; omega
theorem maxTo_succ (g : Nat → Int) (n : Nat) : maxTo g (n + 1) = if maxTo g n < g n then g n else maxTo g n := by
  show max (maxTo g n) (g n) = _
  split <;> omega
end Go.Proofs.YtchhodikgllgnaaDoor
/- Walks of the reference 05: behind, depth. Conditions: a valid town and worlds of it. -/
namespace Go.Proofs.YtchhodikgllgnaaDoor
open Go.RowKit Go.Sort
end Go.Proofs.YtchhodikgllgnaaDoor
/- Walks of the reference 05: Depth, Next. Conditions: lengths are Go's. -/
namespace Go.Proofs.YtchhodikgllgnaaDoor
open Go.RowKit Go.Sort
end Go.Proofs.YtchhodikgllgnaaDoor
/- Walks of the reference 05: Fewest. Conditions: lengths are Go's. -/
namespace Go.Proofs.YtchhodikgllgnaaDoor
open Go.RowKit Go.Sort
/-- what the reference hands back: a list of tests, and an error -/
def RefLst (w : World) (er : Int) (L : List Tp) (e : Ending) : Prop := (er = 0 → ∃ A c, e = .returned (.tuple #[.slice A L.length c, .int .i64 er]) ∧ RowAt w A (tstE.cells L)) ∧ (er ≠ 0 → e = .returned (.tuple #[.slice none 0 0, .int .i64 er]))
theorem tests_len {t : Qt} (ok : t.Ok) : t.tests.length ≤ 16 := by
  obtain ⟨m, hm⟩ : ∃ m : Nat, t.wells = (m : Int) := ⟨t.wells.toNat, by have := ok.w0; omega⟩
  have m4 : m ≤ 4 := by have := ok.w1; omega
  unfold Qt.tests
  rw [testsL_len, hm, Int.toNat_natCast]
  have : m * m ≤ 4 * 4 := Nat.mul_le_mul m4 m4
  omega
theorem tests_ok5 {t : Qt} (ok : t.Ok) : t.TestsOk t.tests := fun x hx => by
  have := testsL_mem.1 hx
  have := ok.w0
  omega
end Go.Proofs.YtchhodikgllgnaaDoor
/- What comes back with a list of tests, in one form. No condition. -/
namespace Go.Proofs.YtchhodikgllgnaaDoor
open Go.RowKit Go.Sort
/-- the list that comes back with an error -/
def lstO (er : Int) (L : List Tp) : List Tp := if er = 0 then L else []
theorem LstOut.o {w : World} {er : Int} {L : List Tp} {e : Ending} (h : LstOut w er L e) : ∃ A c, e = .returned (.tuple #[.slice A (lstO er L).length c, .int .i64 er]) ∧ RowAt w A (tstE.cells (lstO er L)) := by
  unfold lstO
  by_cases h0 : er = 0
  · obtain ⟨A, c, e1, h1⟩ := h.1 h0
    rw [if_pos h0]
    exact ⟨A, c, e1, h1.row⟩
  · rw [if_neg h0]
    exact ⟨none, 0, h.2 h0, .inl rfl⟩
theorem RefLst.o {w : World} {er : Int} {L : List Tp} {e : Ending} (h : RefLst w er L e) : ∃ A c, e = .returned (.tuple #[.slice A (lstO er L).length c, .int .i64 er]) ∧ RowAt w A (tstE.cells (lstO er L)) := by
  unfold lstO
  by_cases h0 : er = 0
  · obtain ⟨A, c, e1, h1⟩ := h.1 h0
    rw [if_pos h0]
    exact ⟨A, c, e1, h1⟩
  · rw [if_neg h0]
    exact ⟨none, 0, h.2 h0, .inl rfl⟩
theorem fewest_len (t : Qt) : (lstO (t.knowErr true) (t.fewest t.leftL)).length ≤ 100000 := by
  unfold lstO
  by_cases h0 : t.knowErr true = 0
  · rw [if_pos h0]
    have h1 := (fewest_sub t t.leftL).length_le
    have h2 := tests_len (knowErr_zero h0).1
    omega
  · rw [if_neg h0]
    simp
end Go.Proofs.YtchhodikgllgnaaDoor
/- What the statement of one fact more says of the plain values. Plain Lean. Conditions: valid towns, where it is said. -/
namespace Go.Proofs.YtchhodikgllgnaaDoor
open Go.RowKit Go.Sort
theorem add_small {t : Qt} (h : t.Fits) (y : Fact) : (t.add y).Small :=
  ⟨by have := h.1; show t.nw ≤ _; omega, by have := h.2.1; show t.nf + 1 ≤ _; omega, fun i hi k hk => by have := (h.2.2 i hi).2 k hk; show (t.world i).len k ≤ _; omega⟩
end Go.Proofs.YtchhodikgllgnaaDoor
/- Walks of the reference 05: Decides. Conditions: a valid town, tests and worlds of it. -/
namespace Go.Proofs.YtchhodikgllgnaaDoor
open Go.RowKit Go.Sort
end Go.Proofs.YtchhodikgllgnaaDoor
/- Walks of the reference 05: Decide. Conditions: lengths are Go's. -/
namespace Go.Proofs.YtchhodikgllgnaaDoor
open Go.RowKit Go.Sort
end Go.Proofs.YtchhodikgllgnaaDoor
/- Towns whose worlds are alike: what the program says of them is the same. Plain Lean. Conditions: valid towns. -/
namespace Go.Proofs.YtchhodikgllgnaaDoor
open Go.RowKit Go.Sort
structure Alike (t o : Qt) : Prop where
  wells : t.wells = o.wells
  ok : t.Ok
  ok2 : o.Ok
  c1 : Cov t o t.leftL o.leftL
  c2 : Cov o t o.leftL t.leftL
theorem Alike.nil {t o : Qt} (h : Alike t o) : t.leftL = [] ↔ o.leftL = [] := by
  constructor
  · intro e
    cases ho : o.leftL with
    | nil => rfl
    | cons a l =>
      obtain ⟨b, hb, _⟩ := h.c2 a (by rw [ho]; simp)
      rw [e] at hb
      cases hb
  · intro e
    cases ho : t.leftL with
    | nil => rfl
    | cons a l =>
      obtain ⟨b, hb, _⟩ := h.c1 a (by rw [ho]; simp)
      rw [e] at hb
      cases hb
theorem Alike.know {t o : Qt} (h : Alike t o) (b : Bool) : t.knowErr b = o.knowErr b := by
  unfold Qt.knowErr
  rw [askErr_ok h.ok, askErr_ok h.ok2]
  by_cases e : t.leftL = []
  · rw [e, h.nil.1 e]
  · simp only [if_neg e, if_neg fun e' => e (h.nil.2 e')]
theorem Alike.fewest {t o : Qt} (h : Alike t o) : t.fewest t.leftL = o.fewest o.leftL := fewest_alike h.wells h.c1 h.c2
theorem Alike.wellB {t o : Qt} (h : Alike t o) (n : Int) : t.wellB n = o.wellB n := by unfold Qt.wellB; rw [h.wells]
theorem Alike.decides {t o : Qt} (h : Alike t o) {l : List Tp} (hl : ∀ x, x ∈ l → x ∈ t.tests) {x : Tp} (hx : x ∈ t.tests) (law : Int) : t.decides l t.leftL x law = o.decides l o.leftL x law := by
  have e := tests_eq h.wells
  refine Bool.eq_iff_iff.2 ⟨fun ha => h.c2.decides (fun y hy => by rw [← e]; exact hl y hy) (by rw [← e]; exact hx) ha, fun ha => h.c1.decides hl hx ha⟩
theorem Alike.others {t o : Qt} (h : Alike t o) (x : Tp) : t.others x = o.others x := by unfold Qt.others; rw [tests_eq h.wells]
theorem Alike.dec {t o : Qt} (h : Alike t o) {p q : Nat} (hp : (p : Int) < t.wells) (hq : (q : Int) < t.wells) (law : Int) : t.decErr p q law = o.decErr p q law ∧ t.decL p q law = o.decL p q law := by
  have w0 := h.ok.w0
  have hx : ((p, q) : Tp) ∈ t.tests := testsL_mem.2 ⟨by show p < t.wells.toNat; omega, by show q < t.wells.toNat; omega⟩
  constructor
  · unfold Qt.decErr
    rw [h.wellB, h.wellB, h.know, Int.toNat_natCast, Int.toNat_natCast, ← h.others, h.decides (fun y hy => (others_sub t _).subset hy) hx]
  · unfold Qt.decL
    rw [Int.toNat_natCast, Int.toNat_natCast, ← h.others]
    exact fewest_congr fun y hy => h.decides (fun z hz => (others_sub t _).subset (hy.subset hz)) hx law
theorem Alike.depth {t o : Qt} (h : Alike t o) : t.depthOut = o.depthOut := by
  unfold Qt.depthOut
  rw [h.know, depth_alike h.wells h.c1 h.c2 h.ok.fallsL h.ok2.fallsL]
theorem Alike.next {t o : Qt} (h : Alike t o) : t.nextOut = o.nextOut ∧ t.nextErr = o.nextErr := by
  unfold Qt.nextOut Qt.nextErr
  rw [h.know, nextP_eq h.ok.fallsL (by have := left_six h.ok; omega), nextP_eq h.ok2.fallsL (by have := left_six h.ok2; omega), next_alike h.wells h.c1 h.c2 h.ok.fallsL h.ok2.fallsL]
  exact ⟨rfl, rfl⟩
theorem again_ok {t : Qt} (ok : t.Ok) {k : Nat} (hk : k < t.nw) (ok2 : (t.again k).Ok) : Alike t (t.again k) := ⟨rfl, ok, ok2, (again_cov t hk).1, (again_cov t hk).2⟩
theorem turn_ok {t : Qt} (ok : t.Ok) (b : Nat) : Alike t (t.turn b) := ⟨rfl, ok, ok.turn b, (turn_cov t b).1, (turn_cov t b).2⟩
theorem Alike.between {t o : Qt} (h : Alike t o) {p q : Nat} (hp : (p : Int) < t.wells) (hq : (q : Int) < t.wells) : t.betweenV p q = o.betweenV p q ∧ t.between p q = o.between p q := by
  have w0 := h.ok.w0
  have hx : ((p, q) : Tp) ∈ t.tests := testsL_mem.2 ⟨by show p < t.wells.toNat; omega, by show q < t.wells.toNat; omega⟩
  have e : t.between p q = o.between p q := by
    rw [between_of, between_of]
    exact spanOf_alike (fun a ha => by
      obtain ⟨b, hb, e⟩ := h.c1 a ha
      exact ⟨b, hb, e _ hx⟩) fun b hb => by
      obtain ⟨a, ha, e⟩ := h.c2 b hb
      exact ⟨a, ha, (e _ (by rw [← tests_eq h.wells]; exact hx)).symm⟩
  refine ⟨?_, e⟩
  unfold Qt.betweenV
  rw [h.wellB, h.wellB, h.know, Int.toNat_natCast, Int.toNat_natCast, e]
theorem again_small {t : Qt} (h : t.Fits) {k : Nat} (hk : k < t.nw) : (t.again k).Small :=
  ⟨by have := h.1; show t.nw + 1 ≤ _; omega, by have := h.2.1; show t.nf ≤ _; omega, fun i hi j hj => by
    by_cases e : i < t.nw
    · rw [again_at t k e] at hj ⊢
      have := (h.2.2 i e).2 j hj
      omega
    · have e1 : (t.again k).world i = t.world k := if_neg e
      rw [e1] at hj ⊢
      have := (h.2.2 k hk).2 j hj
      omega⟩
end Go.Proofs.YtchhodikgllgnaaDoor
