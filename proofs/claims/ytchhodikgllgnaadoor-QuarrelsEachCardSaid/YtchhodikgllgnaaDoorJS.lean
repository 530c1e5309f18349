/- Parts joined. -/
import Derived.Test.YtchhodikgllgnaaDoorJR
import Derived.Test.YtchhodikgllgnaaDoorJQ
import Derived.Test.YtchhodikgllgnaaDoorJI
import Derived.Test.YtchhodikgllgnaaDoorJG
import Derived.Test.YtchhodikgllgnaaDoorJK
import Derived.Test.YtchhodikgllgnaaDoorJL
import Derived.Test.YtchhodikgllgnaaDoorJD
set_option linter.unusedSimpArgs false
set_option linter.unusedVariables false
/- The chapter's example towns: plain facts, and the walk of Example of the law 05. No condition. -/
namespace Go.Proofs.YtchhodikgllgnaaDoor
open Go.RowKit Go.Sort
def exWd (i : Nat) : Wd := ⟨2, fun _ => 2, fun k j => if k = 0 then (if j = 0 then 3 else if i = 1 then 2 else 1) else (if j = 0 then (if i = 0 then 0 else if i = 1 then 1 else 2) else 2)⟩
def exG : Qt := ⟨2, 3, exWd, 0, fun _ => ⟨0, 0, 0, 0, 0⟩⟩
def exF : Fact := ⟨0, 2, 1, 2, 3⟩
def exE : Qt := exG.add exF
def exD (k : Nat) : Int := if k = 0 then 2 else 3
theorem exWd_ok (i : Nat) : (exWd i).Ok 2 :=
  ⟨rfl, fun _ _ => rfl, fun k _ j _ => by
    unfold exWd
    simp only
    repeat' split
    all_goals omega⟩
theorem exG_ok : exG.Ok := ⟨by decide, by decide, by decide, by decide, fun i _ => exWd_ok i, fun i hi => absurd hi (Nat.not_lt_zero _)⟩
theorem exE_ok : exE.Ok := ⟨by decide, by decide, by decide, by decide, fun i _ => exWd_ok i, fun i hi => by
  obtain rfl : i = 0 := by have : i < 1 := hi; omega
  exact ⟨by decide, by decide, by decide, by decide, by decide, by decide, by decide, by decide, by decide⟩⟩
theorem exE_left : exE.leftL = [0, 2] := by decide +kernel
theorem exG_left : exG.leftL = [0, 1, 2] := by decide +kernel
theorem exE_know : exE.knowErr true = 0 := knowErr_ok exE_ok (by rw [exE_left]; decide)
theorem exG_know : exG.knowErr true = 0 := knowErr_ok exG_ok (by rw [exG_left]; decide)
theorem exG_fits : exG.Fits := ⟨by decide, by decide, fun i _ => ⟨by show 2 * 24 ≤ _; decide, fun k _ => by show 2 * 8 ≤ _; decide⟩⟩
theorem exE_fits : exE.Fits := ⟨by decide, by decide, fun i _ => ⟨by show 2 * 24 ≤ _; decide, fun k _ => by show 2 * 8 ≤ _; decide⟩⟩
theorem ex_total : spanOf (exE.lowers exD 2 0) exE.leftL = (6, 12) := by rw [exE_left]; decide +kernel
theorem ex_harms : harmK (exE.between 0 1) 0 = 1 := by decide +kernel
theorem ex_split : exG.splitL (0, 1) exG.leftL = 2 := by decide +kernel
theorem ex_depth : exG.depth exG.leftL = 1 := by decide +kernel
theorem ex_fewest : exG.fewest exG.leftL = [(1, 0)] := by decide +kernel
theorem ex_draws : exE.drawsB 2 exD = true := by decide +kernel
theorem ex_well (n : Int) (h : 0 ≤ n) (h1 : n < 2) : exE.wellB n = true := by rw [wellB_ok exE_ok]; exact inR_t ⟨h, by show n ≤ 2 - 1; omega⟩
theorem ex_wellG (n : Int) (h : 0 ≤ n) (h1 : n < 2) : exG.wellB n = true := by rw [wellB_ok exG_ok]; exact inR_t ⟨h, by show n ≤ 2 - 1; omega⟩
theorem ints2 {w : World} {b : Nat} {g : Nat → Int} (hl : b < w.heap.size) (h0 : w.cell? ⟨b, 0, none⟩ = some (.int .i64 (g 0))) (h1 : w.cell? ⟨b, 1, none⟩ = some (.int .i64 (g 1))) : IntsAt w (some ⟨b, 0, none⟩) 2 g :=
  .inr ⟨b, 0, rfl, hl, fun i hi => match i, hi with
    | 0, _ => h0
    | 1, _ => h1
    | n + 2, hi => absurd hi (by omega)⟩
theorem rows2 {w : World} {b b0 b1 : Nat} (i : Nat) (hl : b < w.heap.size) (h0 : w.cell? ⟨b, 0, none⟩ = some (.slice (some ⟨b0, 0, none⟩) 2 2)) (h1 : w.cell? ⟨b, 1, none⟩ = some (.slice (some ⟨b1, 0, none⟩) 2 2)) (i0 : IntsAt w (some ⟨b0, 0, none⟩) 2 ((exWd i).fall 0)) (i1 : IntsAt w (some ⟨b1, 0, none⟩) 2 ((exWd i).fall 1)) : RowsAt w (some ⟨b, 0, none⟩) (exWd i) :=
  .inr ⟨b, 0, rfl, hl, fun k hk => match k, hk with
    | 0, _ => ⟨_, 2, h0, i0, by show (2 : Nat) ≤ _; decide⟩
    | 1, _ => ⟨_, 2, h1, i1, by show (2 : Nat) ≤ _; decide⟩
    | n + 2, hk => absurd hk (by show ¬ n + 2 < 2; omega)⟩
theorem worlds3 {w : World} {b b0 b1 b2 : Nat} (hl : b < w.heap.size) (h0 : w.cell? ⟨b, 0, none⟩ = some (.slice (some ⟨b0, 0, none⟩) 2 2)) (h1 : w.cell? ⟨b, 1, none⟩ = some (.slice (some ⟨b1, 0, none⟩) 2 2)) (h2 : w.cell? ⟨b, 2, none⟩ = some (.slice (some ⟨b2, 0, none⟩) 2 2)) (r0 : RowsAt w (some ⟨b0, 0, none⟩) (exWd 0)) (r1 : RowsAt w (some ⟨b1, 0, none⟩) (exWd 1)) (r2 : RowsAt w (some ⟨b2, 0, none⟩) (exWd 2)) : QAt w (some ⟨b, 0, none⟩) none exG :=
  ⟨.inr ⟨b, 0, rfl, hl, fun i hi => match i, hi with
    | 0, _ => ⟨_, 2, h0, r0, by show (2 : Nat) ≤ _; decide⟩
    | 1, _ => ⟨_, 2, h1, r1, by show (2 : Nat) ≤ _; decide⟩
    | 2, _ => ⟨_, 2, h2, r2, by show (2 : Nat) ≤ _; decide⟩
    | n + 3, hi => absurd hi (by show ¬ n + 3 < 3; omega)⟩, .inl rfl⟩
set_option maxHeartbeats 4000000 in
theorem exG_at (w : World) : ∀ w' : World, (∀ b, w.heap.size + 2 ≤ b → b < ((((((((((((w.alloc (.cells #[.int .i64 0, .slice none 0 0, .slice none 0 0] 25)).alloc (.cells #[.int .i64 2, .slice (some ⟨w.heap.size + 1 + 1 + 1 + 1 + 1 + 1 + 1 + 1 + 1 + 1 + 1, 0, none⟩) 3 3, .slice none 0 0] 25)).alloc (.cells #[.int .i64 3, .int .i64 1] 3)).alloc (.cells #[.int .i64 0, .int .i64 2] 3)).alloc (.cells #[.slice (some ⟨w.heap.size + 1 + 1, 0, none⟩) 2 2, .slice (some ⟨w.heap.size + 1 + 1 + 1, 0, none⟩) 2 2] 40)).alloc (.cells #[.int .i64 3, .int .i64 2] 3)).alloc (.cells #[.int .i64 1, .int .i64 2] 3)).alloc (.cells #[.slice (some ⟨w.heap.size + 1 + 1 + 1 + 1 + 1, 0, none⟩) 2 2, .slice (some ⟨w.heap.size + 1 + 1 + 1 + 1 + 1 + 1, 0, none⟩) 2 2] 40)).alloc (.cells #[.int .i64 3, .int .i64 1] 3)).alloc (.cells #[.int .i64 2, .int .i64 2] 3)).alloc (.cells #[.slice (some ⟨w.heap.size + 1 + 1 + 1 + 1 + 1 + 1 + 1 + 1, 0, none⟩) 2 2, .slice (some ⟨w.heap.size + 1 + 1 + 1 + 1 + 1 + 1 + 1 + 1 + 1, 0, none⟩) 2 2] 40)).alloc (.cells #[.slice (some ⟨w.heap.size + 1 + 1 + 1 + 1, 0, none⟩) 2 2, .slice (some ⟨w.heap.size + 1 + 1 + 1 + 1 + 1 + 1 + 1, 0, none⟩) 2 2, .slice (some ⟨w.heap.size + 1 + 1 + 1 + 1 + 1 + 1 + 1 + 1 + 1 + 1, 0, none⟩) 2 2] 81)).heap.size → w'.heap[b]? = ((((((((((((w.alloc (.cells #[.int .i64 0, .slice none 0 0, .slice none 0 0] 25)).alloc (.cells #[.int .i64 2, .slice (some ⟨w.heap.size + 1 + 1 + 1 + 1 + 1 + 1 + 1 + 1 + 1 + 1 + 1, 0, none⟩) 3 3, .slice none 0 0] 25)).alloc (.cells #[.int .i64 3, .int .i64 1] 3)).alloc (.cells #[.int .i64 0, .int .i64 2] 3)).alloc (.cells #[.slice (some ⟨w.heap.size + 1 + 1, 0, none⟩) 2 2, .slice (some ⟨w.heap.size + 1 + 1 + 1, 0, none⟩) 2 2] 40)).alloc (.cells #[.int .i64 3, .int .i64 2] 3)).alloc (.cells #[.int .i64 1, .int .i64 2] 3)).alloc (.cells #[.slice (some ⟨w.heap.size + 1 + 1 + 1 + 1 + 1, 0, none⟩) 2 2, .slice (some ⟨w.heap.size + 1 + 1 + 1 + 1 + 1 + 1, 0, none⟩) 2 2] 40)).alloc (.cells #[.int .i64 3, .int .i64 1] 3)).alloc (.cells #[.int .i64 2, .int .i64 2] 3)).alloc (.cells #[.slice (some ⟨w.heap.size + 1 + 1 + 1 + 1 + 1 + 1 + 1 + 1, 0, none⟩) 2 2, .slice (some ⟨w.heap.size + 1 + 1 + 1 + 1 + 1 + 1 + 1 + 1 + 1, 0, none⟩) 2 2] 40)).alloc (.cells #[.slice (some ⟨w.heap.size + 1 + 1 + 1 + 1, 0, none⟩) 2 2, .slice (some ⟨w.heap.size + 1 + 1 + 1 + 1 + 1 + 1 + 1, 0, none⟩) 2 2, .slice (some ⟨w.heap.size + 1 + 1 + 1 + 1 + 1 + 1 + 1 + 1 + 1 + 1, 0, none⟩) 2 2] 81)).heap[b]?) → ((((((((((((w.alloc (.cells #[.int .i64 0, .slice none 0 0, .slice none 0 0] 25)).alloc (.cells #[.int .i64 2, .slice (some ⟨w.heap.size + 1 + 1 + 1 + 1 + 1 + 1 + 1 + 1 + 1 + 1 + 1, 0, none⟩) 3 3, .slice none 0 0] 25)).alloc (.cells #[.int .i64 3, .int .i64 1] 3)).alloc (.cells #[.int .i64 0, .int .i64 2] 3)).alloc (.cells #[.slice (some ⟨w.heap.size + 1 + 1, 0, none⟩) 2 2, .slice (some ⟨w.heap.size + 1 + 1 + 1, 0, none⟩) 2 2] 40)).alloc (.cells #[.int .i64 3, .int .i64 2] 3)).alloc (.cells #[.int .i64 1, .int .i64 2] 3)).alloc (.cells #[.slice (some ⟨w.heap.size + 1 + 1 + 1 + 1 + 1, 0, none⟩) 2 2, .slice (some ⟨w.heap.size + 1 + 1 + 1 + 1 + 1 + 1, 0, none⟩) 2 2] 40)).alloc (.cells #[.int .i64 3, .int .i64 1] 3)).alloc (.cells #[.int .i64 2, .int .i64 2] 3)).alloc (.cells #[.slice (some ⟨w.heap.size + 1 + 1 + 1 + 1 + 1 + 1 + 1 + 1, 0, none⟩) 2 2, .slice (some ⟨w.heap.size + 1 + 1 + 1 + 1 + 1 + 1 + 1 + 1 + 1, 0, none⟩) 2 2] 40)).alloc (.cells #[.slice (some ⟨w.heap.size + 1 + 1 + 1 + 1, 0, none⟩) 2 2, .slice (some ⟨w.heap.size + 1 + 1 + 1 + 1 + 1 + 1 + 1, 0, none⟩) 2 2, .slice (some ⟨w.heap.size + 1 + 1 + 1 + 1 + 1 + 1 + 1 + 1 + 1 + 1, 0, none⟩) 2 2] 81)).heap.size ≤ w'.heap.size → QAt w' (some ⟨w.heap.size + 1 + 1 + 1 + 1 + 1 + 1 + 1 + 1 + 1 + 1 + 1, 0, none⟩) none exG := by
  intro w' hk hs
  simp only [World.size_alloc] at hs
  have c2_0 : w'.cell? ⟨w.heap.size + 1 + 1, 0, none⟩ = some (.int .i64 3) := (cell_of_heap (hk (w.heap.size + 1 + 1) (by omega) (by simp <;> omega)) 0).trans (by simp [go_sem])
  have c2_1 : w'.cell? ⟨w.heap.size + 1 + 1, 1, none⟩ = some (.int .i64 1) := (cell_of_heap (hk (w.heap.size + 1 + 1) (by omega) (by simp <;> omega)) 1).trans (by simp [go_sem])
  have c3_0 : w'.cell? ⟨w.heap.size + 1 + 1 + 1, 0, none⟩ = some (.int .i64 0) := (cell_of_heap (hk (w.heap.size + 1 + 1 + 1) (by omega) (by simp <;> omega)) 0).trans (by simp [go_sem])
  have c3_1 : w'.cell? ⟨w.heap.size + 1 + 1 + 1, 1, none⟩ = some (.int .i64 2) := (cell_of_heap (hk (w.heap.size + 1 + 1 + 1) (by omega) (by simp <;> omega)) 1).trans (by simp [go_sem])
  have c4_0 : w'.cell? ⟨w.heap.size + 1 + 1 + 1 + 1, 0, none⟩ = some (.slice (some ⟨w.heap.size + 1 + 1, 0, none⟩) 2 2) := (cell_of_heap (hk (w.heap.size + 1 + 1 + 1 + 1) (by omega) (by simp <;> omega)) 0).trans (by simp [go_sem])
  have c4_1 : w'.cell? ⟨w.heap.size + 1 + 1 + 1 + 1, 1, none⟩ = some (.slice (some ⟨w.heap.size + 1 + 1 + 1, 0, none⟩) 2 2) := (cell_of_heap (hk (w.heap.size + 1 + 1 + 1 + 1) (by omega) (by simp <;> omega)) 1).trans (by simp [go_sem])
  have c5_0 : w'.cell? ⟨w.heap.size + 1 + 1 + 1 + 1 + 1, 0, none⟩ = some (.int .i64 3) := (cell_of_heap (hk (w.heap.size + 1 + 1 + 1 + 1 + 1) (by omega) (by simp <;> omega)) 0).trans (by simp [go_sem])
  have c5_1 : w'.cell? ⟨w.heap.size + 1 + 1 + 1 + 1 + 1, 1, none⟩ = some (.int .i64 2) := (cell_of_heap (hk (w.heap.size + 1 + 1 + 1 + 1 + 1) (by omega) (by simp <;> omega)) 1).trans (by simp [go_sem])
  have c6_0 : w'.cell? ⟨w.heap.size + 1 + 1 + 1 + 1 + 1 + 1, 0, none⟩ = some (.int .i64 1) := (cell_of_heap (hk (w.heap.size + 1 + 1 + 1 + 1 + 1 + 1) (by omega) (by simp <;> omega)) 0).trans (by simp [go_sem])
  have c6_1 : w'.cell? ⟨w.heap.size + 1 + 1 + 1 + 1 + 1 + 1, 1, none⟩ = some (.int .i64 2) := (cell_of_heap (hk (w.heap.size + 1 + 1 + 1 + 1 + 1 + 1) (by omega) (by simp <;> omega)) 1).trans (by simp [go_sem])
  have c7_0 : w'.cell? ⟨w.heap.size + 1 + 1 + 1 + 1 + 1 + 1 + 1, 0, none⟩ = some (.slice (some ⟨w.heap.size + 1 + 1 + 1 + 1 + 1, 0, none⟩) 2 2) := (cell_of_heap (hk (w.heap.size + 1 + 1 + 1 + 1 + 1 + 1 + 1) (by omega) (by simp <;> omega)) 0).trans (by simp [go_sem])
  have c7_1 : w'.cell? ⟨w.heap.size + 1 + 1 + 1 + 1 + 1 + 1 + 1, 1, none⟩ = some (.slice (some ⟨w.heap.size + 1 + 1 + 1 + 1 + 1 + 1, 0, none⟩) 2 2) := (cell_of_heap (hk (w.heap.size + 1 + 1 + 1 + 1 + 1 + 1 + 1) (by omega) (by simp <;> omega)) 1).trans (by simp [go_sem])
  have c8_0 : w'.cell? ⟨w.heap.size + 1 + 1 + 1 + 1 + 1 + 1 + 1 + 1, 0, none⟩ = some (.int .i64 3) := (cell_of_heap (hk (w.heap.size + 1 + 1 + 1 + 1 + 1 + 1 + 1 + 1) (by omega) (by simp <;> omega)) 0).trans (by simp [go_sem])
  have c8_1 : w'.cell? ⟨w.heap.size + 1 + 1 + 1 + 1 + 1 + 1 + 1 + 1, 1, none⟩ = some (.int .i64 1) := (cell_of_heap (hk (w.heap.size + 1 + 1 + 1 + 1 + 1 + 1 + 1 + 1) (by omega) (by simp <;> omega)) 1).trans (by simp [go_sem])
  have c9_0 : w'.cell? ⟨w.heap.size + 1 + 1 + 1 + 1 + 1 + 1 + 1 + 1 + 1, 0, none⟩ = some (.int .i64 2) := (cell_of_heap (hk (w.heap.size + 1 + 1 + 1 + 1 + 1 + 1 + 1 + 1 + 1) (by omega) (by simp <;> omega)) 0).trans (by simp [go_sem])
  have c9_1 : w'.cell? ⟨w.heap.size + 1 + 1 + 1 + 1 + 1 + 1 + 1 + 1 + 1, 1, none⟩ = some (.int .i64 2) := (cell_of_heap (hk (w.heap.size + 1 + 1 + 1 + 1 + 1 + 1 + 1 + 1 + 1) (by omega) (by simp <;> omega)) 1).trans (by simp [go_sem])
  have c10_0 : w'.cell? ⟨w.heap.size + 1 + 1 + 1 + 1 + 1 + 1 + 1 + 1 + 1 + 1, 0, none⟩ = some (.slice (some ⟨w.heap.size + 1 + 1 + 1 + 1 + 1 + 1 + 1 + 1, 0, none⟩) 2 2) := (cell_of_heap (hk (w.heap.size + 1 + 1 + 1 + 1 + 1 + 1 + 1 + 1 + 1 + 1) (by omega) (by simp <;> omega)) 0).trans (by simp [go_sem])
  have c10_1 : w'.cell? ⟨w.heap.size + 1 + 1 + 1 + 1 + 1 + 1 + 1 + 1 + 1 + 1, 1, none⟩ = some (.slice (some ⟨w.heap.size + 1 + 1 + 1 + 1 + 1 + 1 + 1 + 1 + 1, 0, none⟩) 2 2) := (cell_of_heap (hk (w.heap.size + 1 + 1 + 1 + 1 + 1 + 1 + 1 + 1 + 1 + 1) (by omega) (by simp <;> omega)) 1).trans (by simp [go_sem])
  have c11_0 : w'.cell? ⟨w.heap.size + 1 + 1 + 1 + 1 + 1 + 1 + 1 + 1 + 1 + 1 + 1, 0, none⟩ = some (.slice (some ⟨w.heap.size + 1 + 1 + 1 + 1, 0, none⟩) 2 2) := (cell_of_heap (hk (w.heap.size + 1 + 1 + 1 + 1 + 1 + 1 + 1 + 1 + 1 + 1 + 1) (by omega) (by simp <;> omega)) 0).trans (by simp [go_sem])
  have c11_1 : w'.cell? ⟨w.heap.size + 1 + 1 + 1 + 1 + 1 + 1 + 1 + 1 + 1 + 1 + 1, 1, none⟩ = some (.slice (some ⟨w.heap.size + 1 + 1 + 1 + 1 + 1 + 1 + 1, 0, none⟩) 2 2) := (cell_of_heap (hk (w.heap.size + 1 + 1 + 1 + 1 + 1 + 1 + 1 + 1 + 1 + 1 + 1) (by omega) (by simp <;> omega)) 1).trans (by simp [go_sem])
  have c11_2 : w'.cell? ⟨w.heap.size + 1 + 1 + 1 + 1 + 1 + 1 + 1 + 1 + 1 + 1 + 1, 2, none⟩ = some (.slice (some ⟨w.heap.size + 1 + 1 + 1 + 1 + 1 + 1 + 1 + 1 + 1 + 1, 0, none⟩) 2 2) := (cell_of_heap (hk (w.heap.size + 1 + 1 + 1 + 1 + 1 + 1 + 1 + 1 + 1 + 1 + 1) (by omega) (by simp <;> omega)) 2).trans (by simp [go_sem])
  have l2 : w.heap.size + 1 + 1 < w'.heap.size := by omega
  have l3 : w.heap.size + 1 + 1 + 1 < w'.heap.size := by omega
  have l4 : w.heap.size + 1 + 1 + 1 + 1 < w'.heap.size := by omega
  have l5 : w.heap.size + 1 + 1 + 1 + 1 + 1 < w'.heap.size := by omega
  have l6 : w.heap.size + 1 + 1 + 1 + 1 + 1 + 1 < w'.heap.size := by omega
  have l7 : w.heap.size + 1 + 1 + 1 + 1 + 1 + 1 + 1 < w'.heap.size := by omega
  have l8 : w.heap.size + 1 + 1 + 1 + 1 + 1 + 1 + 1 + 1 < w'.heap.size := by omega
  have l9 : w.heap.size + 1 + 1 + 1 + 1 + 1 + 1 + 1 + 1 + 1 < w'.heap.size := by omega
  have l10 : w.heap.size + 1 + 1 + 1 + 1 + 1 + 1 + 1 + 1 + 1 + 1 < w'.heap.size := by omega
  have l11 : w.heap.size + 1 + 1 + 1 + 1 + 1 + 1 + 1 + 1 + 1 + 1 + 1 < w'.heap.size := by omega
  exact worlds3 l11 c11_0 c11_1 c11_2 (rows2 0 l4 c4_0 c4_1 (ints2 l2 c2_0 c2_1) (ints2 l3 c3_0 c3_1)) (rows2 1 l7 c7_0 c7_1 (ints2 l5 c5_0 c5_1) (ints2 l6 c6_0 c6_1)) (rows2 2 l10 c10_0 c10_1 (ints2 l8 c8_0 c8_1) (ints2 l9 c9_0 c9_1))
/-- a town of the call's own, as a value -/
def twcS (m : Int) (n k : Nat) (v : Value) : Prop := ∃ (Aw : Option Addr) (cw : Nat) (Af : Option Addr) (cf : Nat), v = .agg #[.int .i64 m, .slice Aw n cw, .slice Af k cf]
def twcR (N : Nat) (t : Qt) (w : World) (v : Value) : Prop := ∀ vW vF, v = .agg #[.int .i64 t.wells, vW, vF] → CopyAt w N vW vF t
theorem twcG {N : Nat} {t : Qt} {m : Int} {n k : Nat} : (Stir.held (twcS m n k) (twcR N t)).good := ⟨⟨_, none, 0, none, 0, rfl⟩, fun _ _ _ hb h vW vF e => (h vW vF e).mono hb⟩
theorem CopyAt.kept {l : List TypeId} {w w' : World} {base : Nat} {vW vF : Value} {t : Qt} (h : CopyAt w base vW vF t) (hk : Kept l w w') (h1 : 3 ∈ l) (h2 : 40 ∈ l) (h3 : 81 ∈ l) (h4 : 53 ∈ l) : CopyAt w' base vW vF t := by
  obtain ⟨⟨us, a, b⟩, c⟩ := h
  exact ⟨⟨us, owns_kept a hk h3, b.kept hk h1 h2⟩, owns_kept c hk h4⟩
theorem CopyOut.twc {w : World} {base N : Nat} {t : Qt} {e : Ending} (h : CopyOut w base t e) (hN : N ≤ base) : ∃ v, e = .returned v ∧ twcS t.wells t.nw t.nf v ∧ twcR N t w v := by
  obtain ⟨vW, vF, rfl, hc⟩ := h
  obtain ⟨Aw, cw, Af, cf, e1, e2, _⟩ := hc.qat
  refine ⟨_, rfl, ⟨Aw, cw, Af, cf, by rw [e1, e2]⟩, fun vW' vF' e => ?_⟩
  simp only [Value.agg.injEq, Array.mk.injEq, List.cons.injEq, and_true, true_and] at e
  obtain ⟨rfl, rfl⟩ := e
  exact hc.lower hN
def ExOut (w : World) (e : Ending) : Prop := ∃ (Aw : Option Addr) (cw : Nat) (Af : Option Addr) (cf : Nat) (Bw : Option Addr) (dw : Nat), e = .returned (.tuple #[.agg #[.int .i64 2, .slice Aw 3 cw, .slice Af 1 cf], .agg #[.int .i64 2, .slice Bw 3 dw, .slice none 0 0]]) ∧ QAt w Aw Af exE ∧ QAt w Bw none exG
set_option maxHeartbeats 4000000 in
set_option maxRecDepth 100000 in
theorem example5_any (w : World) : Calls Tryd.prog 69 #[] w fun e w' => ExOut w' e ∧ Below w.heap.size w w' := by
  go_enter Tryd.func69, Tryd.ntmps69
  go_wp2_with fail
  have hQ := exG_at w
  have hB : Below w.heap.size w ((((((((((((w.alloc (.cells #[.int .i64 0, .slice none 0 0, .slice none 0 0] 25)).alloc (.cells #[.int .i64 2, .slice (some ⟨w.heap.size + 1 + 1 + 1 + 1 + 1 + 1 + 1 + 1 + 1 + 1 + 1, 0, none⟩) 3 3, .slice none 0 0] 25)).alloc (.cells #[.int .i64 3, .int .i64 1] 3)).alloc (.cells #[.int .i64 0, .int .i64 2] 3)).alloc (.cells #[.slice (some ⟨w.heap.size + 1 + 1, 0, none⟩) 2 2, .slice (some ⟨w.heap.size + 1 + 1 + 1, 0, none⟩) 2 2] 40)).alloc (.cells #[.int .i64 3, .int .i64 2] 3)).alloc (.cells #[.int .i64 1, .int .i64 2] 3)).alloc (.cells #[.slice (some ⟨w.heap.size + 1 + 1 + 1 + 1 + 1, 0, none⟩) 2 2, .slice (some ⟨w.heap.size + 1 + 1 + 1 + 1 + 1 + 1, 0, none⟩) 2 2] 40)).alloc (.cells #[.int .i64 3, .int .i64 1] 3)).alloc (.cells #[.int .i64 2, .int .i64 2] 3)).alloc (.cells #[.slice (some ⟨w.heap.size + 1 + 1 + 1 + 1 + 1 + 1 + 1 + 1, 0, none⟩) 2 2, .slice (some ⟨w.heap.size + 1 + 1 + 1 + 1 + 1 + 1 + 1 + 1 + 1, 0, none⟩) 2 2] 40)).alloc (.cells #[.slice (some ⟨w.heap.size + 1 + 1 + 1 + 1, 0, none⟩) 2 2, .slice (some ⟨w.heap.size + 1 + 1 + 1 + 1 + 1 + 1 + 1, 0, none⟩) 2 2, .slice (some ⟨w.heap.size + 1 + 1 + 1 + 1 + 1 + 1 + 1 + 1 + 1 + 1, 0, none⟩) 2 2] 81)) := by (repeat (first | (with_reducible exact Below.refl _ _) | (with_reducible refine bAlloc ?_ _) | (with_reducible refine bDrew ?_) | (with_reducible refine bGrow ?_ _ _) | (with_reducible refine bSet ?_ ?_ _; (first | exact Nat.le_refl _ | exact Nat.le_add_right _ _ | (simp; omega))) | (with_reducible refine bTrans ?_ (by assumption))))
  have hT0 : TBox ((((((((((((w.alloc (.cells #[.int .i64 0, .slice none 0 0, .slice none 0 0] 25)).alloc (.cells #[.int .i64 2, .slice (some ⟨w.heap.size + 1 + 1 + 1 + 1 + 1 + 1 + 1 + 1 + 1 + 1 + 1, 0, none⟩) 3 3, .slice none 0 0] 25)).alloc (.cells #[.int .i64 3, .int .i64 1] 3)).alloc (.cells #[.int .i64 0, .int .i64 2] 3)).alloc (.cells #[.slice (some ⟨w.heap.size + 1 + 1, 0, none⟩) 2 2, .slice (some ⟨w.heap.size + 1 + 1 + 1, 0, none⟩) 2 2] 40)).alloc (.cells #[.int .i64 3, .int .i64 2] 3)).alloc (.cells #[.int .i64 1, .int .i64 2] 3)).alloc (.cells #[.slice (some ⟨w.heap.size + 1 + 1 + 1 + 1 + 1, 0, none⟩) 2 2, .slice (some ⟨w.heap.size + 1 + 1 + 1 + 1 + 1 + 1, 0, none⟩) 2 2] 40)).alloc (.cells #[.int .i64 3, .int .i64 1] 3)).alloc (.cells #[.int .i64 2, .int .i64 2] 3)).alloc (.cells #[.slice (some ⟨w.heap.size + 1 + 1 + 1 + 1 + 1 + 1 + 1 + 1, 0, none⟩) 2 2, .slice (some ⟨w.heap.size + 1 + 1 + 1 + 1 + 1 + 1 + 1 + 1 + 1, 0, none⟩) 2 2] 40)).alloc (.cells #[.slice (some ⟨w.heap.size + 1 + 1 + 1 + 1, 0, none⟩) 2 2, .slice (some ⟨w.heap.size + 1 + 1 + 1 + 1 + 1 + 1 + 1, 0, none⟩) 2 2, .slice (some ⟨w.heap.size + 1 + 1 + 1 + 1 + 1 + 1 + 1 + 1 + 1 + 1, 0, none⟩) 2 2] 81)) w.heap.size 25 #[.int .i64 0, .slice none 0 0, .slice none 0 0] := TBox.mono (TBox.new w #[.int .i64 0, .slice none 0 0, .slice none 0 0] 25) (by (repeat (first | (with_reducible exact Below.refl _ _) | (with_reducible refine bAlloc ?_ _) | (with_reducible refine bDrew ?_) | (with_reducible refine bGrow ?_ _ _) | (with_reducible refine bSet ?_ ?_ _; (first | exact Nat.le_refl _ | exact Nat.le_add_right _ _ | (simp; omega))) | (with_reducible refine bTrans ?_ (by assumption)))))
  have hT1 : TBox ((((((((((((w.alloc (.cells #[.int .i64 0, .slice none 0 0, .slice none 0 0] 25)).alloc (.cells #[.int .i64 2, .slice (some ⟨w.heap.size + 1 + 1 + 1 + 1 + 1 + 1 + 1 + 1 + 1 + 1 + 1, 0, none⟩) 3 3, .slice none 0 0] 25)).alloc (.cells #[.int .i64 3, .int .i64 1] 3)).alloc (.cells #[.int .i64 0, .int .i64 2] 3)).alloc (.cells #[.slice (some ⟨w.heap.size + 1 + 1, 0, none⟩) 2 2, .slice (some ⟨w.heap.size + 1 + 1 + 1, 0, none⟩) 2 2] 40)).alloc (.cells #[.int .i64 3, .int .i64 2] 3)).alloc (.cells #[.int .i64 1, .int .i64 2] 3)).alloc (.cells #[.slice (some ⟨w.heap.size + 1 + 1 + 1 + 1 + 1, 0, none⟩) 2 2, .slice (some ⟨w.heap.size + 1 + 1 + 1 + 1 + 1 + 1, 0, none⟩) 2 2] 40)).alloc (.cells #[.int .i64 3, .int .i64 1] 3)).alloc (.cells #[.int .i64 2, .int .i64 2] 3)).alloc (.cells #[.slice (some ⟨w.heap.size + 1 + 1 + 1 + 1 + 1 + 1 + 1 + 1, 0, none⟩) 2 2, .slice (some ⟨w.heap.size + 1 + 1 + 1 + 1 + 1 + 1 + 1 + 1 + 1, 0, none⟩) 2 2] 40)).alloc (.cells #[.slice (some ⟨w.heap.size + 1 + 1 + 1 + 1, 0, none⟩) 2 2, .slice (some ⟨w.heap.size + 1 + 1 + 1 + 1 + 1 + 1 + 1, 0, none⟩) 2 2, .slice (some ⟨w.heap.size + 1 + 1 + 1 + 1 + 1 + 1 + 1 + 1 + 1 + 1, 0, none⟩) 2 2] 81)) (w.heap.size + 1) 25 #[.int .i64 2, .slice (some ⟨w.heap.size + 1 + 1 + 1 + 1 + 1 + 1 + 1 + 1 + 1 + 1 + 1, 0, none⟩) 3 3, .slice none 0 0] := by
    have := TBox.mono (TBox.new (w.alloc (.cells #[.int .i64 0, .slice none 0 0, .slice none 0 0] 25)) #[.int .i64 2, .slice (some ⟨w.heap.size + 1 + 1 + 1 + 1 + 1 + 1 + 1 + 1 + 1 + 1 + 1, 0, none⟩) 3 3, .slice none 0 0] 25) (w' := ((((((((((((w.alloc (.cells #[.int .i64 0, .slice none 0 0, .slice none 0 0] 25)).alloc (.cells #[.int .i64 2, .slice (some ⟨w.heap.size + 1 + 1 + 1 + 1 + 1 + 1 + 1 + 1 + 1 + 1 + 1, 0, none⟩) 3 3, .slice none 0 0] 25)).alloc (.cells #[.int .i64 3, .int .i64 1] 3)).alloc (.cells #[.int .i64 0, .int .i64 2] 3)).alloc (.cells #[.slice (some ⟨w.heap.size + 1 + 1, 0, none⟩) 2 2, .slice (some ⟨w.heap.size + 1 + 1 + 1, 0, none⟩) 2 2] 40)).alloc (.cells #[.int .i64 3, .int .i64 2] 3)).alloc (.cells #[.int .i64 1, .int .i64 2] 3)).alloc (.cells #[.slice (some ⟨w.heap.size + 1 + 1 + 1 + 1 + 1, 0, none⟩) 2 2, .slice (some ⟨w.heap.size + 1 + 1 + 1 + 1 + 1 + 1, 0, none⟩) 2 2] 40)).alloc (.cells #[.int .i64 3, .int .i64 1] 3)).alloc (.cells #[.int .i64 2, .int .i64 2] 3)).alloc (.cells #[.slice (some ⟨w.heap.size + 1 + 1 + 1 + 1 + 1 + 1 + 1 + 1, 0, none⟩) 2 2, .slice (some ⟨w.heap.size + 1 + 1 + 1 + 1 + 1 + 1 + 1 + 1 + 1, 0, none⟩) 2 2] 40)).alloc (.cells #[.slice (some ⟨w.heap.size + 1 + 1 + 1 + 1, 0, none⟩) 2 2, .slice (some ⟨w.heap.size + 1 + 1 + 1 + 1 + 1 + 1 + 1, 0, none⟩) 2 2, .slice (some ⟨w.heap.size + 1 + 1 + 1 + 1 + 1 + 1 + 1 + 1 + 1 + 1, 0, none⟩) 2 2] 81))) (by (repeat (first | (with_reducible exact Below.refl _ _) | (with_reducible refine bAlloc ?_ _) | (with_reducible refine bDrew ?_) | (with_reducible refine bGrow ?_ _ _) | (with_reducible refine bSet ?_ ?_ _; (first | exact Nat.le_refl _ | exact Nat.le_add_right _ _ | (simp; omega))) | (with_reducible refine bTrans ?_ (by assumption)))))
    simpa [TBox] using this
  generalize ((((((((((((w.alloc (.cells #[.int .i64 0, .slice none 0 0, .slice none 0 0] 25)).alloc (.cells #[.int .i64 2, .slice (some ⟨w.heap.size + 1 + 1 + 1 + 1 + 1 + 1 + 1 + 1 + 1 + 1 + 1, 0, none⟩) 3 3, .slice none 0 0] 25)).alloc (.cells #[.int .i64 3, .int .i64 1] 3)).alloc (.cells #[.int .i64 0, .int .i64 2] 3)).alloc (.cells #[.slice (some ⟨w.heap.size + 1 + 1, 0, none⟩) 2 2, .slice (some ⟨w.heap.size + 1 + 1 + 1, 0, none⟩) 2 2] 40)).alloc (.cells #[.int .i64 3, .int .i64 2] 3)).alloc (.cells #[.int .i64 1, .int .i64 2] 3)).alloc (.cells #[.slice (some ⟨w.heap.size + 1 + 1 + 1 + 1 + 1, 0, none⟩) 2 2, .slice (some ⟨w.heap.size + 1 + 1 + 1 + 1 + 1 + 1, 0, none⟩) 2 2] 40)).alloc (.cells #[.int .i64 3, .int .i64 1] 3)).alloc (.cells #[.int .i64 2, .int .i64 2] 3)).alloc (.cells #[.slice (some ⟨w.heap.size + 1 + 1 + 1 + 1 + 1 + 1 + 1 + 1, 0, none⟩) 2 2, .slice (some ⟨w.heap.size + 1 + 1 + 1 + 1 + 1 + 1 + 1 + 1 + 1, 0, none⟩) 2 2] 40)).alloc (.cells #[.slice (some ⟨w.heap.size + 1 + 1 + 1 + 1, 0, none⟩) 2 2, .slice (some ⟨w.heap.size + 1 + 1 + 1 + 1 + 1 + 1 + 1, 0, none⟩) 2 2, .slice (some ⟨w.heap.size + 1 + 1 + 1 + 1 + 1 + 1 + 1 + 1 + 1 + 1, 0, none⟩) 2 2] 81)) = W at *
  generalize w.heap.size + 1 + 1 + 1 + 1 + 1 + 1 + 1 + 1 + 1 + 1 + 1 = B at *
  have HQA := Lib.hid hQ
  have HQ := Lib.hid (hQ W (fun _ _ _ => rfl) (Nat.le_refl _))
  have HB := Lib.hid hB
  have HT0 := Lib.hid hT0
  have HT1 := Lib.hid hT1
  have c10 : W.cell? ⟨w.heap.size + 1, 0, none⟩ = some (.int .i64 2) := hT1.cell 0
  have c11 : W.cell? ⟨w.heap.size + 1, 1, none⟩ = some (.slice (some ⟨B, 0, none⟩) 3 3) := hT1.cell 1
  have c12 : W.cell? ⟨w.heap.size + 1, 2, none⟩ = some (.slice none 0 0) := hT1.cell 2
  have hl1 := hT1.lt
  have HTL := Lib.hid (fun (w' : World) (hb : Below W.heap.size W w') => (told5_any (some ⟨B, 0, none⟩) none 3 0 exG exF w' exG_fits (HQ.out.mono hb) : Calls Tryd.prog 36 #[.agg #[.int .i64 2, .slice (some ⟨B, 0, none⟩) 3 3, .slice none 0 0], .agg #[.int .i64 0, .int .i64 2, .int .i64 1, .int .i64 2, .int .i64 3]] w' fun e w'' => CopyOut w'' w'.heap.size exE e ∧ Below w'.heap.size w' w''))
  clear hQ hB hT0 hT1
  refine wp_region_tardy 4 3 [.const (.agg #[.int .i64 2, .slice (some ⟨B, 0, none⟩) 3 3, .slice none 0 0]), .const (.agg #[.int .i64 0, .int .i64 2, .int .i64 1, .int .i64 2, .int .i64 3]), .held (twcS 2 3 1) (twcR W.heap.size exE), .const (.agg #[.int .i64 2, .slice (some ⟨B, 0, none⟩) 3 3, .slice none 0 0])]
    (.agg #[.int .i64 2, .slice (some ⟨B, 0, none⟩) 3 3, .slice none 0 0]) (by kernel_rfl) (by kernel_rfl) rfl ⟨trivial, trivial, twcG, trivial, trivial⟩ (crossAll_no _ _ _ _ trivial) rfl rfl rfl rfl rfl rfl ?_
  iterate 2 refine wpStir_const (by go_simp) ?_
  simp only [Act.put, List.setIfInBounds_toArray, List.set_cons_succ, List.set_cons_zero]
  refine wpStir_held rfl (fun w' hb hd => ?_) (fun v hv => ?_)
  · clear hd
    go_simp
    refine (HTL.out w' hb).mono ?_
    rintro e w'' ⟨ho, hb'⟩
    obtain ⟨v, rfl, h1, h2⟩ := ho.twc hb.size
    exact ⟨v, rfl, hb', h1, h2⟩
  obtain ⟨Aw, cw, Af, cf, rfl⟩ := hv
  refine wpStir_const (by go_simp) ?_
  simp only [Act.put, List.setIfInBounds_toArray, List.set_cons_succ, List.set_cons_zero]
  refine wpStir_end (fun w5 hb5 hd => ?_)
  have hcp : CopyAt w5 W.heap.size _ _ exE := hd.1 _ _ rfl
  clear hd c10 c11 c12
  have HC := Lib.hid hcp
  have h0 := HT0.out.mono hb5
  have h1 := HT1.out.mono hb5
  have H0 := Lib.hid h0
  have H1 := Lib.hid h1
  have HB5 := Lib.hid (bTrans HB.out hb5)
  have HBW := Lib.hid hb5
  have HZ5 := Lib.hid hb5.size
  have a0 : w5.cell? ⟨w.heap.size, 0, none⟩ = some (.int .i64 0) := h0.cell 0
  have a1 : w5.cell? ⟨w.heap.size, 1, none⟩ = some (.slice none 0 0) := h0.cell 1
  have a2 : w5.cell? ⟨w.heap.size, 2, none⟩ = some (.slice none 0 0) := h0.cell 2
  have b0 : w5.cell? ⟨w.heap.size + 1, 0, none⟩ = some (.int .i64 2) := h1.cell 0
  have b1 : w5.cell? ⟨w.heap.size + 1, 1, none⟩ = some (.slice (some ⟨B, 0, none⟩) 3 3) := h1.cell 1
  have b2 : w5.cell? ⟨w.heap.size + 1, 2, none⟩ = some (.slice none 0 0) := h1.cell 2
  have f0 := h0.frozen 0
  have f1 := h0.frozen 1
  have f2 := h0.frozen 2
  have g0 := h1.frozen 0
  have g1 := h1.frozen 1
  have g2 := h1.frozen 2
  have l1 : w.heap.size + 1 < w5.heap.size := h1.lt
  have l0 : w.heap.size < w5.heap.size := h0.lt
  clear h0 h1 hcp hb5
  obtain ⟨w6, hw6⟩ : ∃ w6, ((w5.setCell ⟨w.heap.size, 0, none⟩ (.int .i64 2)).setCell ⟨w.heap.size, 1, none⟩ (.slice Aw 3 cw)).setCell ⟨w.heap.size, 2, none⟩ (.slice Af 1 cf) = w6 := ⟨_, rfl⟩
  have h0 : TBox w6 w.heap.size 25 #[.int .i64 2, .slice Aw 3 cw, .slice Af 1 cf] := hw6 ▸ ((H0.out.set 0 (.int .i64 2)).set 1 (.slice Aw 3 cw)).set 2 (.slice Af 1 cf)
  have h1 : TBox w6 (w.heap.size + 1) 25 #[.int .i64 2, .slice (some ⟨B, 0, none⟩) 3 3, .slice none 0 0] := hw6 ▸ ((H1.out.other (by omega) 0 (.int .i64 2)).other (by omega) 1 (.slice Aw 3 cw)).other (by omega) 2 (.slice Af 1 cf)
  have k0 : Kept [3, 40, 81, 53] w5 w6 := hw6 ▸ ((Kept.set H0.out (by decide) 0 (.int .i64 2)).trans (Kept.set (H0.out.set 0 (.int .i64 2)) (by decide) 1 (.slice Aw 3 cw))).trans (Kept.set ((H0.out.set 0 (.int .i64 2)).set 1 (.slice Aw 3 cw)) (by decide) 2 (.slice Af 1 cf))
  have hb6 : Below w.heap.size w w6 := hw6 ▸ Below.setCell (p := ⟨w.heap.size, 2, none⟩) (Below.setCell (p := ⟨w.heap.size, 1, none⟩) (Below.setCell (p := ⟨w.heap.size, 0, none⟩) HB5.out (by simp) (.int .i64 2)) (by simp) (.slice Aw 3 cw)) (by simp) (.slice Af 1 cf)
  have HH6 := Lib.hid (show ∀ b, b ≠ w.heap.size → w6.heap[b]? = w5.heap[b]? from fun b hb => by
    rw [← hw6, Below.heap_setCell _ _ _ b hb, Below.heap_setCell _ _ _ b hb, Below.heap_setCell _ _ _ b hb])
  have HW6 := Lib.hid hw6
  have H60 := Lib.hid h0
  have H61 := Lib.hid h1
  have HK6 := Lib.hid k0
  have HB6 := Lib.hid hb6
  clear hw6 k0 hb6 h0 h1
  have d0 : w6.cell? ⟨w.heap.size + 1, 0, none⟩ = some (.int .i64 2) := H61.out.cell 0
  have d1 : w6.cell? ⟨w.heap.size + 1, 1, none⟩ = some (.slice (some ⟨B, 0, none⟩) 3 3) := H61.out.cell 1
  have d2 : w6.cell? ⟨w.heap.size + 1, 2, none⟩ = some (.slice none 0 0) := H61.out.cell 2
  have l6 : w.heap.size + 1 < w6.heap.size := H61.out.lt
  refine ⟨w6, by rw [← HW6.out]; go_simp, by go_simp, ?_⟩
  clear a0 a1 a2 b0 b1 b2 f0 f1 f2 g0 g1 g2 l1 l0 HW6
  have e0 : w6.cell? ⟨w.heap.size, 0, none⟩ = some (.int .i64 2) := H60.out.cell 0
  have e1 : w6.cell? ⟨w.heap.size, 1, none⟩ = some (.slice Aw 3 cw) := H60.out.cell 1
  have e2 : w6.cell? ⟨w.heap.size, 2, none⟩ = some (.slice Af 1 cf) := H60.out.cell 2
  have g0 := H61.out.frozen 0
  have g1 := H61.out.frozen 1
  have g2 := H61.out.frozen 2
  simp only [List.drop_succ_cons, List.drop_zero]
  go_wp2_with fail
  have r1 := H61.out.set 0 (.int .i64 2)
  have r2 := r1.set 1 (.slice (some ⟨B, 0, none⟩) 3 3)
  have k9 := HK6.out.trans (((Kept.set (l := [3, 40, 81, 53]) H61.out (by decide) 0 (.int .i64 2)).trans (Kept.set r1 (by decide) 1 (.slice (some ⟨B, 0, none⟩) 3 3))).trans (Kept.set r2 (by decide) 2 (.slice none 0 0)))
  have hc9 := HC.out.kept k9 (by simp) (by simp) (by simp) (by simp)
  obtain ⟨A1, c1, A2, c2, e1, e2, hq⟩ := hc9.qat
  injection e1 with e1 x1 e1'
  injection e2 with e2 x2 e2'
  clear x1 x2
  subst e1 e1' e2 e2'
  have hs9 := k9.1
  have hz5 := HB5.out.size
  refine bodyPost_ret (v := .tuple #[.agg #[.int .i64 2, .slice Aw 3 cw, .slice Af 1 cf], .agg #[.int .i64 2, .slice (some ⟨B, 0, none⟩) 3 3, .slice none 0 0]]) (by simp [results, Tryd.results69, go_sem, *]) rfl ⟨⟨Aw, cw, Af, cf, _, 3, rfl, hq, HQA.out _ (fun b h1 h2 => ?_) (Nat.le_trans HZ5.out hs9)⟩, ?_⟩
  · rw [Below.heap_setCell _ _ _ b (by show b ≠ w.heap.size + 1; omega), Below.heap_setCell _ _ _ b (by show b ≠ w.heap.size + 1; omega), Below.heap_setCell _ _ _ b (by show b ≠ w.heap.size + 1; omega)]
    rw [HH6.out b (by omega)]
    exact HBW.out.block b h2
  · exact Below.setCell (p := ⟨w.heap.size + 1, 2, none⟩) (Below.setCell (p := ⟨w.heap.size + 1, 1, none⟩) (Below.setCell (p := ⟨w.heap.size + 1, 0, none⟩) HB6.out (by simp) (.int .i64 2)) (by simp) (.slice (some ⟨B, 0, none⟩) 3 3)) (by simp) (.slice none 0 0)
end Go.Proofs.YtchhodikgllgnaaDoor
/- The walk of works of the law 05. Condition: the listed table holds what it holds. -/
namespace Go.Proofs.YtchhodikgllgnaaDoor
open Go.RowKit Go.Sort
theorem intL_get_none (g : Nat → Int) {n i : Nat} (h : n ≤ i) : (intL g n)[i]? = none := List.getElem?_eq_none (by rw [intL_len]; exact h)
theorem numL_intL (l : List Int) : numL l = intL (intL0 l) l.length := by
  refine List.ext_getElem? fun i => ?_
  rcases Nat.lt_or_ge i l.length with h | h
  · rw [intL_get _ h]
    unfold numL intL0
    rw [List.getElem?_map, List.getElem?_eq_getElem h]
    rfl
  · rw [intL_get_none _ h]
    unfold numL
    rw [List.getElem?_map, List.getElem?_eq_none h]
    rfl
/-- a slice that reads as a list of numbers -/
def LstI (w : World) (v : Value) (l : List Int) : Prop := ∃ A c, v = .slice A l.length c ∧ IntsAt w A l.length (intL0 l)
theorem OwnL.lst {w : World} {base : Nat} {v : Value} {l : List Int} (h : OwnL w base v l) : LstI w v l := by
  obtain ⟨A, c, e, hr⟩ := h.nums
  exact ⟨A, c, e, intsAt_row.2 (by rw [← numL_intL]; exact hr)⟩
theorem LstI.mono {w w' : World} {v : Value} {l : List Int} (h : LstI w v l) (hb : Below w.heap.size w w') : LstI w' v l := by
  obtain ⟨A, c, e, hr⟩ := h
  exact ⟨A, c, e, hr.mono hb⟩
theorem LstI.nil {w : World} : LstI w (.slice none 0 0) [] := ⟨none, 0, rfl, .inl rfl⟩
/-- SameInts of two slices that read as the same list -/
theorem sameInts_same (A B : Option Addr) (n c c' : Nat) (f : Nat → Int) (w : World) (hn : n ≤ 9223372036854775807) (hf : IntsAt w A n f) (hg : IntsAt w B n f) :
    Calls Tryd.prog 54 #[.slice A n c, .slice B n c'] w fun e w' => e = .returned (.bool true) ∧ Below w.heap.size w w' := by
  have := sameInts_any A B n n c c' f f w hn hn hf hg
  rw [show (decide (n = n) && !anyB (fun i => f i != f i) n) = true by rw [anyB_false.2 fun i _ => by simp]; simp] at this
  exact this
theorem exE_small : exE.Small := exE_fits.small
theorem exG_small : exG.Small := exG_fits.small
set_option maxHeartbeats 8000000 in
set_option maxRecDepth 100000 in
theorem works5_any (w : World) (hB : TabAt w) : Calls Tryd.prog 18 #[] w fun e w' => e = .returned (.bool true) ∧ Below w.heap.size w w' := by
  have HTB := Lib.hid hB
  clear hB
  go_enter Tryd.func18, Tryd.ntmps18
  go_wp2_with fail
  refine (example5_any _).mono ?_
  rintro e w1 ⟨⟨Aw, cw, Af, cf, Bw, dw, rfl, hE, hG⟩, hb1⟩
  have HE := Lib.hid ((hE.mono (bAlloc (Below.refl _ _) (.cells #[.int .i64 2, .slice Aw 3 cw, .slice Af 1 cf] 25))).mono (bAlloc (Below.refl _ _) (.cells #[.int .i64 2, .slice Bw 3 dw, .slice none 0 0] 25)))
  have HG := Lib.hid ((hG.mono (bAlloc (Below.refl _ _) (.cells #[.int .i64 2, .slice Aw 3 cw, .slice Af 1 cf] 25))).mono (bAlloc (Below.refl _ _) (.cells #[.int .i64 2, .slice Bw 3 dw, .slice none 0 0] 25)))
  have HBW := Lib.hid (bAlloc (bAlloc hb1 (.cells #[.int .i64 2, .slice Aw 3 cw, .slice Af 1 cf] 25)) (.cells #[.int .i64 2, .slice Bw 3 dw, .slice none 0 0] 25))
  have HT1 := Lib.hid (HTB.out.mono HBW.out)
  clear hE hG hb1
  go_wp2_with fail
  have HD1 := Lib.hid (Below.refl ((w1.alloc (.cells #[.int .i64 2, .slice Aw 3 cw, .slice Af 1 cf] 25)).alloc (.cells #[.int .i64 2, .slice Bw 3 dw, .slice none 0 0] 25)).heap.size ((w1.alloc (.cells #[.int .i64 2, .slice Aw 3 cw, .slice Af 1 cf] 25)).alloc (.cells #[.int .i64 2, .slice Bw 3 dw, .slice none 0 0] 25)))
  refine (leftQ_any Aw Af cw cf exE _ exE_small HE.out HT1.out).mono ?_
  rintro e w2 ⟨⟨v, he, hv, _⟩, hb2⟩
  rw [Qt.err_ok exE_ok] at he
  subst he
  have hv2 := (hv exE_ok).lst
  rw [exE_left] at hv2
  obtain ⟨A2, c2, rfl, hi2⟩ := hv2
  have HI2 := Lib.hid (show IntsAt w2 A2 2 (intL0 [0, 2]) from hi2)
  clear hv hi2
  have HD2 := Lib.hid (bTrans HD1.out hb2)
  obtain ⟨bc2, bf2⟩ := bcell HD2.out
  have hz2 := HD2.out.size
  simp only [World.size_alloc] at hz2
  have hy2 : w1.heap.size < w2.heap.size := by omega
  have hv2 : w1.heap.size + 1 < w2.heap.size := by omega
  clear hb2
  go_wp2_with fail
  have hb3 := bAlloc (Below.refl w2.heap.size w2) (.cells #[.int .i64 2, .int .i64 3] 3)
  have hi3 : IntsAt (w2.alloc (.cells #[.int .i64 2, .int .i64 3] 3)) (some ⟨w2.heap.size, 0, none⟩) 2 exD := ints2 (by simp) (by simp [go_sem, exD]) (by simp [go_sem, exD])
  have HT3 := Lib.hid (totalQ_any Aw Af (some ⟨w2.heap.size, 0, none⟩) cw cf 2 2 exE exD 0 _ (by decide) hi3 exE_small (HE.out.mono (bTrans HD2.out hb3)) (HT1.out.mono (bTrans HD2.out hb3)))
  have e3 : exE.knowErr (exE.drawsB 2 exD && exE.wellB 0) = 0 := by rw [ex_draws, ex_well 0 (by decide) (by decide)]; exact exE_know
  have e4 : exE.totalV 2 exD 0 = (6, 12) := by unfold Qt.totalV; rw [e3, if_pos rfl]; exact ex_total
  rw [e3, e4] at HT3
  clear e3 e4 hi3 hb3
  refine HT3.out.mono ?_
  rintro e w3 ⟨rfl, hb3⟩
  have hb3' := bTrans (bAlloc (Below.refl w2.heap.size w2) (.cells #[.int .i64 2, .int .i64 3] 3)) hb3
  have HI3 := Lib.hid (HI2.out.mono hb3')
  clear hb3 HT3 bc2 bf2 hz2 hy2 hv2
  have HD3 := Lib.hid (bTrans HD2.out hb3')
  obtain ⟨bc3, bf3⟩ := bcell HD3.out
  have hz3 := HD3.out.size
  simp only [World.size_alloc] at hz3
  have hy3 : w1.heap.size < w3.heap.size := by omega
  have hv3 : w1.heap.size + 1 < w3.heap.size := by omega
  clear hb3'
  go_wp2_with fail
  have HS3 := Lib.hid (TBox.new w3 #[.int .i64 6, .int .i64 12] 47)
  have hb3 := bAlloc (Below.refl w3.heap.size w3) (.cells #[.int .i64 6, .int .i64 12] 47)
  have HT4 := Lib.hid (harmsQ_any Aw Af cw cf exE 0 1 0 _ exE_small (HE.out.mono (bTrans HD3.out hb3)) (HT1.out.mono (bTrans HD3.out hb3)))
  have e3 : exE.knowErr (exE.wellB 0 && exE.wellB 1 && inR 0 0 99) = 0 := by rw [ex_well 0 (by decide) (by decide), ex_well 1 (by decide) (by decide)]; exact exE_know
  have e4 : harmK (exE.between (0 : Int).toNat (1 : Int).toNat) 0 = 1 := ex_harms
  rw [e3, e4, if_pos rfl] at HT4
  clear e3 e4 hb3
  refine HT4.out.mono ?_
  rintro e w4 ⟨rfl, hb4⟩
  have HS4 := Lib.hid (HS3.out.mono hb4)
  have hb4' := bTrans (bAlloc (Below.refl w3.heap.size w3) (.cells #[.int .i64 6, .int .i64 12] 47)) hb4
  have HI4 := Lib.hid (HI3.out.mono hb4')
  clear hb4 HT4 bc3 bf3 hz3 hy3 hv3
  have HD4 := Lib.hid (bTrans HD3.out hb4')
  obtain ⟨bc4, bf4⟩ := bcell HD4.out
  have hz4 := HD4.out.size
  simp only [World.size_alloc] at hz4
  have hy4 : w1.heap.size < w4.heap.size := by omega
  have hv4 : w1.heap.size + 1 < w4.heap.size := by omega
  clear hb4'
  go_wp2_with fail
  have HT5 := Lib.hid (splitQ_any Bw none dw 0 exG 0 1 _ exG_small (HG.out.mono HD4.out) (HT1.out.mono HD4.out))
  have e3 : exG.knowErr (exG.wellB 0 && exG.wellB 1) = 0 := by rw [ex_wellG 0 (by decide) (by decide), ex_wellG 1 (by decide) (by decide)]; exact exG_know
  have e4 : exG.splitV 0 1 = 2 := by unfold Qt.splitV; rw [e3, if_pos rfl]; exact ex_split
  rw [e3, e4] at HT5
  clear e3 e4
  refine HT5.out.mono ?_
  rintro e w5 ⟨rfl, hb5⟩
  have HS5 := Lib.hid (HS4.out.mono hb5)
  have HI5 := Lib.hid (HI4.out.mono hb5)
  clear HT5 bc4 bf4 hz4 hy4 hv4
  have HD5 := Lib.hid (bTrans HD4.out hb5)
  obtain ⟨bc5, bf5⟩ := bcell HD5.out
  have hz5 := HD5.out.size
  simp only [World.size_alloc] at hz5
  have hy5 : w1.heap.size < w5.heap.size := by omega
  have hv5 : w1.heap.size + 1 < w5.heap.size := by omega
  clear hb5
  go_wp2_with fail
  have HT6 := Lib.hid (depthQ_any Bw none dw 0 exG _ exG_small (HG.out.mono HD5.out) (HT1.out.mono HD5.out))
  have e4 : exG.depthOut = 1 := by unfold Qt.depthOut; rw [exG_know, if_pos rfl]; exact ex_depth
  rw [exG_know, e4] at HT6
  clear e4
  refine HT6.out.mono ?_
  rintro e w6 ⟨rfl, hb6⟩
  have HS6 := Lib.hid (HS5.out.mono hb6)
  have HI6 := Lib.hid (HI5.out.mono hb6)
  clear HT6 bc5 bf5 hz5 hy5 hv5
  have HD6 := Lib.hid (bTrans HD5.out hb6)
  obtain ⟨bc6, bf6⟩ := bcell HD6.out
  have hz6 := HD6.out.size
  simp only [World.size_alloc] at hz6
  have hy6 : w1.heap.size < w6.heap.size := by omega
  have hv6 : w1.heap.size + 1 < w6.heap.size := by omega
  clear hb6
  go_wp2_with fail
  have HT7 := Lib.hid (fewestQ_any Bw none dw 0 exG _ exG_small (HG.out.mono HD6.out) (HT1.out.mono HD6.out))
  rw [exG_know, ex_fewest] at HT7
  refine HT7.out.mono ?_
  rintro e w7 ⟨⟨ho, _⟩, hb7⟩
  obtain ⟨A7, c7, rfl, hl7⟩ := ho rfl
  have HL7 := Lib.hid hl7.row
  have HS7 := Lib.hid (HS6.out.mono hb7)
  have HI7 := Lib.hid (HI6.out.mono hb7)
  clear HT7 bc6 bf6 hz6 hy6 hv6 ho hl7
  have HD7 := Lib.hid (bTrans HD6.out hb7)
  obtain ⟨bc7, bf7⟩ := bcell HD7.out
  have hz7 := HD7.out.size
  simp only [World.size_alloc] at hz7
  have hy7 : w1.heap.size < w7.heap.size := by omega
  have hv7 : w1.heap.size + 1 < w7.heap.size := by omega
  clear hb7
  have s0 : w7.cell? ⟨w3.heap.size, 0, none⟩ = some (.int .i64 6) := HS7.out.cell 0
  have s1 : w7.cell? ⟨w3.heap.size, 1, none⟩ = some (.int .i64 12) := HS7.out.cell 1
  have sl : w3.heap.size < w7.heap.size := HS7.out.lt
  go_wp2_with fail
  have hb8 := bAlloc (Below.refl w7.heap.size w7) (.cells #[.int .i64 0, .int .i64 2] 3)
  have hi8 : IntsAt (w7.alloc (.cells #[.int .i64 0, .int .i64 2] 3)) (some ⟨w7.heap.size, 0, none⟩) 2 (intL0 [0, 2]) := ints2 (by simp) (by simp [go_sem, intL0]) (by simp [go_sem, intL0])
  have HT8 := Lib.hid (sameInts_same A2 (some ⟨w7.heap.size, 0, none⟩) 2 c2 2 _ _ (by decide) (HI7.out.mono hb8) hi8)
  refine HT8.out.mono ?_
  rintro e w8 ⟨rfl, hb9⟩
  have hb9' := bTrans hb8 hb9
  have HS8 := Lib.hid (HS7.out.mono hb9')
  have HL8 := Lib.hid (HL7.out.mono hb9')
  clear hb8 hi8 HT8 hb9 bc7 bf7 hz7 hy7 hv7 s0 s1 sl
  have HD8 := Lib.hid (bTrans HD7.out hb9')
  obtain ⟨bc8, bf8⟩ := bcell HD8.out
  have hz8 := HD8.out.size
  simp only [World.size_alloc] at hz8
  have hy8 : w1.heap.size < w8.heap.size := by omega
  have hv8 : w1.heap.size + 1 < w8.heap.size := by omega
  clear hb9'
  have s0 : w8.cell? ⟨w3.heap.size, 0, none⟩ = some (.int .i64 6) := HS8.out.cell 0
  have s1 : w8.cell? ⟨w3.heap.size, 1, none⟩ = some (.int .i64 12) := HS8.out.cell 1
  have sl : w3.heap.size < w8.heap.size := HS8.out.lt
  go_wp2_with fail
  have hb9 := bAlloc (Below.refl w8.heap.size w8) (.cells #[.int .i64 1, .int .i64 0] 27)
  have hr9 : RowAt (w8.alloc (.cells #[.int .i64 1, .int .i64 0] 27)) (some ⟨w8.heap.size, 0, none⟩) (tstE.cells [(1, 0)]) := .inr ⟨_, 0, rfl, by simp, fun j v hj => by
    match j, hj with
    | 0, hj => have : Value.int .i64 1 = v := by simpa [tstE, Elem.cells] using hj
               subst this; simp [go_sem]
    | 1, hj => have : Value.int .i64 0 = v := by simpa [tstE, Elem.cells] using hj
               subst this; simp [go_sem]
    | n + 2, hj => simp [tstE, Elem.cells] at hj⟩
  have HT9 := Lib.hid (sameTests_any A7 (some ⟨w8.heap.size, 0, none⟩) c7 1 [(1, 0)] [(1, 0)] _ (by decide) (by decide) (HL8.out.mono hb9) hr9)
  refine HT9.out.mono ?_
  rintro e w9 ⟨rfl, hb10⟩
  have HB10 := Lib.hid (bTrans hb9 hb10)
  clear hb9 hr9 HT9 hb10 bc8 bf8 hz8 hy8 hv8 s0 s1 sl
  go_wp2_with fail
  go_ret
  exact ⟨by simp, bTrans HBW.out (bTrans HD8.out HB10.out)⟩
end Go.Proofs.YtchhodikgllgnaaDoor
/- The walk of Out of the package quarrels. Conditions: lengths are Go's. -/
namespace Go.Proofs.YtchhodikgllgnaaDoor
open Go.RowKit Go.Sort
set_option maxHeartbeats 4000000 in
set_option maxRecDepth 100000 in
theorem outQ_any (Aw Af : Option Addr) (cw cf : Nat) (t : Qt) (n : Int) (w : World) (hs : t.Small) (hT : QAt w Aw Af t) :
    Calls Tryd.prog 52 #[.agg #[.int .i64 t.wells, .slice Aw t.nw cw, .slice Af t.nf cf], .int .i64 n] w fun e w' => Out5Out w' w.heap.size t n e ∧ Below w.heap.size w w' := by
  have hb0 := bAlloc (Below.refl w.heap.size w) (.cells #[.int .i64 t.wells, .slice Aw t.nw cw, .slice Af t.nf cf] 25)
  have HT := Lib.hid (hT.mono hb0)
  have HB := Lib.hid hb0
  clear hT hb0
  have e1 : IntKind.i64.wrap ((t.nw : Int) - 1) = (t.nw : Int) - 1 := IntWalk.i64_in _ (by have := hs.1; omega)
  obtain ⟨is, his⟩ : ∃ is, inR n 0 ((t.nw : Int) - 1) = is := ⟨_, rfl⟩
  obtain ⟨ae, hae⟩ : ∃ ae, t.askErr is = ae := ⟨_, rfl⟩
  have HIS := Lib.hid his
  have HAE := Lib.hid hae
  have HCI := Lib.hid (fun w => withinQ_bb n 0 ((t.nw : Int) - 1) is w his : ∀ w : World, Calls Tryd.prog 100 #[.int .i64 n, .int .i64 0, .int .i64 ((t.nw : Int) - 1)] w fun e w' => e = .returned (.bool is) ∧ Below w.heap.size w w')
  have HCO := Lib.hid (fun (w' : World) (hb : Below (w.alloc (.cells #[.int .i64 t.wells, .slice Aw t.nw cw, .slice Af t.nf cf] 25)).heap.size (w.alloc (.cells #[.int .i64 t.wells, .slice Aw t.nw cw, .slice Af t.nf cf] 25)) w') => ((askQ_any Aw Af cw cf t is w' hs (HT.out.mono hb)).mono fun e w'' h => ⟨(hae ▸ h.1).lower hb.size, h.2⟩ : Calls Tryd.prog 91 #[.agg #[.int .i64 t.wells, .slice Aw t.nw cw, .slice Af t.nf cf], .bool is] w' fun e w'' => AskOut w'' (w.alloc (.cells #[.int .i64 t.wells, .slice Aw t.nw cw, .slice Af t.nf cf] 25)).heap.size Aw Af cw cf t ae e ∧ Below w'.heap.size w' w''))
  by_cases ha0 : ae = 0
  case neg =>
    have HOE := Lib.hid (show t.outErr n = ae by unfold Qt.outErr; rw [his, hae, if_neg ha0])
    have HNZ := Lib.hid ha0
    have g0 : (ae != 0) = true := by simp [ha0]
    clear his hae ha0
    go_enter Tryd.func52, Tryd.ntmps52
    go_wp2_with fail
    refine wp_region_call 7 (fun v w2 => AskOut w2 (w.alloc (.cells #[.int .i64 t.wells, .slice Aw t.nw cw, .slice Af t.nf cf] 25)).heap.size Aw Af cw cf t ae (.returned v) ∧ Below (w.alloc (.cells #[.int .i64 t.wells, .slice Aw t.nw cw, .slice Af t.nf cf] 25)).heap.size (w.alloc (.cells #[.int .i64 t.wells, .slice Aw t.nw cw, .slice Af t.nf cf] 25)) w2) (by kernel_rfl) (by decide +kernel) rfl ?_
    apply Exists.intro
    refine ⟨fun K hK => ?_, ?_, fun w1 hb1 K Q' hK => ?_, ?_⟩
    · skip
      repeat (first | (refine wpCalm_skip rfl ?_) | (refine wpCalm_step rfl (fun K hK => ?_); go_simp; (first | (refine hK _ ?_; clear hK K) | (apply Exists.intro; refine ⟨fun _ => ?_, hK _ ?_⟩; ((go_at_call 100; with_reducible exact newer_of (HCI.out _))); clear hK K))))
      refine wpCalm_nil ?_
      exact hK
    · rfl
    · go_simp
      refine (HCO.out w1 hb1).mono ?_
      rintro e w2 ⟨ho, hb2⟩
      obtain ⟨v, rfl⟩ := AskOut.ret ho
      exact hK v w2 ⟨ho, bTrans hb1 hb2⟩
    rintro v w2 ⟨ho, hb2⟩
    obtain rfl := Ending.returned.inj (ho.1 HNZ.out)
    have HB2 := Lib.hid hb2
    clear ho hb2
    apply Exists.intro
    refine ⟨fun K hK => ?_, fun w3 hb3 => ?_⟩
    · skip
      repeat (first | (refine wpCalm_skip rfl ?_) | (refine wpCalm_step rfl (fun K hK => ?_); go_simp; (first | (refine hK _ ?_; clear hK K) | (apply Exists.intro; refine ⟨fun _ => ?_, hK _ ?_⟩; (fail); clear hK K))))
      refine wpCalm_nil ?_
      exact hK
    have HB9 := Lib.hid (bTrans HB2.out hb3)
    clear hb3
    go_wp2_with fail
    go_ret2
    exact ⟨⟨_, by rw [HOE.out]; rfl, (fun h => by rw [HOE.out] at h; exact absurd h HNZ.out), fun _ => rfl⟩, bTrans HB.out HB9.out⟩
  subst ha0
  obtain ⟨ok, rfl⟩ := askErr_zero hae
  obtain ⟨n0, n1⟩ := inR_iff.1 his
  obtain ⟨i, rfl⟩ : ∃ i : Nat, n = (i : Int) := ⟨n.toNat, by omega⟩
  have HOE := Lib.hid (show t.outErr (i : Int) = (if t.outL i = [] then 3 else 0) by unfold Qt.outErr; rw [his, hae, if_pos rfl]; rfl)
  have HI := Lib.hid (show i < t.nw by omega)
  have i1 : (i : Int) < (t.nw : Int) := by omega
  have HOK := Lib.hid ok
  have nf6 := ok.nf
  rcases HT.out.worlds with h0 | ⟨bw, ow, hAw, hbw, hcellw⟩
  · have := HI.out
    omega
  obtain ⟨A', c', cW, hrow, _⟩ := hcellw i HI.out
  subst hAw
  have HCW := Lib.hid cW
  have HRW := Lib.hid hrow
  have HBW := Lib.hid hbw
  clear his hae ok n0 n1 hcellw cW hrow hbw
  go_enter Tryd.func52, Tryd.ntmps52
  go_wp2_with fail
  refine wp_region_call 7 (fun v w2 => AskOut w2 (w.alloc (.cells #[.int .i64 t.wells, .slice (some ⟨bw, ow, none⟩) t.nw cw, .slice Af t.nf cf] 25)).heap.size (some ⟨bw, ow, none⟩) Af cw cf t 0 (.returned v) ∧ Below (w.alloc (.cells #[.int .i64 t.wells, .slice (some ⟨bw, ow, none⟩) t.nw cw, .slice Af t.nf cf] 25)).heap.size (w.alloc (.cells #[.int .i64 t.wells, .slice (some ⟨bw, ow, none⟩) t.nw cw, .slice Af t.nf cf] 25)) w2) (by kernel_rfl) (by decide +kernel) rfl ?_
  apply Exists.intro
  refine ⟨fun K hK => ?_, ?_, fun w1 hb1 K Q' hK => ?_, ?_⟩
  · skip
    repeat (first | (refine wpCalm_skip rfl ?_) | (refine wpCalm_step rfl (fun K hK => ?_); go_simp; (first | (refine hK _ ?_; clear hK K) | (apply Exists.intro; refine ⟨fun _ => ?_, hK _ ?_⟩; ((go_at_call 100; with_reducible exact newer_of (HCI.out _))); clear hK K))))
    refine wpCalm_nil ?_
    exact hK
  · rfl
  · go_simp
    refine (HCO.out w1 hb1).mono ?_
    rintro e w2 ⟨ho, hb2⟩
    obtain ⟨v, rfl⟩ := AskOut.ret ho
    exact hK v w2 ⟨ho, bTrans hb1 hb2⟩
  rintro v w2 ⟨ho, hb2⟩
  obtain ⟨C, mp, e9, hc, _⟩ := ho.2 rfl
  obtain rfl := Ending.returned.inj e9
  have HB2 := Lib.hid hb2
  clear ho hb2 hc e9
  apply Exists.intro
  refine ⟨fun K hK => ?_, fun w9 hb3 => ?_⟩
  · skip
    repeat (first | (refine wpCalm_skip rfl ?_) | (refine wpCalm_step rfl (fun K hK => ?_); go_simp; (first | (refine hK _ ?_; clear hK K) | (apply Exists.intro; refine ⟨fun _ => ?_, hK _ ?_⟩; (fail); clear hK K))))
    refine wpCalm_nil ?_
    exact hK
  have hb9 := bTrans HB2.out hb3
  have HB9 := Lib.hid hb9
  obtain ⟨bc9, bf9⟩ := bcell hb9
  have hz9 := hb9.size
  simp only [World.size_alloc] at hz9
  have hy9 : w.heap.size < w9.heap.size := hz9
  clear hb3 hb9
  go_wp2_with fail
  clear bc9 bf9
  go_loopw [8, 28] (fun v i' wr => ∃ k : Nat, i' = .int .i64 k ∧ k ≤ t.nf ∧ OwnL wr (w.alloc (.cells #[.int .i64 t.wells, .slice (some ⟨bw, ow, none⟩) t.nw cw, .slice Af t.nf cf] 25)).heap.size v (selTo (fun j => !(t.world i).agrees (t.fact j)) k) ∧ Below (w.alloc (.cells #[.int .i64 t.wells, .slice (some ⟨bw, ow, none⟩) t.nw cw, .slice Af t.nf cf] 25)).heap.size (w.alloc (.cells #[.int .i64 t.wells, .slice (some ⟨bw, ow, none⟩) t.nw cw, .slice Af t.nf cf] 25)) wr) (fun _ i _ => t.nf - (intOf i).toNat)
  case atStart => exact ⟨0, rfl, Nat.zero_le _, OwnL.nil _ _, HB9.out⟩
  case round =>
    obtain ⟨k, rfl, hk, hown, hbel⟩ := hrel
    have HO := Lib.hid hown
    have HL3 := Lib.hid hbel
    obtain ⟨bc3, bf3⟩ := bcell hbel
    have hz3 := hbel.size
    simp only [World.size_alloc] at hz3
    have hy3 : w.heap.size < wr.heap.size := hz3
    clear hbel hown
    by_cases hlt : k < t.nf
    · rcases (HT.out.mono HL3.out).facts with h0 | ⟨b, o, hA, hb, hcell⟩
      · omega
      obtain ⟨c0, c1, c2, c3, c4⟩ := hcell k hlt
      have k1 : (k : Int) < (t.nf : Int) := by omega
      have HK := Lib.hid hlt
      have HLEN := Lib.hid (show (selTo (fun j => !(t.world i).agrees (t.fact j)) k).length ≤ 1000 from by have := selTo_len (fun j => !(t.world i).agrees (t.fact j)) k; omega)
      clear hcell
      subst hA
      obtain ⟨ba, hba⟩ : ∃ ba, (t.world i).agrees (t.fact k) = ba := ⟨_, rfl⟩
      have HBA := Lib.hid hba
      have HCG := Lib.hid (fun (w' : World) (hb : Below wr.heap.size wr w') => (hba ▸ agreesQ_any A' c' t.wells (t.world i) (t.fact k) w' (HOK.out.world i HI.out) (HOK.out.fact k HK.out) (HRW.out.mono (bTrans HL3.out hb)) : Calls Tryd.prog 107 #[.agg #[.slice A' (t.world i).n c'], .agg #[.int .i64 (t.fact k).from_, .int .i64 (t.fact k).many, .int .i64 (t.fact k).to_, .int .i64 (t.fact k).low, .int .i64 (t.fact k).high]] w' fun e w'' => e = .returned (.bool ba) ∧ Below w'.heap.size w' w''))
      have cW := (HL3.out.cell (p := ⟨bw, ow + i, none⟩) HBW.out).trans HCW.out
      have hbW := Nat.lt_of_lt_of_le HBW.out HL3.out.size
      clear hba
      go_wp2_with fail
      refine wp_region_quiet_below (by kernel_rfl) (by kernel_rfl) ?_
      repeat (go_big_quiet_step ((go_at_call 107; exact Calls.regrown_of (HCG.out _ (bTrans (bAlloc (Below.refl _ _) _) (below_regrown _ _ _))))))
      refine wpQuiet_nil ?_
      intro w10 hw10
      have hb10 := bTrans (bAlloc (Below.refl wr.heap.size wr) (.cells #[.int .i64 (t.fact k).from_, .int .i64 (t.fact k).many, .int .i64 (t.fact k).to_, .int .i64 (t.fact k).low, .int .i64 (t.fact k).high] 53)) (below_of_regrown hw10)
      have HO10 := Lib.hid (HO.out.mono hb10)
      have HL10 := Lib.hid (bTrans HL3.out hb10)
      have hz10 := HL10.out.size
      simp only [World.size_alloc] at hz10
      clear hw10 hb10 c0 c1 c2 c3 c4 hb bc3 bf3 cW hbW
      cases ba
      · have HS := Lib.hid (show selTo (fun j => !(t.world i).agrees (t.fact j)) (k + 1) = selTo (fun j => !(t.world i).agrees (t.fact j)) k ++ [(k : Int)] by
          show (if (!(t.world i).agrees (t.fact k)) then _ else _) = _
          rw [HBA.out]; rfl)
        go_wp2_with (at_builtin; refine wpList_snoc _ rfl (Operand.tmp 41) (Operand.tmp 43) rfl (w.heap.size + 1) _ (selTo (fun j => !(t.world i).agrees (t.fact j)) k) rfl ?q1 w10.heap.size k rfl ?q2 HLEN.out ?q3 ?_)
        case q1 =>
          have h := HO10.out
          simp only [World.size_alloc] at h
          exact h.mono (bAlloc (Below.refl _ _) _)
        case q2 => simp [go_sem]
        case q3 => simp; omega
        intro v' w5 hown5 hb5
        have HO5 := Lib.hid hown5
        have HL5 := Lib.hid (hb5 (w.heap.size + 1) _ (Nat.le_refl _) (show Below (w.heap.size + 1) (w.alloc (.cells #[.int .i64 t.wells, .slice (some ⟨bw, ow, none⟩) t.nw cw, .slice (some ⟨b, o, none⟩) t.nf cf] 25)) _ by have := bAlloc HL10.out (.cells #[.int .i64 k] 3); simpa using this))
        clear hown5 hb5
        go_wp2_with fail
        go_roundw
        case rel =>
          have h1 := HO5.out
          have h2 := HL5.out
          first
          | exact ⟨k + 1, by go_num, by omega, by rw [HS.out]; simpa using h1, by simpa using h2⟩
          | ((repeat apply Exists.intro)
             refine ⟨⟨k + 1, ?_, by omega, by rw [HS.out]; simpa using h1, by simpa using h2⟩, rfl⟩
             go_num)
        case measure => simp [intOf]; omega
      · have HS := Lib.hid (show selTo (fun j => !(t.world i).agrees (t.fact j)) (k + 1) = selTo (fun j => !(t.world i).agrees (t.fact j)) k by
          show (if (!(t.world i).agrees (t.fact k)) then _ else _) = _
          rw [HBA.out]; rfl)
        go_wp2_with fail
        go_roundw
        case rel =>
          first
          | exact ⟨k + 1, by go_num, by omega, by rw [HS.out]; exact HO10.out, HL10.out⟩
          | ((repeat apply Exists.intro)
             refine ⟨⟨k + 1, ?_, by omega, by rw [HS.out]; exact HO10.out, HL10.out⟩, rfl⟩
             go_num)
        case measure => simp [intOf]; omega
    · obtain rfl : k = t.nf := by omega
      obtain ⟨A, c, hv, _⟩ := HO.out.nums
      have HOO := Lib.hid (show OwnL wr (w.alloc (.cells #[.int .i64 t.wells, .slice (some ⟨bw, ow, none⟩) t.nw cw, .slice Af t.nf cf] 25)).heap.size _ (t.outL i) from HO.out)
      have HVV := Lib.hid hv
      obtain ⟨m, hm⟩ : ∃ m, (t.outL i).length = m := ⟨_, rfl⟩
      have hv' : _ = Value.slice A m c := hv.trans (by rw [← hm]; rfl)
      subst hv'
      clear hv HVV
      by_cases h0 : m = 0
      · have g0 : ((m : Int) == 0) = true := by simp [h0]
        have HZ := Lib.hid (show t.outErr (i : Int) = 3 by rw [HOE.out, if_pos (List.eq_nil_of_length_eq_zero (hm.trans h0))])
        clear hm h0
        go_wp2_with fail
        go_ret2
        exact ⟨⟨_, by rw [HZ.out]; rfl, (fun h => by rw [HZ.out] at h; cases h), fun _ => rfl⟩, bTrans HB.out HL3.out⟩
      · have g0 : ((m : Int) == 0) = false := by simp [h0]
        have HZ := Lib.hid (show t.outErr (i : Int) = 0 by rw [HOE.out, if_neg (fun h => h0 (by rw [← hm, h]; rfl))])
        clear hm h0
        go_wp2_with fail
        go_ret2
        exact ⟨⟨_, by rw [HZ.out]; rfl, fun _ => HOO.out.lower (by simp), fun h => absurd HZ.out h⟩, bTrans HB.out HL3.out⟩
end Go.Proofs.YtchhodikgllgnaaDoor
/- The statement QuarrelsLeft: the walk. Conditions: what is read fits into memory; the listed table holds what it holds. -/
namespace Go.Proofs.YtchhodikgllgnaaDoor
open Go.RowKit Go.Sort
theorem OwnL.le {w : World} {base : Nat} {v : Value} {l : List Int} (h : OwnL w base v l) : l.length ≤ 9223372036854775807 := by
  rcases h.2 with ⟨_, h⟩ | ⟨_, cap, _, _, _, _, h1, h2, _⟩
  · rw [h]; omega
  · unfold maxLen at h2; omega
open Classical in
/-- the list that Left hands back -/
noncomputable def Qt.leftO (t : Qt) : List Int := if t.Ok then t.leftL else []
open Classical in
/-- the list that Out hands back -/
noncomputable def Qt.outO (t : Qt) (n : Int) : List Int := if t.outErr n = 0 then t.outL n.toNat else []
/-- a slice that reads as a list of numbers, of a length of Go's -/
def LstM (w : World) (v : Value) (l : List Int) : Prop := LstI w v l ∧ l.length ≤ 9223372036854775807
theorem LstM.mono {w w' : World} {v : Value} {l : List Int} (h : LstM w v l) (hb : Below w.heap.size w w') : LstM w' v l := ⟨h.1.mono hb, h.2⟩
theorem OwnL.lstM {w : World} {base : Nat} {v : Value} {l : List Int} (h : OwnL w base v l) : LstM w v l := ⟨h.lst, h.le⟩
theorem LstM.nil {w : World} : LstM w (.slice none 0 0) [] := ⟨LstI.nil, Nat.zero_le _⟩
theorem Left5Out.lst {w : World} {base : Nat} {t : Qt} {e : Ending} (h : Left5Out w base t e) : ∃ v, e = .returned (.tuple #[v, .int .i64 t.err]) ∧ LstM w v t.leftO := by
  obtain ⟨v, he, h1, h2⟩ := h
  refine ⟨v, he, ?_⟩
  unfold Qt.leftO
  by_cases ok : t.Ok
  · rw [if_pos ok]; exact (h1 ok).lstM
  · rw [if_neg ok, h2 ok]; exact LstM.nil
theorem Out5Out.lst {w : World} {base : Nat} {t : Qt} {n : Int} {e : Ending} (h : Out5Out w base t n e) : ∃ v, e = .returned (.tuple #[v, .int .i64 (t.outErr n)]) ∧ LstM w v (t.outO n) := by
  obtain ⟨v, he, h1, h2⟩ := h
  refine ⟨v, he, ?_⟩
  unfold Qt.outO
  by_cases ok : t.outErr n = 0
  · rw [if_pos ok]; exact (h1 ok).lstM
  · rw [if_neg ok, h2 ok]; exact LstM.nil
set_option maxHeartbeats 8000000 in
set_option maxRecDepth 100000 in
theorem quarrelsLeft_any (Aw Af : Option Addr) (cw cf : Nat) (t : Qt) (world : Int) (w : World) (hf : t.Fits) (hT : QAt w Aw Af t) (hB : TabAt w) :
    Calls Tryd.prog 9 #[.agg #[.int .i64 t.wells, .slice Aw t.nw cw, .slice Af t.nf cf], .int .i64 world] w fun e w' => e = .returned (.bool true) ∧ Below w.heap.size w w' := by
  have hb0 := bAlloc (Below.refl w.heap.size w) (.cells #[.int .i64 t.wells, .slice Aw t.nw cw, .slice Af t.nf cf] 25)
  have HT := Lib.hid (hT.mono hb0)
  have HTB := Lib.hid (hB.mono hb0)
  have HB := Lib.hid hb0
  have HS := Lib.hid hf.small
  have HF := Lib.hid hf
  clear hT hB hb0 hf
  go_enter Tryd.func9, Tryd.ntmps9
  go_wp2_with fail
  refine (huge_any _ _ _ _ t _ HS.out HT.out).mono ?_
  rintro e w1 ⟨rfl, hb1⟩
  have HB1 := Lib.hid hb1
  obtain ⟨bc1, bf1⟩ := bcell hb1
  have hz1 := hb1.size
  simp only [World.size_alloc] at hz1
  have hy1 : w.heap.size < w1.heap.size := by omega
  clear hb1
  cases t.huge
  case true =>
    go_wp2_with fail
    refine (works5_any _ (HTB.out.mono HB1.out)).mono ?_
    rintro e w99 ⟨rfl, hb99⟩
    go_wp2_with fail
    go_ret
    exact ⟨rfl, bTrans HB.out (bTrans (HB1.out) hb99)⟩
  go_wp2_with fail
  refine (copy5_any _ _ _ _ t _ HF.out (HT.out.mono HB1.out)).mono ?_
  rintro e w2 ⟨⟨vW, vF, rfl, hc⟩, hb2⟩
  obtain ⟨Bw, dw, Bf, df, rfl, rfl, hq⟩ := hc.qat
  have HQ := Lib.hid (hq.mono (bAlloc (Below.refl _ _) (.cells #[.int .i64 t.wells, .slice Bw t.nw dw, .slice Bf t.nf df] 25)))
  have HX2 := Lib.hid (Below.refl (w2.alloc (.cells #[.int .i64 t.wells, .slice Bw t.nw dw, .slice Bf t.nf df] 25)).heap.size (w2.alloc (.cells #[.int .i64 t.wells, .slice Bw t.nw dw, .slice Bf t.nf df] 25)))
  have HD2 := Lib.hid (bAlloc (bTrans HB1.out hb2) (.cells #[.int .i64 t.wells, .slice Bw t.nw dw, .slice Bf t.nf df] 25))
  have hz2 := (bTrans HB1.out hb2).size
  simp only [World.size_alloc] at hz2
  have hy2 : w.heap.size < w2.heap.size := by omega
  obtain ⟨bc2, bf2⟩ := bcell (bTrans HB1.out hb2)
  have HO0 := Lib.hid (show (w2.alloc (.cells #[.int .i64 t.wells, .slice Bw t.nw dw, .slice Bf t.nf df] 25)).cell? ⟨w.heap.size, 0, none⟩ = some (.int .i64 t.wells) by simp [go_sem, *])
  have HO1 := Lib.hid (show (w2.alloc (.cells #[.int .i64 t.wells, .slice Bw t.nw dw, .slice Bf t.nf df] 25)).cell? ⟨w.heap.size, 1, none⟩ = some (.slice Aw t.nw cw) by simp [go_sem, *])
  have HO2 := Lib.hid (show (w2.alloc (.cells #[.int .i64 t.wells, .slice Bw t.nw dw, .slice Bf t.nf df] 25)).cell? ⟨w.heap.size, 2, none⟩ = some (.slice Af t.nf cf) by simp [go_sem, *])
  clear hc hq hb2 bc1 bf1 hz1 hy1
  have HC1 := Lib.hid (fun (w' : World) (hb : Below (w2.alloc (.cells #[.int .i64 t.wells, .slice Bw t.nw dw, .slice Bf t.nf df] 25)).heap.size (w2.alloc (.cells #[.int .i64 t.wells, .slice Bw t.nw dw, .slice Bf t.nf df] 25)) w') => checkQ_any Bw Bf dw df t w' HS.out.1 HS.out.2.1 HS.out.2.2 (HQ.out.mono hb))
  have HC2 := Lib.hid (fun (w' : World) (hb : Below (w2.alloc (.cells #[.int .i64 t.wells, .slice Bw t.nw dw, .slice Bf t.nf df] 25)).heap.size (w2.alloc (.cells #[.int .i64 t.wells, .slice Bw t.nw dw, .slice Bf t.nf df] 25)) w') => refCheck5 Aw Af cw cf t w' HS.out.1 HS.out.2.1 ((HT.out.mono HD2.out).mono hb))
  go_wp2_with fail
  refine wp_region_quiet_below (by kernel_rfl) (by kernel_rfl) ?_
  repeat (go_big_quiet_step (((first | (go_at_call 49; with_reducible exact Calls.regrown_of (HC1.out _ (below_regrown _ _ _))) | (go_at_call 50; with_reducible exact Calls.regrown_of (HC2.out _ (below_regrown _ _ _)))))))
  refine wpQuiet_nil ?_
  intro w3 hw3
  have hb3 := below_of_regrown hw3
  clear hw3 HC1 HC2 bc2 bf2
  have HD3 := Lib.hid (bTrans HD2.out hb3)
  have HX3 := Lib.hid (bTrans HX2.out hb3)
  have hz3 := HX3.out.size
  simp only [World.size_alloc] at hz3
  have hy3 : w.heap.size < w3.heap.size := by omega
  have hv3 : w2.heap.size < w3.heap.size := by omega
  have x03 := (HX3.out.cell (p := ⟨w2.heap.size, 0, none⟩) (by show w2.heap.size < _; simp)).trans (show _ = some (.int .i64 t.wells) by simp [go_sem])
  have x13 := (HX3.out.cell (p := ⟨w2.heap.size, 1, none⟩) (by show w2.heap.size < _; simp)).trans (show _ = some (.slice Bw t.nw dw) by simp [go_sem])
  have x23 := (HX3.out.cell (p := ⟨w2.heap.size, 2, none⟩) (by show w2.heap.size < _; simp)).trans (show _ = some (.slice Bf t.nf df) by simp [go_sem])
  have y03 := (HX3.out.cell (p := ⟨w.heap.size, 0, none⟩) (by show w.heap.size < _; simp <;> omega)).trans (HO0.out)
  have y13 := (HX3.out.cell (p := ⟨w.heap.size, 1, none⟩) (by show w.heap.size < _; simp <;> omega)).trans (HO1.out)
  have y23 := (HX3.out.cell (p := ⟨w.heap.size, 2, none⟩) (by show w.heap.size < _; simp <;> omega)).trans (HO2.out)
  clear hb3
  obtain ⟨n1, hn1⟩ : ∃ n, t.leftO.length = n := ⟨_, rfl⟩
  obtain ⟨n2, hn2⟩ : ∃ n, (t.outO world).length = n := ⟨_, rfl⟩
  have HN1 := Lib.hid hn1
  have HN2 := Lib.hid hn2
  clear hn1 hn2
  go_wp2_with fail
  refine (leftQ_any Bw Bf dw df t _ HS.out (HQ.out.mono HX3.out) (HTB.out.mono HD3.out)).mono ?_
  rintro e w4 ⟨ho, hb4⟩
  obtain ⟨v, rfl, ⟨A4, c4, rfl, hi4⟩, hl4⟩ := ho.lst
  rw [HN1.out] at hi4 hl4 ⊢
  have HI4 := Lib.hid hi4
  have HL4 := Lib.hid hl4
  clear ho hi4 hl4 hz3 hy3 hv3 x03 x13 x23 y03 y13 y23
  have HD4 := Lib.hid (bTrans HD3.out hb4)
  have HX4 := Lib.hid (bTrans HX3.out hb4)
  have hz4 := HX4.out.size
  simp only [World.size_alloc] at hz4
  have hy4 : w.heap.size < w4.heap.size := by omega
  have hv4 : w2.heap.size < w4.heap.size := by omega
  have x04 := (HX4.out.cell (p := ⟨w2.heap.size, 0, none⟩) (by show w2.heap.size < _; simp)).trans (show _ = some (.int .i64 t.wells) by simp [go_sem])
  have x14 := (HX4.out.cell (p := ⟨w2.heap.size, 1, none⟩) (by show w2.heap.size < _; simp)).trans (show _ = some (.slice Bw t.nw dw) by simp [go_sem])
  have x24 := (HX4.out.cell (p := ⟨w2.heap.size, 2, none⟩) (by show w2.heap.size < _; simp)).trans (show _ = some (.slice Bf t.nf df) by simp [go_sem])
  have y04 := (HX4.out.cell (p := ⟨w.heap.size, 0, none⟩) (by show w.heap.size < _; simp <;> omega)).trans (HO0.out)
  have y14 := (HX4.out.cell (p := ⟨w.heap.size, 1, none⟩) (by show w.heap.size < _; simp <;> omega)).trans (HO1.out)
  have y24 := (HX4.out.cell (p := ⟨w.heap.size, 2, none⟩) (by show w.heap.size < _; simp <;> omega)).trans (HO2.out)
  clear hb4
  go_wp2_with fail
  refine (refLeft5 Aw Af cw cf t _ HS.out.1 HS.out.2.1 (HT.out.mono HD4.out)).mono ?_
  rintro e w5 ⟨ho, hb5⟩
  obtain ⟨v, rfl, ⟨A5, c5, rfl, hi5⟩, _⟩ := ho.lst
  rw [HN1.out] at hi5 ⊢
  have HI5 := Lib.hid hi5
  have HJ4 := Lib.hid (HI4.out.mono hb5)
  clear ho hi5 hz4 hy4 hv4 x04 x14 x24 y04 y14 y24 HI4
  have HD5 := Lib.hid (bTrans HD4.out hb5)
  have HX5 := Lib.hid (bTrans HX4.out hb5)
  have hz5 := HX5.out.size
  simp only [World.size_alloc] at hz5
  have hy5 : w.heap.size < w5.heap.size := by omega
  have hv5 : w2.heap.size < w5.heap.size := by omega
  have x05 := (HX5.out.cell (p := ⟨w2.heap.size, 0, none⟩) (by show w2.heap.size < _; simp)).trans (show _ = some (.int .i64 t.wells) by simp [go_sem])
  have x15 := (HX5.out.cell (p := ⟨w2.heap.size, 1, none⟩) (by show w2.heap.size < _; simp)).trans (show _ = some (.slice Bw t.nw dw) by simp [go_sem])
  have x25 := (HX5.out.cell (p := ⟨w2.heap.size, 2, none⟩) (by show w2.heap.size < _; simp)).trans (show _ = some (.slice Bf t.nf df) by simp [go_sem])
  have y05 := (HX5.out.cell (p := ⟨w.heap.size, 0, none⟩) (by show w.heap.size < _; simp <;> omega)).trans (HO0.out)
  have y15 := (HX5.out.cell (p := ⟨w.heap.size, 1, none⟩) (by show w.heap.size < _; simp <;> omega)).trans (HO1.out)
  have y25 := (HX5.out.cell (p := ⟨w.heap.size, 2, none⟩) (by show w.heap.size < _; simp <;> omega)).trans (HO2.out)
  clear hb5
  go_wp2_with fail
  refine (outQ_any Bw Bf dw df t world _ HS.out (HQ.out.mono HX5.out)).mono ?_
  rintro e w6 ⟨ho, hb6⟩
  obtain ⟨v, rfl, ⟨A6, c6, rfl, hi6⟩, hl6⟩ := ho.lst
  rw [HN2.out] at hi6 hl6 ⊢
  have HI6 := Lib.hid hi6
  have HL6 := Lib.hid hl6
  have HI4 := Lib.hid (HJ4.out.mono hb6)
  have HJ5 := Lib.hid (HI5.out.mono hb6)
  clear ho hi6 hl6 hz5 hy5 hv5 x05 x15 x25 y05 y15 y25 HJ4 HI5
  have HD6 := Lib.hid (bTrans HD5.out hb6)
  have HX6 := Lib.hid (bTrans HX5.out hb6)
  have hz6 := HX6.out.size
  simp only [World.size_alloc] at hz6
  have hy6 : w.heap.size < w6.heap.size := by omega
  have hv6 : w2.heap.size < w6.heap.size := by omega
  have x06 := (HX6.out.cell (p := ⟨w2.heap.size, 0, none⟩) (by show w2.heap.size < _; simp)).trans (show _ = some (.int .i64 t.wells) by simp [go_sem])
  have x16 := (HX6.out.cell (p := ⟨w2.heap.size, 1, none⟩) (by show w2.heap.size < _; simp)).trans (show _ = some (.slice Bw t.nw dw) by simp [go_sem])
  have x26 := (HX6.out.cell (p := ⟨w2.heap.size, 2, none⟩) (by show w2.heap.size < _; simp)).trans (show _ = some (.slice Bf t.nf df) by simp [go_sem])
  have y06 := (HX6.out.cell (p := ⟨w.heap.size, 0, none⟩) (by show w.heap.size < _; simp <;> omega)).trans (HO0.out)
  have y16 := (HX6.out.cell (p := ⟨w.heap.size, 1, none⟩) (by show w.heap.size < _; simp <;> omega)).trans (HO1.out)
  have y26 := (HX6.out.cell (p := ⟨w.heap.size, 2, none⟩) (by show w.heap.size < _; simp <;> omega)).trans (HO2.out)
  clear hb6
  go_wp2_with fail
  refine (refOut5 Aw Af cw cf t world _ HS.out.1 HS.out.2.1 (HT.out.mono HD6.out)).mono ?_
  rintro e w7 ⟨ho, hb7⟩
  obtain ⟨v, rfl, ⟨A7, c7, rfl, hi7⟩, _⟩ := ho.lst
  rw [HN2.out] at hi7 ⊢
  have HI7 := Lib.hid hi7
  have HJ4 := Lib.hid (HI4.out.mono hb7)
  have HI5 := Lib.hid (HJ5.out.mono hb7)
  have HJ6 := Lib.hid (HI6.out.mono hb7)
  clear ho hi7 hz6 hy6 hv6 x06 x16 x26 y06 y16 y26 HI4 HJ5 HI6
  have HD7 := Lib.hid (bTrans HD6.out hb7)
  have HX7 := Lib.hid (bTrans HX6.out hb7)
  have hz7 := HX7.out.size
  simp only [World.size_alloc] at hz7
  have hy7 : w.heap.size < w7.heap.size := by omega
  have hv7 : w2.heap.size < w7.heap.size := by omega
  have x07 := (HX7.out.cell (p := ⟨w2.heap.size, 0, none⟩) (by show w2.heap.size < _; simp)).trans (show _ = some (.int .i64 t.wells) by simp [go_sem])
  have x17 := (HX7.out.cell (p := ⟨w2.heap.size, 1, none⟩) (by show w2.heap.size < _; simp)).trans (show _ = some (.slice Bw t.nw dw) by simp [go_sem])
  have x27 := (HX7.out.cell (p := ⟨w2.heap.size, 2, none⟩) (by show w2.heap.size < _; simp)).trans (show _ = some (.slice Bf t.nf df) by simp [go_sem])
  have y07 := (HX7.out.cell (p := ⟨w.heap.size, 0, none⟩) (by show w.heap.size < _; simp <;> omega)).trans (HO0.out)
  have y17 := (HX7.out.cell (p := ⟨w.heap.size, 1, none⟩) (by show w.heap.size < _; simp <;> omega)).trans (HO1.out)
  have y27 := (HX7.out.cell (p := ⟨w.heap.size, 2, none⟩) (by show w.heap.size < _; simp <;> omega)).trans (HO2.out)
  clear hb7
  go_wp2_with fail
  refine (sameInts_same A4 A5 n1 c4 c5 _ _ HL4.out HJ4.out HI5.out).mono ?_
  rintro e w8 ⟨rfl, hb8⟩
  have HI6 := Lib.hid (HJ6.out.mono hb8)
  have HJ7 := Lib.hid (HI7.out.mono hb8)
  clear hz7 hy7 hv7 x07 x17 x27 y07 y17 y27 HJ4 HI5 HJ6 HI7
  have HD8 := Lib.hid (bTrans HD7.out hb8)
  have HX8 := Lib.hid (bTrans HX7.out hb8)
  have hz8 := HX8.out.size
  simp only [World.size_alloc] at hz8
  have hy8 : w.heap.size < w8.heap.size := by omega
  have hv8 : w2.heap.size < w8.heap.size := by omega
  have x08 := (HX8.out.cell (p := ⟨w2.heap.size, 0, none⟩) (by show w2.heap.size < _; simp)).trans (show _ = some (.int .i64 t.wells) by simp [go_sem])
  have x18 := (HX8.out.cell (p := ⟨w2.heap.size, 1, none⟩) (by show w2.heap.size < _; simp)).trans (show _ = some (.slice Bw t.nw dw) by simp [go_sem])
  have x28 := (HX8.out.cell (p := ⟨w2.heap.size, 2, none⟩) (by show w2.heap.size < _; simp)).trans (show _ = some (.slice Bf t.nf df) by simp [go_sem])
  have y08 := (HX8.out.cell (p := ⟨w.heap.size, 0, none⟩) (by show w.heap.size < _; simp <;> omega)).trans (HO0.out)
  have y18 := (HX8.out.cell (p := ⟨w.heap.size, 1, none⟩) (by show w.heap.size < _; simp <;> omega)).trans (HO1.out)
  have y28 := (HX8.out.cell (p := ⟨w.heap.size, 2, none⟩) (by show w.heap.size < _; simp <;> omega)).trans (HO2.out)
  clear hb8
  go_wp2_with fail
  refine (sameInts_same A6 A7 n2 c6 c7 _ _ HL6.out HI6.out HJ7.out).mono ?_
  rintro e w9 ⟨rfl, hb9⟩
  clear hz8 hy8 hv8 x08 x18 x28 y08 y18 y28 HI6 HJ7
  have HD9 := Lib.hid (bTrans HD8.out hb9)
  have HX9 := Lib.hid (bTrans HX8.out hb9)
  have hz9 := HX9.out.size
  simp only [World.size_alloc] at hz9
  have hy9 : w.heap.size < w9.heap.size := by omega
  have hv9 : w2.heap.size < w9.heap.size := by omega
  have x09 := (HX9.out.cell (p := ⟨w2.heap.size, 0, none⟩) (by show w2.heap.size < _; simp)).trans (show _ = some (.int .i64 t.wells) by simp [go_sem])
  have x19 := (HX9.out.cell (p := ⟨w2.heap.size, 1, none⟩) (by show w2.heap.size < _; simp)).trans (show _ = some (.slice Bw t.nw dw) by simp [go_sem])
  have x29 := (HX9.out.cell (p := ⟨w2.heap.size, 2, none⟩) (by show w2.heap.size < _; simp)).trans (show _ = some (.slice Bf t.nf df) by simp [go_sem])
  have y09 := (HX9.out.cell (p := ⟨w.heap.size, 0, none⟩) (by show w.heap.size < _; simp <;> omega)).trans (HO0.out)
  have y19 := (HX9.out.cell (p := ⟨w.heap.size, 1, none⟩) (by show w.heap.size < _; simp <;> omega)).trans (HO1.out)
  have y29 := (HX9.out.cell (p := ⟨w.heap.size, 2, none⟩) (by show w.heap.size < _; simp <;> omega)).trans (HO2.out)
  clear hb9
  go_wp2_with fail
  refine (same5_any Bw Bf Aw Af dw df cw cf t _ HS.out (HQ.out.mono HX9.out) (HT.out.mono HD9.out)).mono ?_
  rintro e w10 ⟨rfl, hb10⟩
  clear hz9 hy9 hv9 x09 x19 x29 y09 y19 y29
  have HD10 := Lib.hid (bTrans HD9.out hb10)
  have HX10 := Lib.hid (bTrans HX9.out hb10)
  have hz10 := HX10.out.size
  simp only [World.size_alloc] at hz10
  have hy10 : w.heap.size < w10.heap.size := by omega
  have hv10 : w2.heap.size < w10.heap.size := by omega
  have x010 := (HX10.out.cell (p := ⟨w2.heap.size, 0, none⟩) (by show w2.heap.size < _; simp)).trans (show _ = some (.int .i64 t.wells) by simp [go_sem])
  have x110 := (HX10.out.cell (p := ⟨w2.heap.size, 1, none⟩) (by show w2.heap.size < _; simp)).trans (show _ = some (.slice Bw t.nw dw) by simp [go_sem])
  have x210 := (HX10.out.cell (p := ⟨w2.heap.size, 2, none⟩) (by show w2.heap.size < _; simp)).trans (show _ = some (.slice Bf t.nf df) by simp [go_sem])
  have y010 := (HX10.out.cell (p := ⟨w.heap.size, 0, none⟩) (by show w.heap.size < _; simp <;> omega)).trans (HO0.out)
  have y110 := (HX10.out.cell (p := ⟨w.heap.size, 1, none⟩) (by show w.heap.size < _; simp <;> omega)).trans (HO1.out)
  have y210 := (HX10.out.cell (p := ⟨w.heap.size, 2, none⟩) (by show w.heap.size < _; simp <;> omega)).trans (HO2.out)
  clear hb10
  go_wp2_with fail
  refine (works5_any _ (HTB.out.mono HD10.out)).mono ?_
  rintro e w99 ⟨rfl, hb99⟩
  go_wp2_with fail
  go_ret
  exact ⟨rfl, bTrans HB.out (bTrans (HD10.out) hb99)⟩
end Go.Proofs.YtchhodikgllgnaaDoor
