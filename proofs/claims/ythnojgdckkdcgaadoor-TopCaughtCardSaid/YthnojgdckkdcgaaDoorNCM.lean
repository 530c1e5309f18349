/- Parts joined: what all claims of this seat need. -/
import Derived.Test.YthnojgdckkdcgaaDoorNCK
import Derived.Test.YthnojgdckkdcgaaDoorNCL
import Derived.Test.YthnojgdckkdcgaaDoorNCB
import Derived.Test.YthnojgdckkdcgaaDoorNCI
import Derived.Test.YthnojgdckkdcgaaDoorNCJ
import Derived.Test.YthnojgdckkdcgaaDoorNCE
import Derived.Test.YthnojgdckkdcgaaDoorNCG
import Derived.Test.YthnojgdckkdcgaaDoorNCD
import Derived.Test.YthnojgdckkdcgaaDoorNCH
set_option linter.unusedSimpArgs false
set_option linter.unusedVariables false
namespace Go.Proofs.YthnojgdckkdcgaaDoor
open Go.RowKit Go.Sort
def exWd (i : Nat) : Wd := ⟨2, fun _ => 2, fun k j => if k = 0 then (if j = 0 then 3 else if i = 1 then 2 else 1) else (if j = 0 then (if i = 0 then 0 else if i = 1 then 1 else 2) else 2)⟩
def exG : Qt := ⟨2, 3, exWd, 0, fun _ => ⟨0, 0, 0, 0, 0⟩⟩
def exF : Fact := ⟨0, 2, 1, 2, 3⟩
def exE : Qt := exG.add exF
theorem exWd_ok (i : Nat) : (exWd i).Ok 2 :=
  ⟨rfl, fun _ _ => rfl, fun k _ j _ => by
    unfold exWd
    simp only
    repeat' split
    all_goals omega⟩
theorem exG_ok : exG.Ok := ⟨by decide, by decide, by decide, by decide, fun i _ => exWd_ok i, fun i hi => absurd hi (Nat.not_lt_zero _)⟩
theorem exG_left : exG.leftL = [0, 1, 2] := by decide +kernel
theorem exG_know : exG.knowErr true = 0 := knowErr_ok exG_ok (by rw [exG_left]; decide)
theorem exG_fits : exG.Fits := ⟨by decide, by decide, fun i _ => ⟨by show 2 * 24 ≤ _; decide, fun k _ => by show 2 * 8 ≤ _; decide⟩⟩
theorem ex_depth : exG.depth exG.leftL = 1 := by decide +kernel
theorem ints2 {w : World} {b : Nat} {g : Nat → Int} (hl : b < w.heap.size) (h0 : w.cell? ⟨b, 0, none⟩ = some (.int .i64 (g 0))) (h1 : w.cell? ⟨b, 1, none⟩ = some (.int .i64 (g 1))) : IntsAt w (some ⟨b, 0, none⟩) 2 g :=
  .inr ⟨b, 0, rfl, hl, fun i hi => match i, hi with
    | 0, _ => h0
    | 1, _ => h1
    | n + 2, hi => absurd hi (by omega)⟩
theorem rows2 {w : World} {b b0 b1 : Nat} (i : Nat) (hl : b < w.heap.size) (h0 : w.cell? ⟨b, 0, none⟩ = some (.slice (some ⟨b0, 0, none⟩) 2 2)) (h1 : w.cell? ⟨b, 1, none⟩ = some (.slice (some ⟨b1, 0, none⟩) 2 2)) (i0 : IntsAt w (some ⟨b0, 0, none⟩) 2 ((exWd i).fall 0)) (i1 : IntsAt w (some ⟨b1, 0, none⟩) 2 ((exWd i).fall 1)) : RowsAt w (some ⟨b, 0, none⟩) (exWd i) :=
  .inr ⟨b, 0, rfl, hl, fun k hk => match k, hk with
    | 0, _ => ⟨_, 2, h0, i0, by show (2 : Nat) ≤ _; decide⟩
    | 1, _ => ⟨_, 2, h1, i1, by show (2 : Nat) ≤ _; decide⟩
    | n + 2, hk => absurd hk (by show ¬ n + 2 < 2; omega)⟩
theorem worlds3 {w : World} {b b0 b1 b2 : Nat} (hl : b < w.heap.size) (h0 : w.cell? ⟨b, 0, none⟩ = some (.slice (some ⟨b0, 0, none⟩) 2 2)) (h1 : w.cell? ⟨b, 1, none⟩ = some (.slice (some ⟨b1, 0, none⟩) 2 2)) (h2 : w.cell? ⟨b, 2, none⟩ = some (.slice (some ⟨b2, 0, none⟩) 2 2)) (r0 : RowsAt w (some ⟨b0, 0, none⟩) (exWd 0)) (r1 : RowsAt w (some ⟨b1, 0, none⟩) (exWd 1)) (r2 : RowsAt w (some ⟨b2, 0, none⟩) (exWd 2)) : QAt w (some ⟨b, 0, none⟩) none exG :=
  ⟨.inr ⟨b, 0, rfl, hl, fun i hi => match i, hi with
    | 0, _ => ⟨_, 2, h0, r0, by show (2 : Nat) ≤ _; decide⟩
    | 1, _ => ⟨_, 2, h1, r1, by show (2 : Nat) ≤ _; decide⟩
    | 2, _ => ⟨_, 2, h2, r2, by show (2 : Nat) ≤ _; decide⟩
    | n + 3, hi => absurd hi (by show ¬ n + 3 < 3; omega)⟩, .inl rfl⟩
set_option maxHeartbeats 4000000 in
theorem exG_at (w : World) : ∀ w' : World, (∀ b, w.heap.size + 2 ≤ b → b < ((((((((((((w.alloc (.cells #[.int .i64 0, .slice none 0 0, .slice none 0 0] 39)).alloc (.cells #[.int .i64 2, .slice (some ⟨w.heap.size + 1 + 1 + 1 + 1 + 1 + 1 + 1 + 1 + 1 + 1 + 1, 0, none⟩) 3 3, .slice none 0 0] 39)).alloc (.cells #[.int .i64 3, .int .i64 1] 3)).alloc (.cells #[.int .i64 0, .int .i64 2] 3)).alloc (.cells #[.slice (some ⟨w.heap.size + 1 + 1, 0, none⟩) 2 2, .slice (some ⟨w.heap.size + 1 + 1 + 1, 0, none⟩) 2 2] 23)).alloc (.cells #[.int .i64 3, .int .i64 2] 3)).alloc (.cells #[.int .i64 1, .int .i64 2] 3)).alloc (.cells #[.slice (some ⟨w.heap.size + 1 + 1 + 1 + 1 + 1, 0, none⟩) 2 2, .slice (some ⟨w.heap.size + 1 + 1 + 1 + 1 + 1 + 1, 0, none⟩) 2 2] 23)).alloc (.cells #[.int .i64 3, .int .i64 1] 3)).alloc (.cells #[.int .i64 2, .int .i64 2] 3)).alloc (.cells #[.slice (some ⟨w.heap.size + 1 + 1 + 1 + 1 + 1 + 1 + 1 + 1, 0, none⟩) 2 2, .slice (some ⟨w.heap.size + 1 + 1 + 1 + 1 + 1 + 1 + 1 + 1 + 1, 0, none⟩) 2 2] 23)).alloc (.cells #[.slice (some ⟨w.heap.size + 1 + 1 + 1 + 1, 0, none⟩) 2 2, .slice (some ⟨w.heap.size + 1 + 1 + 1 + 1 + 1 + 1 + 1, 0, none⟩) 2 2, .slice (some ⟨w.heap.size + 1 + 1 + 1 + 1 + 1 + 1 + 1 + 1 + 1 + 1, 0, none⟩) 2 2] 60)).heap.size → w'.heap[b]? = ((((((((((((w.alloc (.cells #[.int .i64 0, .slice none 0 0, .slice none 0 0] 39)).alloc (.cells #[.int .i64 2, .slice (some ⟨w.heap.size + 1 + 1 + 1 + 1 + 1 + 1 + 1 + 1 + 1 + 1 + 1, 0, none⟩) 3 3, .slice none 0 0] 39)).alloc (.cells #[.int .i64 3, .int .i64 1] 3)).alloc (.cells #[.int .i64 0, .int .i64 2] 3)).alloc (.cells #[.slice (some ⟨w.heap.size + 1 + 1, 0, none⟩) 2 2, .slice (some ⟨w.heap.size + 1 + 1 + 1, 0, none⟩) 2 2] 23)).alloc (.cells #[.int .i64 3, .int .i64 2] 3)).alloc (.cells #[.int .i64 1, .int .i64 2] 3)).alloc (.cells #[.slice (some ⟨w.heap.size + 1 + 1 + 1 + 1 + 1, 0, none⟩) 2 2, .slice (some ⟨w.heap.size + 1 + 1 + 1 + 1 + 1 + 1, 0, none⟩) 2 2] 23)).alloc (.cells #[.int .i64 3, .int .i64 1] 3)).alloc (.cells #[.int .i64 2, .int .i64 2] 3)).alloc (.cells #[.slice (some ⟨w.heap.size + 1 + 1 + 1 + 1 + 1 + 1 + 1 + 1, 0, none⟩) 2 2, .slice (some ⟨w.heap.size + 1 + 1 + 1 + 1 + 1 + 1 + 1 + 1 + 1, 0, none⟩) 2 2] 23)).alloc (.cells #[.slice (some ⟨w.heap.size + 1 + 1 + 1 + 1, 0, none⟩) 2 2, .slice (some ⟨w.heap.size + 1 + 1 + 1 + 1 + 1 + 1 + 1, 0, none⟩) 2 2, .slice (some ⟨w.heap.size + 1 + 1 + 1 + 1 + 1 + 1 + 1 + 1 + 1 + 1, 0, none⟩) 2 2] 60)).heap[b]?) → ((((((((((((w.alloc (.cells #[.int .i64 0, .slice none 0 0, .slice none 0 0] 39)).alloc (.cells #[.int .i64 2, .slice (some ⟨w.heap.size + 1 + 1 + 1 + 1 + 1 + 1 + 1 + 1 + 1 + 1 + 1, 0, none⟩) 3 3, .slice none 0 0] 39)).alloc (.cells #[.int .i64 3, .int .i64 1] 3)).alloc (.cells #[.int .i64 0, .int .i64 2] 3)).alloc (.cells #[.slice (some ⟨w.heap.size + 1 + 1, 0, none⟩) 2 2, .slice (some ⟨w.heap.size + 1 + 1 + 1, 0, none⟩) 2 2] 23)).alloc (.cells #[.int .i64 3, .int .i64 2] 3)).alloc (.cells #[.int .i64 1, .int .i64 2] 3)).alloc (.cells #[.slice (some ⟨w.heap.size + 1 + 1 + 1 + 1 + 1, 0, none⟩) 2 2, .slice (some ⟨w.heap.size + 1 + 1 + 1 + 1 + 1 + 1, 0, none⟩) 2 2] 23)).alloc (.cells #[.int .i64 3, .int .i64 1] 3)).alloc (.cells #[.int .i64 2, .int .i64 2] 3)).alloc (.cells #[.slice (some ⟨w.heap.size + 1 + 1 + 1 + 1 + 1 + 1 + 1 + 1, 0, none⟩) 2 2, .slice (some ⟨w.heap.size + 1 + 1 + 1 + 1 + 1 + 1 + 1 + 1 + 1, 0, none⟩) 2 2] 23)).alloc (.cells #[.slice (some ⟨w.heap.size + 1 + 1 + 1 + 1, 0, none⟩) 2 2, .slice (some ⟨w.heap.size + 1 + 1 + 1 + 1 + 1 + 1 + 1, 0, none⟩) 2 2, .slice (some ⟨w.heap.size + 1 + 1 + 1 + 1 + 1 + 1 + 1 + 1 + 1 + 1, 0, none⟩) 2 2] 60)).heap.size ≤ w'.heap.size → QAt w' (some ⟨w.heap.size + 1 + 1 + 1 + 1 + 1 + 1 + 1 + 1 + 1 + 1 + 1, 0, none⟩) none exG := by
  intro w' hk hs
  simp only [World.size_alloc] at hs
  have c2_0 : w'.cell? ⟨w.heap.size + 1 + 1, 0, none⟩ = some (.int .i64 3) := (cell_of_heap (hk (w.heap.size + 1 + 1) (by omega) (by simp <;> omega)) 0).trans (by simp [go_sem])
  have c2_1 : w'.cell? ⟨w.heap.size + 1 + 1, 1, none⟩ = some (.int .i64 1) := (cell_of_heap (hk (w.heap.size + 1 + 1) (by omega) (by simp <;> omega)) 1).trans (by simp [go_sem])
  have c3_0 : w'.cell? ⟨w.heap.size + 1 + 1 + 1, 0, none⟩ = some (.int .i64 0) := (cell_of_heap (hk (w.heap.size + 1 + 1 + 1) (by omega) (by simp <;> omega)) 0).trans (by simp [go_sem])
  have c3_1 : w'.cell? ⟨w.heap.size + 1 + 1 + 1, 1, none⟩ = some (.int .i64 2) := (cell_of_heap (hk (w.heap.size + 1 + 1 + 1) (by omega) (by simp <;> omega)) 1).trans (by simp [go_sem])
  have c4_0 : w'.cell? ⟨w.heap.size + 1 + 1 + 1 + 1, 0, none⟩ = some (.slice (some ⟨w.heap.size + 1 + 1, 0, none⟩) 2 2) := (cell_of_heap (hk (w.heap.size + 1 + 1 + 1 + 1) (by omega) (by simp <;> omega)) 0).trans (by simp [go_sem])
  have c4_1 : w'.cell? ⟨w.heap.size + 1 + 1 + 1 + 1, 1, none⟩ = some (.slice (some ⟨w.heap.size + 1 + 1 + 1, 0, none⟩) 2 2) := (cell_of_heap (hk (w.heap.size + 1 + 1 + 1 + 1) (by omega) (by simp <;> omega)) 1).trans (by simp [go_sem])
  have c5_0 : w'.cell? ⟨w.heap.size + 1 + 1 + 1 + 1 + 1, 0, none⟩ = some (.int .i64 3) := (cell_of_heap (hk (w.heap.size + 1 + 1 + 1 + 1 + 1) (by omega) (by simp <;> omega)) 0).trans (by simp [go_sem])
  have c5_1 : w'.cell? ⟨w.heap.size + 1 + 1 + 1 + 1 + 1, 1, none⟩ = some (.int .i64 2) := (cell_of_heap (hk (w.heap.size + 1 + 1 + 1 + 1 + 1) (by omega) (by simp <;> omega)) 1).trans (by simp [go_sem])
  have c6_0 : w'.cell? ⟨w.heap.size + 1 + 1 + 1 + 1 + 1 + 1, 0, none⟩ = some (.int .i64 1) := (cell_of_heap (hk (w.heap.size + 1 + 1 + 1 + 1 + 1 + 1) (by omega) (by simp <;> omega)) 0).trans (by simp [go_sem])
  have c6_1 : w'.cell? ⟨w.heap.size + 1 + 1 + 1 + 1 + 1 + 1, 1, none⟩ = some (.int .i64 2) := (cell_of_heap (hk (w.heap.size + 1 + 1 + 1 + 1 + 1 + 1) (by omega) (by simp <;> omega)) 1).trans (by simp [go_sem])
  have c7_0 : w'.cell? ⟨w.heap.size + 1 + 1 + 1 + 1 + 1 + 1 + 1, 0, none⟩ = some (.slice (some ⟨w.heap.size + 1 + 1 + 1 + 1 + 1, 0, none⟩) 2 2) := (cell_of_heap (hk (w.heap.size + 1 + 1 + 1 + 1 + 1 + 1 + 1) (by omega) (by simp <;> omega)) 0).trans (by simp [go_sem])
  have c7_1 : w'.cell? ⟨w.heap.size + 1 + 1 + 1 + 1 + 1 + 1 + 1, 1, none⟩ = some (.slice (some ⟨w.heap.size + 1 + 1 + 1 + 1 + 1 + 1, 0, none⟩) 2 2) := (cell_of_heap (hk (w.heap.size + 1 + 1 + 1 + 1 + 1 + 1 + 1) (by omega) (by simp <;> omega)) 1).trans (by simp [go_sem])
  have c8_0 : w'.cell? ⟨w.heap.size + 1 + 1 + 1 + 1 + 1 + 1 + 1 + 1, 0, none⟩ = some (.int .i64 3) := (cell_of_heap (hk (w.heap.size + 1 + 1 + 1 + 1 + 1 + 1 + 1 + 1) (by omega) (by simp <;> omega)) 0).trans (by simp [go_sem])
  have c8_1 : w'.cell? ⟨w.heap.size + 1 + 1 + 1 + 1 + 1 + 1 + 1 + 1, 1, none⟩ = some (.int .i64 1) := (cell_of_heap (hk (w.heap.size + 1 + 1 + 1 + 1 + 1 + 1 + 1 + 1) (by omega) (by simp <;> omega)) 1).trans (by simp [go_sem])
  have c9_0 : w'.cell? ⟨w.heap.size + 1 + 1 + 1 + 1 + 1 + 1 + 1 + 1 + 1, 0, none⟩ = some (.int .i64 2) := (cell_of_heap (hk (w.heap.size + 1 + 1 + 1 + 1 + 1 + 1 + 1 + 1 + 1) (by omega) (by simp <;> omega)) 0).trans (by simp [go_sem])
  have c9_1 : w'.cell? ⟨w.heap.size + 1 + 1 + 1 + 1 + 1 + 1 + 1 + 1 + 1, 1, none⟩ = some (.int .i64 2) := (cell_of_heap (hk (w.heap.size + 1 + 1 + 1 + 1 + 1 + 1 + 1 + 1 + 1) (by omega) (by simp <;> omega)) 1).trans (by simp [go_sem])
  have c10_0 : w'.cell? ⟨w.heap.size + 1 + 1 + 1 + 1 + 1 + 1 + 1 + 1 + 1 + 1, 0, none⟩ = some (.slice (some ⟨w.heap.size + 1 + 1 + 1 + 1 + 1 + 1 + 1 + 1, 0, none⟩) 2 2) := (cell_of_heap (hk (w.heap.size + 1 + 1 + 1 + 1 + 1 + 1 + 1 + 1 + 1 + 1) (by omega) (by simp <;> omega)) 0).trans (by simp [go_sem])
  have c10_1 : w'.cell? ⟨w.heap.size + 1 + 1 + 1 + 1 + 1 + 1 + 1 + 1 + 1 + 1, 1, none⟩ = some (.slice (some ⟨w.heap.size + 1 + 1 + 1 + 1 + 1 + 1 + 1 + 1 + 1, 0, none⟩) 2 2) := (cell_of_heap (hk (w.heap.size + 1 + 1 + 1 + 1 + 1 + 1 + 1 + 1 + 1 + 1) (by omega) (by simp <;> omega)) 1).trans (by simp [go_sem])
  have c11_0 : w'.cell? ⟨w.heap.size + 1 + 1 + 1 + 1 + 1 + 1 + 1 + 1 + 1 + 1 + 1, 0, none⟩ = some (.slice (some ⟨w.heap.size + 1 + 1 + 1 + 1, 0, none⟩) 2 2) := (cell_of_heap (hk (w.heap.size + 1 + 1 + 1 + 1 + 1 + 1 + 1 + 1 + 1 + 1 + 1) (by omega) (by simp <;> omega)) 0).trans (by simp [go_sem])
  have c11_1 : w'.cell? ⟨w.heap.size + 1 + 1 + 1 + 1 + 1 + 1 + 1 + 1 + 1 + 1 + 1, 1, none⟩ = some (.slice (some ⟨w.heap.size + 1 + 1 + 1 + 1 + 1 + 1 + 1, 0, none⟩) 2 2) := (cell_of_heap (hk (w.heap.size + 1 + 1 + 1 + 1 + 1 + 1 + 1 + 1 + 1 + 1 + 1) (by omega) (by simp <;> omega)) 1).trans (by simp [go_sem])
  have c11_2 : w'.cell? ⟨w.heap.size + 1 + 1 + 1 + 1 + 1 + 1 + 1 + 1 + 1 + 1 + 1, 2, none⟩ = some (.slice (some ⟨w.heap.size + 1 + 1 + 1 + 1 + 1 + 1 + 1 + 1 + 1 + 1, 0, none⟩) 2 2) := (cell_of_heap (hk (w.heap.size + 1 + 1 + 1 + 1 + 1 + 1 + 1 + 1 + 1 + 1 + 1) (by omega) (by simp <;> omega)) 2).trans (by simp [go_sem])
  have l2 : w.heap.size + 1 + 1 < w'.heap.size := by omega
  have l3 : w.heap.size + 1 + 1 + 1 < w'.heap.size := by omega
  have l4 : w.heap.size + 1 + 1 + 1 + 1 < w'.heap.size := by omega
  have l5 : w.heap.size + 1 + 1 + 1 + 1 + 1 < w'.heap.size := by omega
  have l6 : w.heap.size + 1 + 1 + 1 + 1 + 1 + 1 < w'.heap.size := by omega
  have l7 : w.heap.size + 1 + 1 + 1 + 1 + 1 + 1 + 1 < w'.heap.size := by omega
  have l8 : w.heap.size + 1 + 1 + 1 + 1 + 1 + 1 + 1 + 1 < w'.heap.size := by omega
  have l9 : w.heap.size + 1 + 1 + 1 + 1 + 1 + 1 + 1 + 1 + 1 < w'.heap.size := by omega
  have l10 : w.heap.size + 1 + 1 + 1 + 1 + 1 + 1 + 1 + 1 + 1 + 1 < w'.heap.size := by omega
  have l11 : w.heap.size + 1 + 1 + 1 + 1 + 1 + 1 + 1 + 1 + 1 + 1 + 1 < w'.heap.size := by omega
  exact worlds3 l11 c11_0 c11_1 c11_2 (rows2 0 l4 c4_0 c4_1 (ints2 l2 c2_0 c2_1) (ints2 l3 c3_0 c3_1)) (rows2 1 l7 c7_0 c7_1 (ints2 l5 c5_0 c5_1) (ints2 l6 c6_0 c6_1)) (rows2 2 l10 c10_0 c10_1 (ints2 l8 c8_0 c8_1) (ints2 l9 c9_0 c9_1))
/-- a town of the call's own, as a value -/
def twcS (m : Int) (n k : Nat) (v : Value) : Prop := ∃ (Aw : Option Addr) (cw : Nat) (Af : Option Addr) (cf : Nat), v = .agg #[.int .i64 m, .slice Aw n cw, .slice Af k cf]
def twcR (N : Nat) (t : Qt) (w : World) (v : Value) : Prop := ∀ vW vF, v = .agg #[.int .i64 t.wells, vW, vF] → CopyAt w N vW vF t
theorem twcG {N : Nat} {t : Qt} {m : Int} {n k : Nat} : (Stir.held (twcS m n k) (twcR N t)).good := ⟨⟨_, none, 0, none, 0, rfl⟩, fun _ _ _ hb h vW vF e => (h vW vF e).mono hb⟩
theorem CopyAt.kept {l : List TypeId} {w w' : World} {base : Nat} {vW vF : Value} {t : Qt} (h : CopyAt w base vW vF t) (hk : Kept l w w') (h1 : 3 ∈ l) (h2 : 23 ∈ l) (h3 : 60 ∈ l) (h4 : 63 ∈ l) : CopyAt w' base vW vF t := by
  obtain ⟨⟨us, a, b⟩, c⟩ := h
  exact ⟨⟨us, owns_kept a hk h3, b.kept hk h1 h2⟩, owns_kept c hk h4⟩
theorem CopyOut.twc {w : World} {base N : Nat} {t : Qt} {e : Ending} (h : CopyOut w base t e) (hN : N ≤ base) : ∃ v, e = .returned v ∧ twcS t.wells t.nw t.nf v ∧ twcR N t w v := by
  obtain ⟨vW, vF, rfl, hc⟩ := h
  obtain ⟨Aw, cw, Af, cf, e1, e2, _⟩ := hc.qat
  refine ⟨_, rfl, ⟨Aw, cw, Af, cf, by rw [e1, e2]⟩, fun vW' vF' e => ?_⟩
  simp only [Value.agg.injEq, Array.mk.injEq, List.cons.injEq, and_true, true_and] at e
  obtain ⟨rfl, rfl⟩ := e
  exact hc.lower hN
def ExOut (w : World) (e : Ending) : Prop := ∃ (Aw : Option Addr) (cw : Nat) (Af : Option Addr) (cf : Nat) (Bw : Option Addr) (dw : Nat), e = .returned (.tuple #[.agg #[.int .i64 2, .slice Aw 3 cw, .slice Af 1 cf], .agg #[.int .i64 2, .slice Bw 3 dw, .slice none 0 0]]) ∧ QAt w Aw Af exE ∧ QAt w Bw none exG
set_option maxHeartbeats 4000000 in
set_option maxRecDepth 100000 in
theorem example5_any (w : World) : Calls Tryd.prog 19 #[] w fun e w' => ExOut w' e ∧ Below w.heap.size w w' := by
  go_enter Tryd.func19, Tryd.ntmps19
  go_wp2_with fail
  have hQ := exG_at w
  have hB : Below w.heap.size w ((((((((((((w.alloc (.cells #[.int .i64 0, .slice none 0 0, .slice none 0 0] 39)).alloc (.cells #[.int .i64 2, .slice (some ⟨w.heap.size + 1 + 1 + 1 + 1 + 1 + 1 + 1 + 1 + 1 + 1 + 1, 0, none⟩) 3 3, .slice none 0 0] 39)).alloc (.cells #[.int .i64 3, .int .i64 1] 3)).alloc (.cells #[.int .i64 0, .int .i64 2] 3)).alloc (.cells #[.slice (some ⟨w.heap.size + 1 + 1, 0, none⟩) 2 2, .slice (some ⟨w.heap.size + 1 + 1 + 1, 0, none⟩) 2 2] 23)).alloc (.cells #[.int .i64 3, .int .i64 2] 3)).alloc (.cells #[.int .i64 1, .int .i64 2] 3)).alloc (.cells #[.slice (some ⟨w.heap.size + 1 + 1 + 1 + 1 + 1, 0, none⟩) 2 2, .slice (some ⟨w.heap.size + 1 + 1 + 1 + 1 + 1 + 1, 0, none⟩) 2 2] 23)).alloc (.cells #[.int .i64 3, .int .i64 1] 3)).alloc (.cells #[.int .i64 2, .int .i64 2] 3)).alloc (.cells #[.slice (some ⟨w.heap.size + 1 + 1 + 1 + 1 + 1 + 1 + 1 + 1, 0, none⟩) 2 2, .slice (some ⟨w.heap.size + 1 + 1 + 1 + 1 + 1 + 1 + 1 + 1 + 1, 0, none⟩) 2 2] 23)).alloc (.cells #[.slice (some ⟨w.heap.size + 1 + 1 + 1 + 1, 0, none⟩) 2 2, .slice (some ⟨w.heap.size + 1 + 1 + 1 + 1 + 1 + 1 + 1, 0, none⟩) 2 2, .slice (some ⟨w.heap.size + 1 + 1 + 1 + 1 + 1 + 1 + 1 + 1 + 1 + 1, 0, none⟩) 2 2] 60)) := by (repeat (first | (with_reducible exact Below.refl _ _) | (with_reducible refine bAlloc ?_ _) | (with_reducible refine bDrew ?_) | (with_reducible refine bGrow ?_ _ _) | (with_reducible refine bSet ?_ ?_ _; (first | exact Nat.le_refl _ | exact Nat.le_add_right _ _ | (simp; omega))) | (with_reducible refine bTrans ?_ (by assumption))))
  have hT0 : TBox ((((((((((((w.alloc (.cells #[.int .i64 0, .slice none 0 0, .slice none 0 0] 39)).alloc (.cells #[.int .i64 2, .slice (some ⟨w.heap.size + 1 + 1 + 1 + 1 + 1 + 1 + 1 + 1 + 1 + 1 + 1, 0, none⟩) 3 3, .slice none 0 0] 39)).alloc (.cells #[.int .i64 3, .int .i64 1] 3)).alloc (.cells #[.int .i64 0, .int .i64 2] 3)).alloc (.cells #[.slice (some ⟨w.heap.size + 1 + 1, 0, none⟩) 2 2, .slice (some ⟨w.heap.size + 1 + 1 + 1, 0, none⟩) 2 2] 23)).alloc (.cells #[.int .i64 3, .int .i64 2] 3)).alloc (.cells #[.int .i64 1, .int .i64 2] 3)).alloc (.cells #[.slice (some ⟨w.heap.size + 1 + 1 + 1 + 1 + 1, 0, none⟩) 2 2, .slice (some ⟨w.heap.size + 1 + 1 + 1 + 1 + 1 + 1, 0, none⟩) 2 2] 23)).alloc (.cells #[.int .i64 3, .int .i64 1] 3)).alloc (.cells #[.int .i64 2, .int .i64 2] 3)).alloc (.cells #[.slice (some ⟨w.heap.size + 1 + 1 + 1 + 1 + 1 + 1 + 1 + 1, 0, none⟩) 2 2, .slice (some ⟨w.heap.size + 1 + 1 + 1 + 1 + 1 + 1 + 1 + 1 + 1, 0, none⟩) 2 2] 23)).alloc (.cells #[.slice (some ⟨w.heap.size + 1 + 1 + 1 + 1, 0, none⟩) 2 2, .slice (some ⟨w.heap.size + 1 + 1 + 1 + 1 + 1 + 1 + 1, 0, none⟩) 2 2, .slice (some ⟨w.heap.size + 1 + 1 + 1 + 1 + 1 + 1 + 1 + 1 + 1 + 1, 0, none⟩) 2 2] 60)) w.heap.size 39 #[.int .i64 0, .slice none 0 0, .slice none 0 0] := TBox.mono (TBox.new w #[.int .i64 0, .slice none 0 0, .slice none 0 0] 39) (by (repeat (first | (with_reducible exact Below.refl _ _) | (with_reducible refine bAlloc ?_ _) | (with_reducible refine bDrew ?_) | (with_reducible refine bGrow ?_ _ _) | (with_reducible refine bSet ?_ ?_ _; (first | exact Nat.le_refl _ | exact Nat.le_add_right _ _ | (simp; omega))) | (with_reducible refine bTrans ?_ (by assumption)))))
  have hT1 : TBox ((((((((((((w.alloc (.cells #[.int .i64 0, .slice none 0 0, .slice none 0 0] 39)).alloc (.cells #[.int .i64 2, .slice (some ⟨w.heap.size + 1 + 1 + 1 + 1 + 1 + 1 + 1 + 1 + 1 + 1 + 1, 0, none⟩) 3 3, .slice none 0 0] 39)).alloc (.cells #[.int .i64 3, .int .i64 1] 3)).alloc (.cells #[.int .i64 0, .int .i64 2] 3)).alloc (.cells #[.slice (some ⟨w.heap.size + 1 + 1, 0, none⟩) 2 2, .slice (some ⟨w.heap.size + 1 + 1 + 1, 0, none⟩) 2 2] 23)).alloc (.cells #[.int .i64 3, .int .i64 2] 3)).alloc (.cells #[.int .i64 1, .int .i64 2] 3)).alloc (.cells #[.slice (some ⟨w.heap.size + 1 + 1 + 1 + 1 + 1, 0, none⟩) 2 2, .slice (some ⟨w.heap.size + 1 + 1 + 1 + 1 + 1 + 1, 0, none⟩) 2 2] 23)).alloc (.cells #[.int .i64 3, .int .i64 1] 3)).alloc (.cells #[.int .i64 2, .int .i64 2] 3)).alloc (.cells #[.slice (some ⟨w.heap.size + 1 + 1 + 1 + 1 + 1 + 1 + 1 + 1, 0, none⟩) 2 2, .slice (some ⟨w.heap.size + 1 + 1 + 1 + 1 + 1 + 1 + 1 + 1 + 1, 0, none⟩) 2 2] 23)).alloc (.cells #[.slice (some ⟨w.heap.size + 1 + 1 + 1 + 1, 0, none⟩) 2 2, .slice (some ⟨w.heap.size + 1 + 1 + 1 + 1 + 1 + 1 + 1, 0, none⟩) 2 2, .slice (some ⟨w.heap.size + 1 + 1 + 1 + 1 + 1 + 1 + 1 + 1 + 1 + 1, 0, none⟩) 2 2] 60)) (w.heap.size + 1) 39 #[.int .i64 2, .slice (some ⟨w.heap.size + 1 + 1 + 1 + 1 + 1 + 1 + 1 + 1 + 1 + 1 + 1, 0, none⟩) 3 3, .slice none 0 0] := by
    have := TBox.mono (TBox.new (w.alloc (.cells #[.int .i64 0, .slice none 0 0, .slice none 0 0] 39)) #[.int .i64 2, .slice (some ⟨w.heap.size + 1 + 1 + 1 + 1 + 1 + 1 + 1 + 1 + 1 + 1 + 1, 0, none⟩) 3 3, .slice none 0 0] 39) (w' := ((((((((((((w.alloc (.cells #[.int .i64 0, .slice none 0 0, .slice none 0 0] 39)).alloc (.cells #[.int .i64 2, .slice (some ⟨w.heap.size + 1 + 1 + 1 + 1 + 1 + 1 + 1 + 1 + 1 + 1 + 1, 0, none⟩) 3 3, .slice none 0 0] 39)).alloc (.cells #[.int .i64 3, .int .i64 1] 3)).alloc (.cells #[.int .i64 0, .int .i64 2] 3)).alloc (.cells #[.slice (some ⟨w.heap.size + 1 + 1, 0, none⟩) 2 2, .slice (some ⟨w.heap.size + 1 + 1 + 1, 0, none⟩) 2 2] 23)).alloc (.cells #[.int .i64 3, .int .i64 2] 3)).alloc (.cells #[.int .i64 1, .int .i64 2] 3)).alloc (.cells #[.slice (some ⟨w.heap.size + 1 + 1 + 1 + 1 + 1, 0, none⟩) 2 2, .slice (some ⟨w.heap.size + 1 + 1 + 1 + 1 + 1 + 1, 0, none⟩) 2 2] 23)).alloc (.cells #[.int .i64 3, .int .i64 1] 3)).alloc (.cells #[.int .i64 2, .int .i64 2] 3)).alloc (.cells #[.slice (some ⟨w.heap.size + 1 + 1 + 1 + 1 + 1 + 1 + 1 + 1, 0, none⟩) 2 2, .slice (some ⟨w.heap.size + 1 + 1 + 1 + 1 + 1 + 1 + 1 + 1 + 1, 0, none⟩) 2 2] 23)).alloc (.cells #[.slice (some ⟨w.heap.size + 1 + 1 + 1 + 1, 0, none⟩) 2 2, .slice (some ⟨w.heap.size + 1 + 1 + 1 + 1 + 1 + 1 + 1, 0, none⟩) 2 2, .slice (some ⟨w.heap.size + 1 + 1 + 1 + 1 + 1 + 1 + 1 + 1 + 1 + 1, 0, none⟩) 2 2] 60))) (by (repeat (first | (with_reducible exact Below.refl _ _) | (with_reducible refine bAlloc ?_ _) | (with_reducible refine bDrew ?_) | (with_reducible refine bGrow ?_ _ _) | (with_reducible refine bSet ?_ ?_ _; (first | exact Nat.le_refl _ | exact Nat.le_add_right _ _ | (simp; omega))) | (with_reducible refine bTrans ?_ (by assumption)))))
    simpa [TBox] using this
  generalize ((((((((((((w.alloc (.cells #[.int .i64 0, .slice none 0 0, .slice none 0 0] 39)).alloc (.cells #[.int .i64 2, .slice (some ⟨w.heap.size + 1 + 1 + 1 + 1 + 1 + 1 + 1 + 1 + 1 + 1 + 1, 0, none⟩) 3 3, .slice none 0 0] 39)).alloc (.cells #[.int .i64 3, .int .i64 1] 3)).alloc (.cells #[.int .i64 0, .int .i64 2] 3)).alloc (.cells #[.slice (some ⟨w.heap.size + 1 + 1, 0, none⟩) 2 2, .slice (some ⟨w.heap.size + 1 + 1 + 1, 0, none⟩) 2 2] 23)).alloc (.cells #[.int .i64 3, .int .i64 2] 3)).alloc (.cells #[.int .i64 1, .int .i64 2] 3)).alloc (.cells #[.slice (some ⟨w.heap.size + 1 + 1 + 1 + 1 + 1, 0, none⟩) 2 2, .slice (some ⟨w.heap.size + 1 + 1 + 1 + 1 + 1 + 1, 0, none⟩) 2 2] 23)).alloc (.cells #[.int .i64 3, .int .i64 1] 3)).alloc (.cells #[.int .i64 2, .int .i64 2] 3)).alloc (.cells #[.slice (some ⟨w.heap.size + 1 + 1 + 1 + 1 + 1 + 1 + 1 + 1, 0, none⟩) 2 2, .slice (some ⟨w.heap.size + 1 + 1 + 1 + 1 + 1 + 1 + 1 + 1 + 1, 0, none⟩) 2 2] 23)).alloc (.cells #[.slice (some ⟨w.heap.size + 1 + 1 + 1 + 1, 0, none⟩) 2 2, .slice (some ⟨w.heap.size + 1 + 1 + 1 + 1 + 1 + 1 + 1, 0, none⟩) 2 2, .slice (some ⟨w.heap.size + 1 + 1 + 1 + 1 + 1 + 1 + 1 + 1 + 1 + 1, 0, none⟩) 2 2] 60)) = W at *
  generalize w.heap.size + 1 + 1 + 1 + 1 + 1 + 1 + 1 + 1 + 1 + 1 + 1 = B at *
  have HQA := Lib.hid hQ
  have HQ := Lib.hid (hQ W (fun _ _ _ => rfl) (Nat.le_refl _))
  have HB := Lib.hid hB
  have HT0 := Lib.hid hT0
  have HT1 := Lib.hid hT1
  have c10 : W.cell? ⟨w.heap.size + 1, 0, none⟩ = some (.int .i64 2) := hT1.cell 0
  have c11 : W.cell? ⟨w.heap.size + 1, 1, none⟩ = some (.slice (some ⟨B, 0, none⟩) 3 3) := hT1.cell 1
  have c12 : W.cell? ⟨w.heap.size + 1, 2, none⟩ = some (.slice none 0 0) := hT1.cell 2
  have hl1 := hT1.lt
  have HTL := Lib.hid (fun (w' : World) (hb : Below W.heap.size W w') => (told5_any (some ⟨B, 0, none⟩) none 3 0 exG exF w' exG_fits (HQ.out.mono hb) : Calls Tryd.prog 37 #[.agg #[.int .i64 2, .slice (some ⟨B, 0, none⟩) 3 3, .slice none 0 0], .agg #[.int .i64 0, .int .i64 2, .int .i64 1, .int .i64 2, .int .i64 3]] w' fun e w'' => CopyOut w'' w'.heap.size exE e ∧ Below w'.heap.size w' w''))
  clear hQ hB hT0 hT1
  refine wp_region_tardy 4 3 [.const (.agg #[.int .i64 2, .slice (some ⟨B, 0, none⟩) 3 3, .slice none 0 0]), .const (.agg #[.int .i64 0, .int .i64 2, .int .i64 1, .int .i64 2, .int .i64 3]), .held (twcS 2 3 1) (twcR W.heap.size exE), .const (.agg #[.int .i64 2, .slice (some ⟨B, 0, none⟩) 3 3, .slice none 0 0])]
    (.agg #[.int .i64 2, .slice (some ⟨B, 0, none⟩) 3 3, .slice none 0 0]) (by kernel_rfl) (by kernel_rfl) rfl ⟨trivial, trivial, twcG, trivial, trivial⟩ (crossAll_no _ _ _ _ trivial) rfl rfl rfl rfl rfl rfl ?_
  iterate 2 refine wpStir_const (by go_simp) ?_
  simp only [Act.put, List.setIfInBounds_toArray, List.set_cons_succ, List.set_cons_zero]
  refine wpStir_held rfl (fun w' hb hd => ?_) (fun v hv => ?_)
  · clear hd
    go_simp
    refine (HTL.out w' hb).mono ?_
    rintro e w'' ⟨ho, hb'⟩
    obtain ⟨v, rfl, h1, h2⟩ := ho.twc hb.size
    exact ⟨v, rfl, hb', h1, h2⟩
  obtain ⟨Aw, cw, Af, cf, rfl⟩ := hv
  refine wpStir_const (by go_simp) ?_
  simp only [Act.put, List.setIfInBounds_toArray, List.set_cons_succ, List.set_cons_zero]
  refine wpStir_end (fun w5 hb5 hd => ?_)
  have hcp : CopyAt w5 W.heap.size _ _ exE := hd.1 _ _ rfl
  clear hd c10 c11 c12
  have HC := Lib.hid hcp
  have h0 := HT0.out.mono hb5
  have h1 := HT1.out.mono hb5
  have H0 := Lib.hid h0
  have H1 := Lib.hid h1
  have HB5 := Lib.hid (bTrans HB.out hb5)
  have HBW := Lib.hid hb5
  have HZ5 := Lib.hid hb5.size
  have a0 : w5.cell? ⟨w.heap.size, 0, none⟩ = some (.int .i64 0) := h0.cell 0
  have a1 : w5.cell? ⟨w.heap.size, 1, none⟩ = some (.slice none 0 0) := h0.cell 1
  have a2 : w5.cell? ⟨w.heap.size, 2, none⟩ = some (.slice none 0 0) := h0.cell 2
  have b0 : w5.cell? ⟨w.heap.size + 1, 0, none⟩ = some (.int .i64 2) := h1.cell 0
  have b1 : w5.cell? ⟨w.heap.size + 1, 1, none⟩ = some (.slice (some ⟨B, 0, none⟩) 3 3) := h1.cell 1
  have b2 : w5.cell? ⟨w.heap.size + 1, 2, none⟩ = some (.slice none 0 0) := h1.cell 2
  have f0 := h0.frozen 0
  have f1 := h0.frozen 1
  have f2 := h0.frozen 2
  have g0 := h1.frozen 0
  have g1 := h1.frozen 1
  have g2 := h1.frozen 2
  have l1 : w.heap.size + 1 < w5.heap.size := h1.lt
  have l0 : w.heap.size < w5.heap.size := h0.lt
  clear h0 h1 hcp hb5
  obtain ⟨w6, hw6⟩ : ∃ w6, ((w5.setCell ⟨w.heap.size, 0, none⟩ (.int .i64 2)).setCell ⟨w.heap.size, 1, none⟩ (.slice Aw 3 cw)).setCell ⟨w.heap.size, 2, none⟩ (.slice Af 1 cf) = w6 := ⟨_, rfl⟩
  have h0 : TBox w6 w.heap.size 39 #[.int .i64 2, .slice Aw 3 cw, .slice Af 1 cf] := hw6 ▸ ((H0.out.set 0 (.int .i64 2)).set 1 (.slice Aw 3 cw)).set 2 (.slice Af 1 cf)
  have h1 : TBox w6 (w.heap.size + 1) 39 #[.int .i64 2, .slice (some ⟨B, 0, none⟩) 3 3, .slice none 0 0] := hw6 ▸ ((H1.out.other (by omega) 0 (.int .i64 2)).other (by omega) 1 (.slice Aw 3 cw)).other (by omega) 2 (.slice Af 1 cf)
  have k0 : Kept [3, 23, 60, 63] w5 w6 := hw6 ▸ ((Kept.set H0.out (by decide) 0 (.int .i64 2)).trans (Kept.set (H0.out.set 0 (.int .i64 2)) (by decide) 1 (.slice Aw 3 cw))).trans (Kept.set ((H0.out.set 0 (.int .i64 2)).set 1 (.slice Aw 3 cw)) (by decide) 2 (.slice Af 1 cf))
  have hb6 : Below w.heap.size w w6 := hw6 ▸ Below.setCell (p := ⟨w.heap.size, 2, none⟩) (Below.setCell (p := ⟨w.heap.size, 1, none⟩) (Below.setCell (p := ⟨w.heap.size, 0, none⟩) HB5.out (by simp) (.int .i64 2)) (by simp) (.slice Aw 3 cw)) (by simp) (.slice Af 1 cf)
  have HH6 := Lib.hid (show ∀ b, b ≠ w.heap.size → w6.heap[b]? = w5.heap[b]? from fun b hb => by
    rw [← hw6, Below.heap_setCell _ _ _ b hb, Below.heap_setCell _ _ _ b hb, Below.heap_setCell _ _ _ b hb])
  have HW6 := Lib.hid hw6
  have H60 := Lib.hid h0
  have H61 := Lib.hid h1
  have HK6 := Lib.hid k0
  have HB6 := Lib.hid hb6
  clear hw6 k0 hb6 h0 h1
  have d0 : w6.cell? ⟨w.heap.size + 1, 0, none⟩ = some (.int .i64 2) := H61.out.cell 0
  have d1 : w6.cell? ⟨w.heap.size + 1, 1, none⟩ = some (.slice (some ⟨B, 0, none⟩) 3 3) := H61.out.cell 1
  have d2 : w6.cell? ⟨w.heap.size + 1, 2, none⟩ = some (.slice none 0 0) := H61.out.cell 2
  have l6 : w.heap.size + 1 < w6.heap.size := H61.out.lt
  refine ⟨w6, by rw [← HW6.out]; go_simp, by go_simp, ?_⟩
  clear a0 a1 a2 b0 b1 b2 f0 f1 f2 g0 g1 g2 l1 l0 HW6
  have e0 : w6.cell? ⟨w.heap.size, 0, none⟩ = some (.int .i64 2) := H60.out.cell 0
  have e1 : w6.cell? ⟨w.heap.size, 1, none⟩ = some (.slice Aw 3 cw) := H60.out.cell 1
  have e2 : w6.cell? ⟨w.heap.size, 2, none⟩ = some (.slice Af 1 cf) := H60.out.cell 2
  have g0 := H61.out.frozen 0
  have g1 := H61.out.frozen 1
  have g2 := H61.out.frozen 2
  simp only [List.drop_succ_cons, List.drop_zero]
  go_wp2_with fail
  have r1 := H61.out.set 0 (.int .i64 2)
  have r2 := r1.set 1 (.slice (some ⟨B, 0, none⟩) 3 3)
  have k9 := HK6.out.trans (((Kept.set (l := [3, 23, 60, 63]) H61.out (by decide) 0 (.int .i64 2)).trans (Kept.set r1 (by decide) 1 (.slice (some ⟨B, 0, none⟩) 3 3))).trans (Kept.set r2 (by decide) 2 (.slice none 0 0)))
  have hc9 := HC.out.kept k9 (by simp) (by simp) (by simp) (by simp)
  obtain ⟨A1, c1, A2, c2, e1, e2, hq⟩ := hc9.qat
  injection e1 with e1 x1 e1'
  injection e2 with e2 x2 e2'
  clear x1 x2
  subst e1 e1' e2 e2'
  have hs9 := k9.1
  have hz5 := HB5.out.size
  refine bodyPost_ret (v := .tuple #[.agg #[.int .i64 2, .slice Aw 3 cw, .slice Af 1 cf], .agg #[.int .i64 2, .slice (some ⟨B, 0, none⟩) 3 3, .slice none 0 0]]) (by simp [results, Tryd.results19, go_sem, *]) rfl ⟨⟨Aw, cw, Af, cf, _, 3, rfl, hq, HQA.out _ (fun b h1 h2 => ?_) (Nat.le_trans HZ5.out hs9)⟩, ?_⟩
  · rw [Below.heap_setCell _ _ _ b (by show b ≠ w.heap.size + 1; omega), Below.heap_setCell _ _ _ b (by show b ≠ w.heap.size + 1; omega), Below.heap_setCell _ _ _ b (by show b ≠ w.heap.size + 1; omega)]
    rw [HH6.out b (by omega)]
    exact HBW.out.block b h2
  · exact Below.setCell (p := ⟨w.heap.size + 1, 2, none⟩) (Below.setCell (p := ⟨w.heap.size + 1, 1, none⟩) (Below.setCell (p := ⟨w.heap.size + 1, 0, none⟩) HB6.out (by simp) (.int .i64 2)) (by simp) (.slice (some ⟨B, 0, none⟩) 3 3)) (by simp) (.slice none 0 0)
end Go.Proofs.YthnojgdckkdcgaaDoor

namespace Go.Proofs.YthnojgdckkdcgaaDoor
open Go.RowKit Go.Sort
def thW (many s : Nat) : Wd := ⟨4, fun _ => 4, fun k j => if 4 * k + j + 1 < many ∧ s < 4 * k + j + 1 then 1 else 0⟩
def thT (many : Nat) : Qt := ⟨4, many, thW many, 0, fun _ => ⟨0, 0, 0, 0, 0⟩⟩
/-- the table of a line each of whose points costs 1 -/
def tab1 (n : Nat) : Tab := tabAll (fun _ => 1) n
def thL (m : Nat) : List Int := (List.range m).map Int.ofNat
def thNext (m : Nat) : Bool := match (thT m).nextP (thL m) with
  | none => decide (m = 1)
  | some x => decide (m ≠ 1) && decide (1 ≤ 4 * x.1 + x.2 + 1) && decide (4 * x.1 + x.2 + 1 ≤ m - 1) && decide ((tab1 m 0 m).2 = ((4 * x.1 + x.2 + 1 : Nat) : Int)) && decide (max (tab1 m 0 (4 * x.1 + x.2 + 1)).1 (tab1 m (4 * x.1 + x.2 + 1) m).1 = (tab1 m 0 m).1 - 1) && decide (x.1 < 4) && decide (x.2 < 4)
def thB (m : Nat) : Bool := decide ((thT m).leftL = thL m) && decide ((thT m).depth (thL m) = (tab1 m 0 m).1) && decide (((thT m).fewest (thL m)).length = m - 1) && decide (0 ≤ (tab1 m 0 m).1) && decide ((tab1 m 0 m).1 ≤ m) && thNext m &&
  ((List.range m).all fun s => decide ((pathN (tab1 m) s m 0 m : Int) ≤ (tab1 m 0 m).1)) &&
  ((List.range m).all fun f => (List.range (m + 1)).all fun t => decide (¬ f + 1 < t) || (decide ((f : Int) < (tab1 m f t).2) && decide ((tab1 m f t).2 < (t : Int))))
theorem th_all : ((List.range 6).all fun k => thB (k + 1)) = true := by decide +kernel
structure Th (m : Nat) : Prop where
  left : (thT m).leftL = thL m
  depth : (thT m).depth (thT m).leftL = (tab1 m 0 m).1
  few : ((thT m).fewest (thT m).leftL).length = m - 1
  w0 : 0 ≤ (tab1 m 0 m).1
  w1 : (tab1 m 0 m).1 ≤ m
  next : thNext m = true
  path : ∀ s, s < m → (pathN (tab1 m) s m 0 m : Int) ≤ (tab1 m 0 m).1
  pts : TabP (tab1 m) m
theorem th_facts {m : Nat} (h1 : 1 ≤ m) (h6 : m ≤ 6) : Th m := by
  have h := List.all_eq_true.1 th_all (m - 1) (List.mem_range.2 (by omega))
  rw [show m - 1 + 1 = m by omega] at h
  unfold thB at h
  simp only [Bool.and_eq_true, decide_eq_true_eq] at h
  obtain ⟨⟨⟨⟨⟨⟨⟨a, b⟩, c⟩, d⟩, e⟩, f⟩, g⟩, k⟩ := h
  refine ⟨a, a ▸ b, a ▸ c, d, e, f, fun s hs => ?_, fun x t hxt ht => ?_⟩
  · simpa using List.all_eq_true.1 g s (List.mem_range.2 hs)
  · have k1 := List.all_eq_true.1 k x (List.mem_range.2 (by omega))
    have k2 := List.all_eq_true.1 k1 t (List.mem_range.2 (by omega))
    simp only [Bool.or_eq_true, Bool.and_eq_true, decide_eq_true_eq] at k2
    rcases k2 with k2 | ⟨k2, k3⟩
    · exact absurd hxt k2
    · exact ⟨(tab1 m x t).2.toNat, by omega, by omega, by omega⟩
theorem thW_ok (m s : Nat) : (thW m s).Ok 4 :=
  ⟨rfl, fun _ _ => rfl, fun k _ j _ => by
    unfold thW
    simp only
    split
    all_goals omega⟩
theorem thT_ok {m : Nat} (h1 : 1 ≤ m) (h6 : m ≤ 6) : (thT m).Ok := ⟨by show (0 : Int) ≤ 4; decide, by show (4 : Int) ≤ 4; decide, by show m ≤ 6; exact h6, by show (0 : Nat) ≤ 6; decide, fun i _ => thW_ok m i, fun i hi => absurd hi (Nat.not_lt_zero _)⟩
theorem thT_small {m : Nat} (h6 : m ≤ 6) : (thT m).Small := Qt.Fits.small ⟨by show m * 24 ≤ _; omega, by show 0 * 40 ≤ _; decide, fun i _ => ⟨by show 4 * 24 ≤ _; decide, fun k _ => by show 4 * 8 ≤ _; decide⟩⟩
theorem Th.ne {m : Nat} (h : Th m) (h1 : 1 ≤ m) : (thT m).leftL ≠ [] := fun e => by
  rw [h.left] at e
  have := congrArg List.length e
  unfold thL at this
  simp at this
  omega
theorem Th.know {m : Nat} (h : Th m) (h1 : 1 ≤ m) (h6 : m ≤ 6) : (thT m).knowErr true = 0 := knowErr_ok (thT_ok h1 h6) (h.ne h1)
theorem Th.depthOut {m : Nat} (h : Th m) (h1 : 1 ≤ m) (h6 : m ≤ 6) : (thT m).depthOut = (tab1 m 0 m).1 := by
  unfold Qt.depthOut
  rw [h.know h1 h6, if_pos rfl]
  exact h.depth
theorem Th.next1 {m : Nat} (h : Th m) (h1 : m = 1) : (thT m).nextErr = 3 ∧ (thT m).nextOut = (0, 0) := by
  have hk := h.know (by omega) (by omega)
  have hn := h.next
  unfold thNext at hn
  unfold Qt.nextErr Qt.nextOut
  rw [hk, if_pos rfl, if_pos rfl, h.left]
  cases e : (thT m).nextP (thL m) with
  | none => exact ⟨rfl, rfl⟩
  | some x =>
    rw [e] at hn
    simp only [Bool.and_eq_true, decide_eq_true_eq] at hn
    exact absurd h1 hn.1.1.1.1.1.1
theorem Th.next2 {m : Nat} (h : Th m) (h1 : 2 ≤ m) (h6 : m ≤ 6) : (thT m).nextErr = 0 ∧ ∃ a b : Nat, (thT m).nextOut = (a, b) ∧ a < 4 ∧ b < 4 ∧ 4 * a + b + 1 ≤ m - 1 ∧ (tab1 m 0 m).2 = ((4 * a + b + 1 : Nat) : Int) ∧ max (tab1 m 0 (4 * a + b + 1)).1 (tab1 m (4 * a + b + 1) m).1 = (tab1 m 0 m).1 - 1 := by
  have hk := h.know (by omega) h6
  have hn := h.next
  unfold thNext at hn
  unfold Qt.nextErr Qt.nextOut
  rw [hk, if_pos rfl, if_pos rfl, h.left]
  cases e : (thT m).nextP (thL m) with
  | none =>
    rw [e] at hn
    simp only [decide_eq_true_eq] at hn
    omega
  | some x =>
    rw [e] at hn
    simp only [Bool.and_eq_true, decide_eq_true_eq] at hn
    obtain ⟨⟨⟨⟨⟨⟨a, b⟩, c⟩, d⟩, f⟩, g⟩, k⟩ := hn
    exact ⟨rfl, x.1, x.2, rfl, g, k, c, d, f⟩
end Go.Proofs.YthnojgdckkdcgaaDoor

namespace Go.Proofs.YthnojgdckkdcgaaDoor
open Go.RowKit Go.Sort
theorem within6_b (n lo hi : Int) (b : Bool) (w : World) (h : inR n lo hi = b) : Calls Tryd.prog 18 #[.int .i64 n, .int .i64 lo, .int .i64 hi] w fun e w' => e = .returned (.bool b) ∧ w = w' := by
  have H := Lib.hid h
  clear h
  go_enter Tryd.func18, Tryd.ntmps18
  go_wp2_with fail
  refine (within_b _ _ _ _ _ H.out).mono ?_
  rintro e w' ⟨rfl, rfl⟩
  go_wp2_with fail
  go_ret
  exact ⟨rfl, rfl⟩
/-- the cells of points -/
def pntL (f : Nat → Pnt) : Nat → List Value := catL fun i => [.int .i64 (f i).lo, .int .i64 (f i).hi, .int .i64 (f i).cost]
theorem pntL_len (f : Nat → Pnt) (n : Nat) : (pntL f n).length = n * 3 := by unfold pntL; exact catL_len (s := 3) (fun _ => rfl) n
theorem pntL_get (f : Nat → Pnt) {n i : Nat} (hi : i < n) (j : Nat) (hj : j < 3) : (pntL f n)[i * 3 + j]? = [Value.int .i64 (f i).lo, .int .i64 (f i).hi, .int .i64 (f i).cost][j]? := catL_get (f := fun i => [Value.int .i64 (f i).lo, .int .i64 (f i).hi, .int .i64 (f i).cost]) (s := 3) (fun _ => rfl) hj n hi
theorem pntsAt_row {w : World} {A : Option Addr} {n : Nat} {f : Nat → Pnt} (h : RowAt w A (pntL f n)) : PntsAt w A n f := by
  rcases Nat.eq_zero_or_pos n with h0 | h0
  · exact .inl h0
  rcases h with h | ⟨b, o, rfl, hlt, hc⟩
  · exact .inl (catL_nil (s := 3) (fun _ => rfl) (by decide) h)
  · exact .inr ⟨b, o, rfl, hlt, fun i hi => ⟨by simpa using hc (i * 3 + 0) _ (pntL_get f hi 0 (by decide)), hc (i * 3 + 1) _ (pntL_get f hi 1 (by decide)), hc (i * 3 + 2) _ (pntL_get f hi 2 (by decide))⟩⟩
theorem pntsAt_iff {w : World} {A : Option Addr} {n : Nat} {f : Nat → Pnt} (h : PntsAt w A n f) : RowAt w A (pntL f n) := by
  rcases h with h | ⟨b, o, rfl, hlt, hc⟩
  · subst h; exact .inl rfl
  · refine .inr ⟨b, o, rfl, hlt, fun k v hv => ?_⟩
    obtain ⟨i, j, hi, hj, rfl, e⟩ := catL_inv (s := 3) (fun _ => rfl) n hv
    obtain ⟨h0, h1, h2⟩ := hc i hi
    match j, hj, e with
    | 0, _, e => simp at e; subst e; exact h0
    | 1, _, e => simp at e; subst e; exact h1
    | 2, _, e => simp at e; subst e; exact h2
theorem infoPnt : (Tryd.prog.info? 35).map (fun i => (i.zero, i.size, i.bytes)) = some (some (.agg #[.int .i64 0, .int .i64 0, .int .i64 0]), 3, 24) := by kernel_rfl
/-- a line of the call's own, as a value -/
def dvS (d : Dk) (v : Value) : Prop := ∃ gp go c c', v = .agg #[.slice (some ⟨gp, 0, none⟩) d.np c, .slice (some ⟨go, 0, none⟩) d.no c']
def dvR (N : Nat) (d : Dk) (w : World) (v : Value) : Prop := ∀ gp go c c', v = .agg #[.slice (some ⟨gp, 0, none⟩) d.np c, .slice (some ⟨go, 0, none⟩) d.no c'] → w.ownsRow N 35 3 (.slice (some ⟨gp, 0, none⟩) d.np c) d.np (pntL d.pt d.np) ∧ w.ownsRow N 3 1 (.slice (some ⟨go, 0, none⟩) d.no c') d.no (intL d.odd d.no)
theorem dvG {N : Nat} {d : Dk} : (Stir.held (dvS d) (dvR N d)).good := ⟨⟨_, 0, 0, 0, 0, rfl⟩, fun _ _ _ hb h a b c d e => ⟨owns_below (h a b c d e).1 hb, owns_below (h a b c d e).2 hb⟩⟩
def FarD (d : Dk) (e : Ending) : Prop := ∃ bf : Bool, e = .returned (.bool bf) ∧ (bf = false → d.np ≤ 40 ∧ d.no ≤ 40)
def ChkD (d : Dk) (e : Ending) : Prop := ∃ c : Int, e = .returned (.int .i64 c) ∧ (c = 0 → d.Ok)
def CopyD (w : World) (base : Nat) (d : Dk) (e : Ending) : Prop := ∃ gp go c c', e = .returned (.agg #[.slice (some ⟨gp, 0, none⟩) d.np c, .slice (some ⟨go, 0, none⟩) d.no c']) ∧ w.ownsRow base 35 3 (.slice (some ⟨gp, 0, none⟩) d.np c) d.np (pntL d.pt d.np) ∧ w.ownsRow base 3 1 (.slice (some ⟨go, 0, none⟩) d.no c') d.no (intL d.odd d.no)
set_option maxHeartbeats 4000000 in
set_option maxRecDepth 100000 in
theorem farD_any (Ap Ao : Option Addr) (cp co : Nat) (d : Dk) (w : World) :
    Calls Tryd.prog 4 #[.agg #[.slice Ap d.np cp, .slice Ao d.no co]] w fun e w' => FarD d e ∧ Below w.heap.size w w' := by
  have HD0 := Lib.hid (Below.refl w.heap.size w)
  go_enter Tryd.func4, Tryd.ntmps4
  by_cases h1 : 40 < d.np
  case pos =>
    have q1 : (d.np : Int) > 40 := by omega
    have q2 : decide ((d.np : Int) > 40) = true := by simp; omega
    go_wp2_with fail
    go_ret
    exact ⟨⟨true, rfl, fun h => by cases h⟩, (bTrans HD0.out (bAlloc (Below.refl _ _) (.cells #[.slice Ap d.np cp, .slice Ao d.no co] 25)))⟩
  have q1 : ¬ (d.np : Int) > 40 := by omega
  have q2 : decide ((d.np : Int) > 40) = false := by simp; omega
  have q3 : decide ((40 : Int) < (d.np : Int)) = false := by simp; omega
  by_cases h2 : 40 < d.no
  case pos =>
    have q4 : (d.no : Int) > 40 := by omega
    have q5 : decide ((d.no : Int) > 40) = true := by simp; omega
    go_wp2_with fail
    go_ret
    exact ⟨⟨true, rfl, fun h => by cases h⟩, (bTrans HD0.out (bAlloc (Below.refl _ _) (.cells #[.slice Ap d.np cp, .slice Ao d.no co] 25)))⟩
  have q4 : ¬ (d.no : Int) > 40 := by omega
  have q5 : decide ((d.no : Int) > 40) = false := by simp; omega
  have q6 : decide ((40 : Int) < (d.no : Int)) = false := by simp; omega
  go_wp2_with fail
  go_ret
  exact ⟨⟨false, rfl, fun _ => ⟨by omega, by omega⟩⟩, (bTrans HD0.out (bAlloc (Below.refl _ _) (.cells #[.slice Ap d.np cp, .slice Ao d.no co] 25)))⟩
set_option maxHeartbeats 4000000 in
set_option maxRecDepth 100000 in
theorem isSR_any (Ap Ao : Option Addr) (cp co : Nat) (d : Dk) (n : Int) (w : World) (h : d.no ≤ 40) :
    Calls Tryd.prog 6 #[.agg #[.slice Ap d.np cp, .slice Ao d.no co], .int .i64 n] w fun e w' => e = .returned (.bool (inR n 0 ((d.no : Int) - 1))) ∧ Below w.heap.size w w' := by
  have hw : IntKind.i64.wrap ((d.no : Int) - 1) = (d.no : Int) - 1 := IntWalk.i64_in _ (by omega)
  obtain ⟨bb, hbb⟩ : ∃ b, inR n 0 ((d.no : Int) - 1) = b := ⟨_, rfl⟩
  have HBB := Lib.hid hbb
  rw [hbb]
  clear hbb h
  have HD0 := Lib.hid (Below.refl w.heap.size w)
  go_enter Tryd.func6, Tryd.ntmps6
  go_wp2_with fail
  refine (within6_b _ _ _ _ _ HBB.out).mono ?_
  rintro e w0 ⟨rfl, rfl⟩
  go_wp2_with fail
  go_ret
  exact ⟨rfl, (bTrans HD0.out (bAlloc (Below.refl _ _) (.cells #[.slice Ap d.np cp, .slice Ao d.no co] 25)))⟩
set_option maxHeartbeats 8000000 in
set_option maxRecDepth 100000 in
theorem checkR6_any (Ap Ao : Option Addr) (cp co : Nat) (d : Dk) (w : World) (h1 : d.np ≤ 40) (h2 : d.no ≤ 40) (hT : DAt w Ap Ao d) :
    Calls Tryd.prog 5 #[.agg #[.slice Ap d.np cp, .slice Ao d.no co]] w fun e w' => ChkD d e ∧ Below w.heap.size w w' := by
  have HD0 := Lib.hid (Below.refl w.heap.size w)
  have HT0 := Lib.hid hT
  clear hT
  go_enter Tryd.func5, Tryd.ntmps5
  by_cases h7 : 7 < d.no
  case pos =>
    have q1 : (d.no : Int) > 7 := by omega
    have q2 : decide ((d.no : Int) > 7) = true := by simp; omega
    go_wp2_with fail
    go_ret
    exact ⟨⟨60, rfl, fun h => absurd h (by decide)⟩, (bTrans HD0.out (bAlloc (Below.refl _ _) (.cells #[.slice Ap d.np cp, .slice Ao d.no co] 25)))⟩
  have q1 : ¬ (d.no : Int) > 7 := by omega
  have q2 : decide ((d.no : Int) > 7) = false := by simp; omega
  have q3 : decide ((7 : Int) < (d.no : Int)) = false := by simp; omega
  have hw : IntKind.i64.wrap ((d.no : Int) + 1) = (d.no : Int) + 1 := IntWalk.i64_in _ (by omega)
  by_cases hnp : d.np = d.no + 1
  case neg =>
    have q4 : ((d.np : Int) != (d.no : Int) + 1) = true := by simp; omega
    go_wp2_with fail
    go_ret
    exact ⟨⟨60, rfl, fun h => absurd h (by decide)⟩, (bTrans HD0.out (bAlloc (Below.refl _ _) (.cells #[.slice Ap d.np cp, .slice Ao d.no co] 25)))⟩
  have q4 : ((d.np : Int) != (d.no : Int) + 1) = false := by simp; omega
  have HNP := Lib.hid hnp
  have H7 := Lib.hid (show d.no ≤ 7 by omega)
  clear hnp h7
  go_wp2_with fail
  clear q1 q2 q3 q4 hw
  go_loopw [3] (fun s3 wr => ∃ k : Nat, k ≤ d.no ∧ s3 = .int .i64 (k : Int) ∧ (∀ i, i < k → 1 ≤ d.odd i ∧ d.odd i ≤ 9) ∧ Below (w.alloc (.cells #[.slice Ap d.np cp, .slice Ao d.no co] 25)).heap.size (w.alloc (.cells #[.slice Ap d.np cp, .slice Ao d.no co] 25)) wr) (fun s3 _ => d.no - (intOf s3).toNat)
  case atStart => exact ⟨0, Nat.zero_le _, rfl, fun i h => absurd h (Nat.not_lt_zero i), Below.refl _ _⟩
  case round =>
    obtain ⟨k, hk_k, rfl, hin, hb⟩ := hrel
    have HBk := Lib.hid hb
    have HIN := Lib.hid hin
    clear hin
    have hB1 : Below w.heap.size w wr := bTrans (bAlloc (Below.refl _ _) (.cells #[.slice Ap d.np cp, .slice Ao d.no co] 25)) hb
    have HD1 := Lib.hid (bTrans HD0.out hB1)
    have HT1 := Lib.hid (HT0.out.mono hB1)
    have HU_k1 := Lib.hid ((show Upto (w.alloc (.cells #[.slice Ap d.np cp, .slice Ao d.no co] 25)) wr from HBk.out))
    have D1 := Lib.hid (show TBox wr w.heap.size 25 #[.slice Ap d.np cp, .slice Ao d.no co] from by have := ((TBox.new w #[.slice Ap d.np cp, .slice Ao d.no co] 25).mono (Below.refl _ _)).mono hb; simpa using this)
    clear hb hB1
    obtain ⟨D_0, D_1, D_l⟩ := D1.out.c2
    by_cases hlt_k : k < d.no
    case pos =>
      have h1_k : (k : Int) < (d.no : Int) := by omega
      have h0_k : (0 : Int) ≤ (k : Int) := by omega
      have hb_k : k < 100 := by omega
      rcases HT1.out.odds with h0 | ⟨bo, oo, hA, hbo, hco⟩
      · omega
      have hc := hco k hlt_k
      obtain ⟨v, hv⟩ : ∃ v, d.odd k = v := ⟨_, rfl⟩
      rw [hv] at hc
      have HV := Lib.hid hv
      subst hA
      obtain ⟨bb, hbb⟩ : ∃ b, inR v 1 9 = b := ⟨_, rfl⟩
      have HBB := Lib.hid hbb
      clear hv hbb hco
      go_wp2_with fail
      refine (within6_b _ _ _ _ _ HBB.out).mono ?_
      rintro e w0 ⟨rfl, rfl⟩
      cases bb
      case false =>
        go_wp2_with fail
        go_ret
        exact ⟨⟨60, rfl, fun h => absurd h (by decide)⟩, HD1.out⟩
      go_wp2_with fail
      go_roundw
      case rel =>
        first
        | exact ⟨k + 1, by omega, by go_num, fun i h => (by rcases Nat.lt_or_ge i k with h3 | h3; exact HIN.out i h3; obtain rfl : i = k := (by omega); rw [HV.out]; exact inR_iff.1 HBB.out), HU_k1.out⟩
        | ((repeat apply Exists.intro)
           refine ⟨⟨k + 1, by omega, ?_, fun i h => (by rcases Nat.lt_or_ge i k with h3 | h3; exact HIN.out i h3; obtain rfl : i = k := (by omega); rw [HV.out]; exact inR_iff.1 HBB.out), HU_k1.out⟩, rfl⟩
           go_num)
      case measure => simp [intOf]; omega
    have he_k : k = d.no := by omega
    have HIN1 := Lib.hid (show ∀ i, i < d.no → 1 ≤ d.odd i ∧ d.odd i ≤ 9 from he_k ▸ HIN.out)
    have q1 : ¬ (k : Int) < (d.no : Int) := by omega
    go_wp2_with fail
    clear q1
    obtain ⟨wl133, hwl⟩ : ∃ y, y = wr := ⟨_, rfl⟩
    subst hwl
    clear D_0 D_1 D_l
    go_loopw [4] (fun s4 wr => ∃ k2 : Nat, k2 ≤ d.np ∧ s4 = .int .i64 (k2 : Int) ∧ (∀ i, i < k2 → 0 ≤ (d.pt i).lo ∧ (d.pt i).lo ≤ (d.pt i).hi ∧ (d.pt i).hi ≤ 99 ∧ 0 ≤ (d.pt i).cost ∧ (d.pt i).cost ≤ 20) ∧ Below wl133.heap.size wl133 wr) (fun s4 _ => d.np - (intOf s4).toNat)
    case atStart => exact ⟨0, Nat.zero_le _, rfl, fun i h => absurd h (Nat.not_lt_zero i), Below.refl _ _⟩
    case round =>
      obtain ⟨k2, hk_k2, rfl, hin2, hb⟩ := hrel
      have HBk2 := Lib.hid hb
      have HIN2 := Lib.hid hin2
      clear hin2
      have hB2 : Below wl133.heap.size wl133 wr := bTrans (Below.refl _ _) hb
      have HD2 := Lib.hid (bTrans HD1.out hB2)
      have HT2 := Lib.hid (HT1.out.mono hB2)
      have HU_k2 := Lib.hid (HU_k1.out.mono hB2)
      have HU_k22 := Lib.hid ((show Upto wl133 wr from HBk2.out))
      have D2 := Lib.hid (D1.out.mono hB2)
      clear hb hB2
      obtain ⟨D_0, D_1, D_l⟩ := D2.out.c2
      by_cases hlt_k2 : k2 < d.np
      case pos =>
        have h1_k2 : (k2 : Int) < (d.np : Int) := by omega
        have h0_k2 : (0 : Int) ≤ (k2 : Int) := by omega
        have hb_k2 : k2 < 100 := by omega
        rcases HT2.out.pts with h0 | ⟨bo, oo, hA, hbo, hco⟩
        · omega
        obtain ⟨p1, p2, p3⟩ := hco k2 hlt_k2
        obtain ⟨x, hx⟩ : ∃ x, d.pt k2 = x := ⟨_, rfl⟩
        rw [hx] at p1 p2 p3
        have HX := Lib.hid hx
        subst hA
        obtain ⟨b1, hb1⟩ : ∃ b, inR x.lo 0 99 = b := ⟨_, rfl⟩
        obtain ⟨b2, hb2⟩ : ∃ b, inR x.hi x.lo 99 = b := ⟨_, rfl⟩
        obtain ⟨b3, hb3⟩ : ∃ b, inR x.cost 0 20 = b := ⟨_, rfl⟩
        have HB1 := Lib.hid hb1
        have HB2 := Lib.hid hb2
        have HB3 := Lib.hid hb3
        clear hx hb1 hb2 hb3 hco
        go_wp2_with fail
        refine (within6_b _ _ _ _ _ HB1.out).mono ?_
        rintro e w0 ⟨rfl, rfl⟩
        cases b1
        case false =>
          go_wp2_with fail
          go_ret
          exact ⟨⟨60, rfl, fun h => absurd h (by decide)⟩, (bTrans HD2.out (bAlloc (Below.refl _ _) (.cells #[.int .i64 x.lo, .int .i64 x.hi, .int .i64 x.cost] 35)))⟩
        go_wp2_with fail
        refine (within6_b _ _ _ _ _ HB2.out).mono ?_
        rintro e w0 ⟨rfl, rfl⟩
        cases b2
        case false =>
          go_wp2_with fail
          go_ret
          exact ⟨⟨60, rfl, fun h => absurd h (by decide)⟩, (bTrans HD2.out (bAlloc (Below.refl _ _) (.cells #[.int .i64 x.lo, .int .i64 x.hi, .int .i64 x.cost] 35)))⟩
        go_wp2_with fail
        refine (within6_b _ _ _ _ _ HB3.out).mono ?_
        rintro e w0 ⟨rfl, rfl⟩
        cases b3
        case false =>
          go_wp2_with fail
          go_ret
          exact ⟨⟨60, rfl, fun h => absurd h (by decide)⟩, (bTrans HD2.out (bAlloc (Below.refl _ _) (.cells #[.int .i64 x.lo, .int .i64 x.hi, .int .i64 x.cost] 35)))⟩
        go_wp2_with fail
        go_roundw
        case rel =>
          first
          | exact ⟨k2 + 1, by omega, by go_num, fun i h => (by rcases Nat.lt_or_ge i k2 with h3 | h3; exact HIN2.out i h3; obtain rfl : i = k2 := (by omega); rw [HX.out]; have e1 := inR_iff.1 HB1.out; have e2 := inR_iff.1 HB2.out; have e3 := inR_iff.1 HB3.out; omega), (HU_k22.out.mono (bAlloc (Below.refl _ _) (.cells #[.int .i64 x.lo, .int .i64 x.hi, .int .i64 x.cost] 35)))⟩
          | ((repeat apply Exists.intro)
             refine ⟨⟨k2 + 1, by omega, ?_, fun i h => (by rcases Nat.lt_or_ge i k2 with h3 | h3; exact HIN2.out i h3; obtain rfl : i = k2 := (by omega); rw [HX.out]; have e1 := inR_iff.1 HB1.out; have e2 := inR_iff.1 HB2.out; have e3 := inR_iff.1 HB3.out; omega), (HU_k22.out.mono (bAlloc (Below.refl _ _) (.cells #[.int .i64 x.lo, .int .i64 x.hi, .int .i64 x.cost] 35)))⟩, rfl⟩
             go_num)
        case measure => simp [intOf]; omega
      have he_k2 : k2 = d.np := by omega
      have HIN3 := Lib.hid (show ∀ i, i < d.np → 0 ≤ (d.pt i).lo ∧ (d.pt i).lo ≤ (d.pt i).hi ∧ (d.pt i).hi ≤ 99 ∧ 0 ≤ (d.pt i).cost ∧ (d.pt i).cost ≤ 20 from he_k2 ▸ HIN2.out)
      have q1 : ¬ (k2 : Int) < (d.np : Int) := by omega
      go_wp2_with fail
      go_ret
      exact ⟨⟨0, rfl, fun _ => ⟨H7.out, HNP.out, HIN1.out, HIN3.out⟩⟩, HD2.out⟩
set_option maxHeartbeats 4000000 in
set_option maxRecDepth 100000 in
theorem copyD_any (Ap Ao : Option Addr) (cp co : Nat) (d : Dk) (w : World) (hf : d.Fits) (hT : DAt w Ap Ao d) :
    Calls Tryd.prog 8 #[.agg #[.slice Ap d.np cp, .slice Ao d.no co]] w fun e w' => CopyD w' w.heap.size d e ∧ Below w.heap.size w w' := by
  have HF := Lib.hid hf
  have HT := Lib.hid hT
  have HBW := Lib.hid (bAlloc (bAlloc (Below.refl w.heap.size w) (.cells #[.slice Ap d.np cp, .slice Ao d.no co] 25)) (.cells #[.slice none 0 0, .slice none 0 0] 25))
  have HTD := Lib.hid ((TBox.new w #[.slice Ap d.np cp, .slice Ao d.no co] 25).mono (bAlloc (Below.refl _ _) (.cells #[.slice none 0 0, .slice none 0 0] 25)))
  have HTR := Lib.hid (TBox.new (w.alloc (.cells #[.slice Ap d.np cp, .slice Ao d.no co] 25)) #[.slice none 0 0, .slice none 0 0] 25)
  clear hf hT
  go_enter Tryd.func8, Tryd.ntmps8
  go_wp2_with fail
  have HZ := Lib.hid (fun w' (hb : Below ((w.alloc (.cells #[.slice Ap d.np cp, .slice Ao d.no co] 25)).alloc (.cells #[.slice none 0 0, .slice none 0 0] 25)).heap.size ((w.alloc (.cells #[.slice Ap d.np cp, .slice Ao d.no co] 25)).alloc (.cells #[.slice none 0 0, .slice none 0 0] 25)) w') => (show w.heap.size + 2 ≤ w'.heap.size from by have := hb.size; simpa using this))
  refine wp_region_stir 9 [.held emptyV (ownsV (w.heap.size + 2) 35 3 0 []), .const (.pointer (some ⟨w.heap.size, 0, none⟩)), .const (.slice Ap d.np cp), .held (ShapeOf d.np) (ownsV (w.heap.size + 2) 35 3 d.np (pntL d.pt d.np)),
    .held emptyV (ownsV (w.heap.size + 2) 3 1 0 []), .const (.pointer (some ⟨w.heap.size, 1, none⟩)), .const (.slice Ao d.no co), .held (ShapeOf d.no) (ownsV (w.heap.size + 2) 3 1 d.no (intL d.odd d.no)), .held (dvS d) (dvR (w.heap.size + 2) d)]
    (by kernel_rfl) (by kernel_rfl) rfl ⟨⟨⟨_, 0, rfl⟩, fun _ _ _ hb h => owns_below h hb⟩, trivial, trivial, ownsG, ⟨⟨_, 0, rfl⟩, fun _ _ _ hb h => owns_below h hb⟩, trivial, trivial, ownsG, dvG, trivial⟩ (crossAll_no _ _ _ _ trivial) ?_
  refine wpStir_held rfl (fun w' hb hd => ?_) (fun v hv => ?_)
  · clear hd
    have hl := World.ownsRow_lit (base := w.heap.size + 2) (e := 35) (size := 3) w' #[] 0 (HZ.out _ hb) (by decide) rfl
    go_simp
    exact ⟨bAlloc (Below.refl _ _) _, ⟨_, rfl⟩, hl⟩
  obtain ⟨b0, rfl⟩ := hv
  iterate 2 refine wpStir_const (by go_simp) ?_
  simp only [Act.put, List.setIfInBounds_toArray, List.set_cons_succ, List.set_cons_zero]
  refine wpStir_held rfl (fun w' hb hd => ?_) (fun v hv => ?_)
  · have h1 : ownsV (w.heap.size + 2) 35 3 0 [] w' (.slice (some ⟨b0, 0, none⟩) 0 0) := hd.1 (by kernel_rfl)
    clear hd
    exact stir_copy3 w' _ _ 22 rfl 35 _ 3 24 infoPnt Tryd.underlying22 rfl (by decide) b0 Ap d.np cp (pntL d.pt d.np) rfl rfl (pntL_len _ _) ((pntsAt_iff HT.out.pts).mono (bTrans HBW.out hb)) (by unfold maxLen; have := HF.out.np; omega) (by have := HF.out.np; omega) _ (HZ.out _ hb) h1
  obtain ⟨b1, c1, rfl⟩ := hv
  refine wpStir_held rfl (fun w' hb hd => ?_) (fun v hv => ?_)
  · clear hd
    have hl := World.ownsRow_lit (base := w.heap.size + 2) (e := 3) (size := 1) w' #[] 0 (HZ.out _ hb) (by decide) rfl
    go_simp
    exact ⟨bAlloc (Below.refl _ _) _, ⟨_, rfl⟩, hl⟩
  obtain ⟨b4, rfl⟩ := hv
  iterate 2 refine wpStir_const (by go_simp) ?_
  simp only [Act.put, List.setIfInBounds_toArray, List.set_cons_succ, List.set_cons_zero]
  refine wpStir_held rfl (fun w' hb hd => ?_) (fun v hv => ?_)
  · have h1 : ownsV (w.heap.size + 2) 3 1 0 [] w' (.slice (some ⟨b4, 0, none⟩) 0 0) := hd.1 (by kernel_rfl)
    clear hd
    exact stir_copy3 w' _ _ 23 rfl 3 _ 1 8 infoInt Tryd.underlying23 rfl (by decide) b4 Ao d.no co (intL d.odd d.no) rfl rfl (by rw [intL_len, Nat.mul_one]) ((intsAt_row.1 HT.out.odds).mono (bTrans HBW.out hb)) (by unfold maxLen; have := HF.out.no; omega) (by have := HF.out.no; omega) _ (HZ.out _ hb) h1
  obtain ⟨b2, c2, rfl⟩ := hv
  refine wpStir_held rfl (fun w' hb hd => ?_) (fun v hv => ?_)
  · have h2 : ownsV (w.heap.size + 2) 3 1 d.no (intL d.odd d.no) w' (.slice (some ⟨b2, 0, none⟩) d.no c2) := hd.1 (by kernel_rfl)
    have h1 : ownsV (w.heap.size + 2) 35 3 d.np (pntL d.pt d.np) w' (.slice (some ⟨b1, 0, none⟩) d.np c1) := hd.2.2.1 (by kernel_rfl)
    clear hd
    go_simp
    refine ⟨⟨_, _, _, _, rfl⟩, fun a b c d e => ?_⟩
    simp only [Value.agg.injEq, Array.mk.injEq, List.cons.injEq, Value.slice.injEq, Option.some.injEq, Addr.mk.injEq, and_true, true_and] at e
    obtain ⟨⟨rfl, rfl⟩, rfl, rfl⟩ := e
    exact ⟨h1, h2⟩
  obtain ⟨gp, go, c, c', rfl⟩ := hv
  simp only [Act.put, List.setIfInBounds_toArray, List.set_cons_succ, List.set_cons_zero]
  refine wpStir_end (fun w3 hb3 hd => ?_)
  obtain ⟨ho1, ho2⟩ := hd.1 gp go c c' rfl
  clear hd
  have HO1 := Lib.hid ho1
  have HO2 := Lib.hid ho2
  have HBX := Lib.hid (bTrans HBW.out hb3)
  have hTR := HTR.out.mono hb3
  have HTR3 := Lib.hid (show TBox w3 (w.heap.size + 1) 25 #[.slice none 0 0, .slice none 0 0] from by simpa using hTR)
  obtain ⟨s0, s1, sl⟩ := TBox.c2 HTR3.out
  have t0 := TBox.frozen HTR3.out 0
  have t1 := TBox.frozen HTR3.out 1
  clear ho1 ho2 hb3 hTR
  simp only [List.drop_succ_cons, List.drop_zero]
  go_wp2_with fail
  have hT0 := HTR3.out.set 0 (.slice (some ⟨gp, 0, none⟩) d.np c)
  refine bodyPost_ret (v := .agg #[.slice (some ⟨gp, 0, none⟩) d.np c, .slice (some ⟨go, 0, none⟩) d.no c']) (by simp [results, Tryd.results8, go_sem, *]) rfl ⟨⟨gp, go, c, c', rfl, ?_, ?_⟩, ?_⟩
  · exact owns_lower (owns_setT (owns_setT HO1.out HTR3.out (by decide) 0 _) hT0 (by decide) 1 _) (by omega)
  · exact owns_lower (owns_setT (owns_setT HO2.out HTR3.out (by decide) 0 _) hT0 (by decide) 1 _) (by omega)
  · exact Below.setCell (p := ⟨w.heap.size + 1, 1, none⟩) (Below.setCell (p := ⟨w.heap.size + 1, 0, none⟩) HBX.out (by simp) _) (by simp) _
end Go.Proofs.YthnojgdckkdcgaaDoor

namespace Go.Proofs.YthnojgdckkdcgaaDoor
open Go.RowKit Go.Sort
end Go.Proofs.YthnojgdckkdcgaaDoor

namespace Go.Proofs.YthnojgdckkdcgaaDoor
open Go.RowKit Go.Sort
end Go.Proofs.YthnojgdckkdcgaaDoor

namespace Go.Proofs.YthnojgdckkdcgaaDoor
open Go.RowKit Go.Sort
end Go.Proofs.YthnojgdckkdcgaaDoor

namespace Go.Proofs.YthnojgdckkdcgaaDoor
open Go.RowKit Go.Sort
end Go.Proofs.YthnojgdckkdcgaaDoor

namespace Go.Proofs.YthnojgdckkdcgaaDoor
open Go.RowKit Go.Sort
end Go.Proofs.YthnojgdckkdcgaaDoor

namespace Go.Proofs.YthnojgdckkdcgaaDoor
open Go.RowKit Go.Sort
/-! ### An append to a row of the call's own: where the row lies afterwards -/
/-! ### Lists of lists of tests -/
end Go.Proofs.YthnojgdckkdcgaaDoor

namespace Go.Proofs.YthnojgdckkdcgaaDoor
open Go.RowKit Go.Sort
end Go.Proofs.YthnojgdckkdcgaaDoor

namespace Go.Proofs.YthnojgdckkdcgaaDoor
open Go.RowKit Go.Sort
end Go.Proofs.YthnojgdckkdcgaaDoor

namespace Go.Proofs.YthnojgdckkdcgaaDoor
open Go.RowKit Go.Sort
end Go.Proofs.YthnojgdckkdcgaaDoor

namespace Go.Proofs.YthnojgdckkdcgaaDoor
open Go.RowKit Go.Sort
end Go.Proofs.YthnojgdckkdcgaaDoor

namespace Go.Proofs.YthnojgdckkdcgaaDoor
open Go.RowKit Go.Sort
end Go.Proofs.YthnojgdckkdcgaaDoor

namespace Go.Proofs.YthnojgdckkdcgaaDoor
open Go.RowKit Go.Sort
end Go.Proofs.YthnojgdckkdcgaaDoor

namespace Go.Proofs.YthnojgdckkdcgaaDoor
open Go.RowKit Go.Sort
end Go.Proofs.YthnojgdckkdcgaaDoor

namespace Go.Proofs.YthnojgdckkdcgaaDoor
open Go.RowKit Go.Sort
end Go.Proofs.YthnojgdckkdcgaaDoor

namespace Go.Proofs.YthnojgdckkdcgaaDoor
open Go.RowKit Go.Sort
end Go.Proofs.YthnojgdckkdcgaaDoor

namespace Go.Proofs.YthnojgdckkdcgaaDoor
open Go.RowKit Go.Sort
theorem owns_put {w : World} {base : Nat} {e : TypeId} {size g n cap : Nat} {xs : List Value} (h : w.ownsRow base e size (.slice (some ⟨g, 0, none⟩) n cap) n xs) (j : Nat) (u : Value) : (w.setCell ⟨g, j, none⟩ u).ownsRow base e size (.slice (some ⟨g, 0, none⟩) n cap) n (xs.set j u) := by
  obtain ⟨h1, h2⟩ := h
  rcases h2 with ⟨e0, _⟩ | ⟨g', cap', cur, e', h3, h4, h5, h6, h7, h8⟩
  · cases e0
  · injection e' with e1 _ e3
    injection e1 with e1
    injection e1 with e1
    subst e1 e3
    refine ⟨by rw [List.length_set]; exact h1, .inr ⟨g, cap, cur.setIfInBounds j u, rfl, h3, TBox.set (show TBox w g e cur from h4) j u, h5, h6, by simp [h7], ?_⟩⟩
    rw [Array.toList_setIfInBounds, ← h8, List.take_set]
theorem owns_box {w : World} {base : Nat} {e : TypeId} {size g n cap : Nat} {xs : List Value} (h : w.ownsRow base e size (.slice (some ⟨g, 0, none⟩) n cap) n xs) : base ≤ g ∧ ∃ cur, TBox w g e cur ∧ cur.toList.take (n * size) = xs := by
  rcases h.2 with ⟨e0, _⟩ | ⟨g', cap', cur, e', h3, h4, h5, h6, h7, h8⟩
  · cases e0
  · injection e' with e1 _ e3
    injection e1 with e1
    injection e1 with e1
    subst e1 e3
    exact ⟨h3, cur, h4, h8⟩
end Go.Proofs.YthnojgdckkdcgaaDoor

