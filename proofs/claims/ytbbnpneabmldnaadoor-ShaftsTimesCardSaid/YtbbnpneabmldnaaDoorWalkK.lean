/- Walk: digging. -/
import Derived.Test.YtbbnpneabmldnaaDoorWalkJ
namespace Go.Proofs.YtbbnpneabmldnaaDoor
open Go.RowKit Go.Sort
set_option maxHeartbeats 2000000 in
theorem digging_any (Ar Af : Option Addr) (cr cf : Nat) (S : Sh) (w : World) (ok : S.Ok) (hS : ShAt w Ar Af S) :
    Calls Tryd.prog 75 #[.agg #[.slice Ar S.nr cr, .slice Af S.nf cf, .int .i64 S.deep, .int .i64 S.haul, .int .i64 S.rest]] w fun e w' => e = .returned (.agg #[.int .i64 (sumTo S.price S.nf), .int .i64 (sumTo S.hour S.nf)]) ∧ Below w.heap.size w w' := by
  have hb0 := bAlloc (Below.refl w.heap.size w) (.cells #[.slice Ar S.nr cr, .slice Af S.nf cf, .int .i64 S.deep, .int .i64 S.haul, .int .i64 S.rest] 75)
  have HS := Lib.hid (hS.mono hb0)
  have HB := Lib.hid hb0
  clear hS hb0
  have hnf := ok.nf
  go_enter Tryd.func75, Tryd.ntmps75
  go_wp2_with fail
  go_loopw [8] (fun i wr => ∃ k : Nat, k ≤ S.nf ∧ i = .int .i64 k ∧ Below (w.alloc (.cells #[.slice Ar S.nr cr, .slice Af S.nf cf, .int .i64 S.deep, .int .i64 S.haul, .int .i64 S.rest] 75)).heap.size (w.alloc (.cells #[.slice Ar S.nr cr, .slice Af S.nf cf, .int .i64 S.deep, .int .i64 S.haul, .int .i64 S.rest] 75)) wr ∧ w.heap.size + 1 < wr.heap.size ∧
    wr.cell? ⟨w.heap.size + 1, 0, none⟩ = some (.int .i64 (sumTo S.price k)) ∧ wr.cell? ⟨w.heap.size + 1, 1, none⟩ = some (.int .i64 (sumTo S.hour k)) ∧ wr.frozen? ⟨w.heap.size + 1, 0, none⟩ = false ∧ wr.frozen? ⟨w.heap.size + 1, 1, none⟩ = false) (fun i _ => S.nf - (intOf i).toNat)
  case atStart => exact ⟨0, Nat.zero_le _, rfl, (Below.refl _ _).alloc (Nat.le_refl _) _, by simp, by simp [go_sem, sumTo], by simp [go_sem, sumTo], by simp [go_sem], by simp [go_sem]⟩
  case round =>
    obtain ⟨k, hk, rfl, hbel, hsz, c0, c1, f0, f1⟩ := hrel
    obtain ⟨bc, bf⟩ := bcell hbel
    have hz := hbel.size
    simp only [World.size_alloc] at hz
    have hy : w.heap.size < wr.heap.size := hz
    obtain ⟨d0, d1, d2, d3⟩ := digs_bd ok hk
    have HS1 := Lib.hid (HS.out.mono hbel)
    by_cases hlt : k < S.nf
    · obtain ⟨p0, p1⟩ := price_bd ok hlt
      have q0 := (ok.rk hlt).h0
      have q1 := (ok.rk hlt).h1
      have hhr : S.hour k = (S.rk k).hours := rfl
      rw [← hhr] at q0 q1
      clear hhr
      go_wp2_with fail
      refine wp_region_last 5 (by kernel_rfl) (by kernel_rfl) rfl ?_
      repeat (first | (refine wpCalm_skip rfl ?_) | (refine wpCalm_step rfl (fun K hK => ?_); go_simp; (first | (refine hK _ ?_; clear hK K) | (apply Exists.intro; refine ⟨fun _ => ?_, hK _ ?_⟩; ((first | (go_at_call 68; exact (dig_any _ _ _ _ S _ ok (HS1.out.mono (below_regrown _ _ _)) k hlt)) | (go_at_call 84; exact plus_any _ _ _ _ _ (by omega)))); clear hK K))))
      refine wpCalm_nil ?_
      intro w1 hb1
      obtain ⟨bc1, bf1⟩ := bcell hb1
      have hz1 := hb1.size
      have hy1 : w.heap.size + 1 < w1.heap.size := by omega
      go_wp2_with fail
      go_roundw
      case rel => exact ⟨k + 1, by omega, by go_num, (((hbel.trans (hb1.mono hbel.size)).setCell (by simp) _).setCell (by simp) _), by simp [World.setCell]; omega, by simp [go_sem, *, sumTo], by simp [go_sem, *, sumTo], by simp [go_sem, *], by simp [go_sem, *]⟩
      case measure => simp [intOf]; omega
    · obtain rfl : k = S.nf := by omega
      go_wp2_with fail
      exact bodyPost_ret (v := .agg #[.int .i64 (sumTo S.price S.nf), .int .i64 (sumTo S.hour S.nf)]) (by simp [results, Tryd.results75, go_sem, *]) rfl ⟨rfl, by (repeat (first | (with_reducible exact Below.refl _ _) | (with_reducible refine bAlloc ?_ _) | (with_reducible refine bDrew ?_) | (with_reducible refine bGrow ?_ _ _) | (with_reducible refine bSet ?_ ?_ _; (first | exact Nat.le_refl _ | exact Nat.le_add_right _ _ | (simp; omega))) | (with_reducible refine bTrans ?_ (by assumption))))⟩
end Go.Proofs.YtbbnpneabmldnaaDoor
