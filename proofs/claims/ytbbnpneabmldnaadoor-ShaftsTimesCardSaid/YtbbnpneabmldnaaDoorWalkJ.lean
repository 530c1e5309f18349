/- Walks: ring, dig, digging. -/
import Derived.Test.YtbbnpneabmldnaaDoorWalkI
import Derived.Test.YtbbnpneabmldnaaDoorRegionNew
namespace Go.Proofs.YtbbnpneabmldnaaDoor
open Go.RowKit Go.Sort
set_option maxHeartbeats 1000000 in
theorem ring_any (Ar Af : Option Addr) (cr cf : Nat) (S : Sh) (w : World) (ok : S.Ok) (hS : ShAt w Ar Af S) (n : Int) (d : Nat) (hn : n = d) (h1 : 1 ≤ d) (hd : d ≤ S.nf) :
    Calls Tryd.prog 85 #[.agg #[.slice Ar S.nr cr, .slice Af S.nf cf, .int .i64 S.deep, .int .i64 S.haul, .int .i64 S.rest], .int .i64 n] w fun e w' => e = .returned (.agg #[.int .i64 (S.ringc d), .int .i64 S.rest]) ∧ Below w.heap.size w w' := by
  subst hn
  have hb0 := bAlloc (bAlloc (Below.refl w.heap.size w) (.cells #[.slice Ar S.nr cr, .slice Af S.nf cf, .int .i64 S.deep, .int .i64 S.haul, .int .i64 S.rest] 75)) (.cells #[.int .i64 0, .int .i64 0] 79)
  have HS := Lib.hid (hS.mono hb0)
  have HB := Lib.hid hb0
  clear hS hb0
  have hi : d - 1 < S.nf := by omega
  have hr := ok.rk hi
  have hp0 := hr.t0
  have hp1 := hr.t1
  have hnf := ok.nf
  obtain ⟨m0, m1⟩ := mul_bd (a := d) (b := S.haul) (by omega) (by omega) ok.l0 ok.l1
  go_enter Tryd.func85, Tryd.ntmps85
  go_wp2_with fail
  have e1 : IntKind.i64.wrap ((d : Int) - 1) = (d : Int) - 1 := IntWalk.i64_in _ (by omega)
  have e2 : IntKind.i64.wrap ((d : Int) * S.haul) = (d : Int) * S.haul := IntWalk.i64_in _ (by omega)
  have e3 : IntKind.i64.wrap ((S.rk (d - 1)).seat + (d : Int) * S.haul) = (S.rk (d - 1)).seat + (d : Int) * S.haul := IntWalk.i64_in _ (by omega)
  have hdd : (d : Int) - 1 = (d - 1 : Nat) := by omega
  have HD := Lib.hid hdd
  clear hdd
  refine wp_region_last 15 (by kernel_rfl) (by kernel_rfl) rfl ?_
  repeat (first | (refine wpCalm_skip rfl ?_) | (refine wpCalm_step rfl (fun K hK => ?_); go_simp; (first | (refine hK _ ?_; clear hK K) | (apply Exists.intro; refine ⟨fun _ => ?_, hK _ ?_⟩; (go_at_call 88; exact (rock_any _ _ _ _ S _ ok (HS.out.mono (below_regrown _ _ _)) _ (d - 1) HD.out hi)); clear hK K))))
  refine wpCalm_nil ?_
  clear e1 e2 e3
  intro w1 hb1
  obtain ⟨bc, bf⟩ := bcell hb1
  have hz := hb1.size
  simp only [World.size_alloc] at hz
  have hy2 : w.heap.size + 1 < w1.heap.size := hz
  have hy : w.heap.size < w1.heap.size := by omega
  go_wp2_with fail
  exact bodyPost_ret (v := .agg #[.int .i64 (S.ringc d), .int .i64 S.rest]) (by simp [results, Tryd.results85, go_sem, *]; rfl) rfl ⟨rfl, by (repeat (first | (with_reducible exact Below.refl _ _) | (with_reducible refine bAlloc ?_ _) | (with_reducible refine bDrew ?_) | (with_reducible refine bGrow ?_ _ _) | (with_reducible refine bSet ?_ ?_ _; (first | exact Nat.le_refl _ | exact Nat.le_add_right _ _ | (simp; omega))) | (with_reducible refine bTrans ?_ (by assumption))))⟩
theorem price_bd {S : Sh} (ok : S.Ok) {i : Nat} (hi : i < S.nf) : 0 ≤ S.price i ∧ S.price i ≤ 207 := by
  have hr := ok.rk hi
  have h1 := hr.p0
  have h2 := hr.p1
  have hnf := ok.nf
  obtain ⟨m0, m1⟩ := mul_bd (a := i) (b := S.deep) (by omega) (by omega) ok.d0 ok.d1
  unfold Sh.price; omega
theorem digs_bd {S : Sh} (ok : S.Ok) {k : Nat} (hk : k ≤ S.nf) : 0 ≤ sumTo S.price k ∧ sumTo S.price k ≤ 2484 ∧ 0 ≤ sumTo S.hour k ∧ sumTo S.hour k ≤ 108 := by
  have h1 := sumTo_bd (f := S.price) (n := k) (lo := 0) (hi := 207) fun i hi => price_bd ok (by omega)
  have h2 := sumTo_bd (f := S.hour) (n := k) (lo := 0) (hi := 9) fun i hi => ⟨(ok.rk (by omega)).h0, (ok.rk (by omega)).h1⟩
  have hnf := ok.nf
  omega
set_option maxHeartbeats 1000000 in
theorem dig_any (Ar Af : Option Addr) (cr cf : Nat) (S : Sh) (w : World) (ok : S.Ok) (hS : ShAt w Ar Af S) (i : Nat) (hi : i < S.nf) :
    Calls Tryd.prog 68 #[.agg #[.slice Ar S.nr cr, .slice Af S.nf cf, .int .i64 S.deep, .int .i64 S.haul, .int .i64 S.rest], .int .i64 i] w fun e w' => e = .returned (.agg #[.int .i64 (S.price i), .int .i64 (S.hour i)]) ∧ Below w.heap.size w w' := by
  have hb0 := bAlloc (bAlloc (Below.refl w.heap.size w) (.cells #[.slice Ar S.nr cr, .slice Af S.nf cf, .int .i64 S.deep, .int .i64 S.haul, .int .i64 S.rest] 75)) (.cells #[.int .i64 0, .int .i64 0] 79)
  have HS := Lib.hid (hS.mono hb0)
  have HB := Lib.hid hb0
  clear hS hb0
  have hr := ok.rk hi
  have hp0 := hr.p0
  have hp1 := hr.p1
  have hnf := ok.nf
  obtain ⟨m0, m1⟩ := mul_bd (a := i) (b := S.deep) (by omega) (by omega) ok.d0 ok.d1
  go_enter Tryd.func68, Tryd.ntmps68
  go_wp2_with (go_at_call 88; refine (rock_any _ _ _ _ S _ ok HS.out _ i rfl hi).mono ?_; rintro e w1 ⟨rfl, hb1⟩; obtain ⟨bc, bf⟩ := bcell hb1; have hz := hb1.size; simp only [World.size_alloc] at hz; have hy2 : w.heap.size + 1 < w1.heap.size := hz; have hy : w.heap.size < w1.heap.size := (by omega))
  exact bodyPost_ret (v := .agg #[.int .i64 (S.price i), .int .i64 (S.hour i)]) (by simp [results, Tryd.results68, go_sem, *]; exact ⟨rfl, rfl⟩) rfl ⟨rfl, by (repeat (first | (with_reducible exact Below.refl _ _) | (with_reducible refine bAlloc ?_ _) | (with_reducible refine bDrew ?_) | (with_reducible refine bGrow ?_ _ _) | (with_reducible refine bSet ?_ ?_ _; (first | exact Nat.le_refl _ | exact Nat.le_add_right _ _ | (simp; omega))) | (with_reducible refine bTrans ?_ (by assumption))))⟩
end Go.Proofs.YtbbnpneabmldnaaDoor
