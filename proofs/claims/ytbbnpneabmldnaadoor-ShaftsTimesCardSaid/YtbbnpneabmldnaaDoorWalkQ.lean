/- Walks: Price of the program and of the reference; Cost of the program. -/
import Derived.Test.YtbbnpneabmldnaaDoorWalkP
namespace Go.Proofs.YtbbnpneabmldnaaDoor
open Go.RowKit Go.Sort
theorem within_q (n lo hi : Int) (w : World) :
    Calls Tryd.prog 62 #[.int .i64 n, .int .i64 lo, .int .i64 hi] w fun e w' => e = .returned (.bool (inR n lo hi)) ∧ Below w.heap.size w w' :=
  (within_any n lo hi w).mono fun _ _ h => ⟨h.1, h.2 ▸ Below.refl _ _⟩
theorem within02_q (n lo hi : Int) (w : World) :
    Calls Tryd.prog 66 #[.int .i64 n, .int .i64 lo, .int .i64 hi] w fun e w' => e = .returned (.bool (inR n lo hi)) ∧ Below w.heap.size w w' :=
  (within02_any n lo hi w).mono fun _ _ h => ⟨h.1, h.2 ▸ Below.refl _ _⟩
theorem isFoot_any (Ar Af : Option Addr) (cr cf : Nat) (S : Sh) (n : Int) (w : World) (hf : S.nf ≤ 9223372036854775807) :
    Calls Tryd.prog 70 #[.agg #[.slice Ar S.nr cr, .slice Af S.nf cf, .int .i64 S.deep, .int .i64 S.haul, .int .i64 S.rest], .int .i64 n] w fun e w' => e = .returned (.bool (inR n 0 (S.nf - 1))) ∧ Below w.heap.size w w' := by
  have hb0 := bAlloc (Below.refl w.heap.size w) (.cells #[.slice Ar S.nr cr, .slice Af S.nf cf, .int .i64 S.deep, .int .i64 S.haul, .int .i64 S.rest] 25)
  have HB := Lib.hid hb0
  clear hb0
  go_enter Tryd.func70, Tryd.ntmps70
  go_wp2_with (go_at_call 66; refine (within02_q _ _ _ _).mono ?_; rintro e w1 ⟨rfl, hb1⟩)
  go_ret
  exact ⟨rfl, bTrans HB.out hb1⟩
set_option maxHeartbeats 4000000 in
theorem Price_any (Ar Af : Option Addr) (cr cf : Nat) (S : Sh) (n : Int) (w : World) (hr : S.nr ≤ 9223372036854775807) (hf : S.nf ≤ 9223372036854775807) (hS : ShAt w Ar Af S) :
    Calls Tryd.prog 20 #[.agg #[.slice Ar S.nr cr, .slice Af S.nf cf, .int .i64 S.deep, .int .i64 S.haul, .int .i64 S.rest], .int .i64 n] w fun e w' => e = .returned (.tuple #[.int .i64 (S.priceOut n).1, .int .i64 (S.priceOut n).2.1, .int .i64 (S.priceOut n).2.2]) ∧ Below w.heap.size w w' := by
  have hb0 := bAlloc (Below.refl w.heap.size w) (.cells #[.slice Ar S.nr cr, .slice Af S.nf cf, .int .i64 S.deep, .int .i64 S.haul, .int .i64 S.rest] 25)
  have HS := Lib.hid (hS.mono hb0)
  have HB := Lib.hid hb0
  clear hS hb0
  by_cases hok : S.Ok
  · cases hin : inR n 0 ((S.nf : Int) - 1)
    · have HE := Lib.hid (priceOut_arg hok hin)
      go_enter Tryd.func20, Tryd.ntmps20
      go_wp2_with fail
      have e1 : IntKind.i64.wrap ((S.nf : Int) - 1) = (S.nf : Int) - 1 := IntWalk.i64_in _ (by omega)
      refine wp_region_new 11 12 7 18 75 #[.slice none 0 0, .slice none 0 0, .int .i64 0, .int .i64 0, .int .i64 0] (by kernel_rfl) (by kernel_rfl) (by rfl) (by rfl) (by rfl) (by rfl) (by rfl) (by rfl) (fun _ => by kernel_rfl) (by kernel_rfl) (by simp) ?_
      repeat (first | (refine wpCalm_skip rfl ?_) | (refine wpCalm_step rfl (fun K hK => ?_); go_simp; (first | (refine hK _ ?_; clear hK K) | (apply Exists.intro; refine ⟨fun _ => ?_, hK _ ?_⟩; ((first | (go_at_call 62; exact within_q _ _ _ _) | (go_at_call 67; exact open_no _ _ _ _ S _ _ hr hf (HS.out.mono (below_regrown _ _ _)) 1 (.inr ⟨hok, rfl, rfl⟩)))); clear hK K))))
      refine wpCalm_nil ?_
      clear e1
      refine ⟨#[.slice none 0 0, .slice none 0 0, .int .i64 0, .int .i64 0, .int .i64 0], rfl, rfl, by simp [Value.oneCell'], ?_⟩
      intro b w1 hb1 hbb hb2 hblk
      have hbc : ∀ i, World.cell? w1 ⟨b, i, none⟩ = (#[.slice none 0 0, .slice none 0 0, .int .i64 0, .int .i64 0, .int .i64 0] : Array Value)[i]? := fun i => cell_of_row w1 b i _ _ _ hblk
      simp only [Act.put, List.setIfInBounds_toArray, List.set_cons_succ, List.set_cons_zero]
      go_wp2_with fail
      go_ret3
      exact ⟨by rw [HE.out]; rfl, by (repeat (first | (with_reducible exact Below.refl _ _) | (with_reducible refine bAlloc ?_ _) | (with_reducible refine bDrew ?_) | (with_reducible refine bGrow ?_ _ _) | (with_reducible refine bSet ?_ ?_ _; (first | exact Nat.le_refl _ | exact Nat.le_add_right _ _ | (simp; omega))) | (with_reducible refine bTrans ?_ (by assumption))))⟩
    · obtain ⟨i, rfl⟩ : ∃ i : Nat, n = i := ⟨n.toNat, by have := inR_iff.1 hin; omega⟩
      have hi : i < S.nf := by have := inR_iff.1 hin; omega
      have HE := Lib.hid (priceOut_ok hok hin)
      go_enter Tryd.func20, Tryd.ntmps20
      go_wp2_with fail
      have e1 : IntKind.i64.wrap ((S.nf : Int) - 1) = (S.nf : Int) - 1 := IntWalk.i64_in _ (by omega)
      refine wp_region_new 11 12 7 18 75 #[.slice none 0 0, .slice none 0 0, .int .i64 0, .int .i64 0, .int .i64 0] (by kernel_rfl) (by kernel_rfl) (by rfl) (by rfl) (by rfl) (by rfl) (by rfl) (by rfl) (fun _ => by kernel_rfl) (by kernel_rfl) (by simp) ?_
      repeat (first | (refine wpCalm_skip rfl ?_) | (refine wpCalm_step rfl (fun K hK => ?_); go_simp; (first | (refine hK _ ?_; clear hK K) | (apply Exists.intro; refine ⟨fun _ => ?_, hK _ ?_⟩; ((first | (go_at_call 62; exact within_q _ _ _ _) | (go_at_call 67; exact open_yes _ _ _ _ S _ hok (HS.out.mono (below_regrown _ _ _))))); clear hK K))))
      refine wpCalm_nil ?_
      clear e1
      refine ⟨#[.slice Ar S.nr cr, .slice Af S.nf cf, .int .i64 S.deep, .int .i64 S.haul, .int .i64 S.rest], rfl, rfl, by simp [Value.oneCell'], ?_⟩
      intro b w1 hb1 hbb hb2 hblk
      have hbc : ∀ i, World.cell? w1 ⟨b, i, none⟩ = (#[.slice Ar S.nr cr, .slice Af S.nf cf, .int .i64 S.deep, .int .i64 S.haul, .int .i64 S.rest] : Array Value)[i]? := fun i => cell_of_row w1 b i _ _ _ hblk
      simp only [Act.put, List.setIfInBounds_toArray, List.set_cons_succ, List.set_cons_zero]
      obtain ⟨bc1, bf1⟩ := bcell hb1
      have hz1 := hb1.size
      simp only [World.size_alloc] at hz1
      have hy1 : w.heap.size < w1.heap.size := hz1
      go_wp2_with (go_at_call 68; refine (dig_any _ _ _ _ S _ hok (HS.out.mono hb1) _ hi).mono ?_; rintro e w2 ⟨rfl, hb2'⟩; obtain ⟨bc2, bf2⟩ := bcell hb2'; have hz2 := hb2'.size; have hy2 : w.heap.size < w2.heap.size := (by omega))
      refine wp_region_quiet_below (by kernel_rfl) (by kernel_rfl) ?_
      repeat (go_big_quiet_step ((fail)))
      refine wpQuiet_nil ?_
      intro w3 hw3
      have hb3 := below_of_regrown hw3
      clear hw3
      go_wp2_with fail
      go_ret3
      exact ⟨by rw [HE.out]; rfl, by (repeat (first | (with_reducible exact Below.refl _ _) | (with_reducible refine bAlloc ?_ _) | (with_reducible refine bDrew ?_) | (with_reducible refine bGrow ?_ _ _) | (with_reducible refine bSet ?_ ?_ _; (first | exact Nat.le_refl _ | exact Nat.le_add_right _ _ | (simp; omega))) | (with_reducible refine bTrans ?_ (by assumption))))⟩
  · have HE := Lib.hid (priceOut_bad (n := n) hok)
    go_enter Tryd.func20, Tryd.ntmps20
    go_wp2_with fail
    have e1 : IntKind.i64.wrap ((S.nf : Int) - 1) = (S.nf : Int) - 1 := IntWalk.i64_in _ (by omega)
    refine wp_region_new 11 12 7 18 75 #[.slice none 0 0, .slice none 0 0, .int .i64 0, .int .i64 0, .int .i64 0] (by kernel_rfl) (by kernel_rfl) (by rfl) (by rfl) (by rfl) (by rfl) (by rfl) (by rfl) (fun _ => by kernel_rfl) (by kernel_rfl) (by simp) ?_
    repeat (first | (refine wpCalm_skip rfl ?_) | (refine wpCalm_step rfl (fun K hK => ?_); go_simp; (first | (refine hK _ ?_; clear hK K) | (apply Exists.intro; refine ⟨fun _ => ?_, hK _ ?_⟩; ((first | (go_at_call 62; exact within_q _ _ _ _) | (go_at_call 67; exact open_no _ _ _ _ S _ _ hr hf (HS.out.mono (below_regrown _ _ _)) 20 (.inl ⟨hok, rfl⟩)))); clear hK K))))
    refine wpCalm_nil ?_
    clear e1
    refine ⟨#[.slice none 0 0, .slice none 0 0, .int .i64 0, .int .i64 0, .int .i64 0], rfl, rfl, by simp [Value.oneCell'], ?_⟩
    intro b w1 hb1 hbb hb2 hblk
    have hbc : ∀ i, World.cell? w1 ⟨b, i, none⟩ = (#[.slice none 0 0, .slice none 0 0, .int .i64 0, .int .i64 0, .int .i64 0] : Array Value)[i]? := fun i => cell_of_row w1 b i _ _ _ hblk
    simp only [Act.put, List.setIfInBounds_toArray, List.set_cons_succ, List.set_cons_zero]
    go_wp2_with fail
    go_ret3
    exact ⟨by rw [HE.out]; rfl, by (repeat (first | (with_reducible exact Below.refl _ _) | (with_reducible refine bAlloc ?_ _) | (with_reducible refine bDrew ?_) | (with_reducible refine bGrow ?_ _ _) | (with_reducible refine bSet ?_ ?_ _; (first | exact Nat.le_refl _ | exact Nat.le_add_right _ _ | (simp; omega))) | (with_reducible refine bTrans ?_ (by assumption))))⟩
set_option maxHeartbeats 4000000 in
theorem refPrice_any (Ar Af : Option Addr) (cr cf : Nat) (S : Sh) (n : Int) (w : World) (hr : S.nr ≤ 9223372036854775807) (hf : S.nf ≤ 9223372036854775807) (hS : ShAt w Ar Af S) :
    Calls Tryd.prog 21 #[.agg #[.slice Ar S.nr cr, .slice Af S.nf cf, .int .i64 S.deep, .int .i64 S.haul, .int .i64 S.rest], .int .i64 n] w fun e w' => e = .returned (.tuple #[.int .i64 (S.priceOut n).1, .int .i64 (S.priceOut n).2.1, .int .i64 (S.priceOut n).2.2]) ∧ Below w.heap.size w w' := by
  have hb0 := bAlloc (Below.refl w.heap.size w) (.cells #[.slice Ar S.nr cr, .slice Af S.nf cf, .int .i64 S.deep, .int .i64 S.haul, .int .i64 S.rest] 25)
  have HS := Lib.hid (hS.mono hb0)
  have HB := Lib.hid hb0
  clear hS hb0
  by_cases hok : S.Ok
  · have he := Sh.err_ok hok
    cases hin : inR n 0 ((S.nf : Int) - 1)
    · have HE := Lib.hid (priceOut_arg hok hin)
      go_enter Tryd.func21, Tryd.ntmps21
      go_wp2_with fail
      refine wp_region_quiet_below (by kernel_rfl) (by kernel_rfl) ?_
      repeat (go_big_quiet_step (((first | (go_at_call 70; exact Calls.regrown_of (isFoot_any _ _ _ _ S _ _ hf)) | (go_at_call 69; exact Calls.regrown_of (ask_any _ _ _ _ S _ _ hr hf (HS.out.mono (below_regrown _ _ _))))))))
      refine wpQuiet_nil ?_
      intro w1 hw1
      have hb1 := below_of_regrown hw1
      clear hw1
      go_wp2_with fail
      go_ret3
      exact ⟨by rw [HE.out]; rfl, by (repeat (first | (with_reducible exact Below.refl _ _) | (with_reducible refine bAlloc ?_ _) | (with_reducible refine bDrew ?_) | (with_reducible refine bGrow ?_ _ _) | (with_reducible refine bSet ?_ ?_ _; (first | exact Nat.le_refl _ | exact Nat.le_add_right _ _ | (simp; omega))) | (with_reducible refine bTrans ?_ (by assumption))))⟩
    · obtain ⟨i, rfl⟩ : ∃ i : Nat, n = i := ⟨n.toNat, by have := inR_iff.1 hin; omega⟩
      have hi : i < S.nf := by have := inR_iff.1 hin; omega
      have HE := Lib.hid (priceOut_ok hok hin)
      go_enter Tryd.func21, Tryd.ntmps21
      go_wp2_with fail
      refine wp_region_quiet_below (by kernel_rfl) (by kernel_rfl) ?_
      repeat (go_big_quiet_step (((first | (go_at_call 70; exact Calls.regrown_of (isFoot_any _ _ _ _ S _ _ hf)) | (go_at_call 69; exact Calls.regrown_of (ask_any _ _ _ _ S _ _ hr hf (HS.out.mono (below_regrown _ _ _))))))))
      refine wpQuiet_nil ?_
      intro w1 hw1
      have hb1 := below_of_regrown hw1
      clear hw1
      obtain ⟨bc1, bf1⟩ := bcell hb1
      have hz1 := hb1.size
      simp only [World.size_alloc] at hz1
      have hy1 : w.heap.size < w1.heap.size := hz1
      go_wp2_with fail
      refine wp_region_quiet_below (by kernel_rfl) (by kernel_rfl) ?_
      repeat (go_big_quiet_step (((first | (go_at_call 71; exact Calls.regrown_of (priceOf_any _ _ _ _ S _ hok ((HS.out.mono hb1).mono (below_regrown _ _ _)) _ hi)) | (go_at_call 72; exact Calls.regrown_of (rockOf_any _ _ _ _ S _ hok ((HS.out.mono hb1).mono (below_regrown _ _ _)) _ _ rfl hi))))))
      refine wpQuiet_nil ?_
      intro w3 hw3
      have hb3 := below_of_regrown hw3
      clear hw3
      go_wp2_with fail
      go_ret3
      exact ⟨by rw [HE.out]; rfl, by (repeat (first | (with_reducible exact Below.refl _ _) | (with_reducible refine bAlloc ?_ _) | (with_reducible refine bDrew ?_) | (with_reducible refine bGrow ?_ _ _) | (with_reducible refine bSet ?_ ?_ _; (first | exact Nat.le_refl _ | exact Nat.le_add_right _ _ | (simp; omega))) | (with_reducible refine bTrans ?_ (by assumption))))⟩
  · have HE := Lib.hid (priceOut_bad (n := n) hok)
    have he := Sh.err_bad hok
    go_enter Tryd.func21, Tryd.ntmps21
    go_wp2_with fail
    refine wp_region_quiet_below (by kernel_rfl) (by kernel_rfl) ?_
    repeat (go_big_quiet_step (((first | (go_at_call 70; exact Calls.regrown_of (isFoot_any _ _ _ _ S _ _ hf)) | (go_at_call 69; exact Calls.regrown_of (ask_any _ _ _ _ S _ _ hr hf (HS.out.mono (below_regrown _ _ _))))))))
    refine wpQuiet_nil ?_
    intro w1 hw1
    have hb1 := below_of_regrown hw1
    clear hw1
    go_wp2_with fail
    go_ret3
    exact ⟨by rw [HE.out]; rfl, by (repeat (first | (with_reducible exact Below.refl _ _) | (with_reducible refine bAlloc ?_ _) | (with_reducible refine bDrew ?_) | (with_reducible refine bGrow ?_ _ _) | (with_reducible refine bSet ?_ ?_ _; (first | exact Nat.le_refl _ | exact Nat.le_add_right _ _ | (simp; omega))) | (with_reducible refine bTrans ?_ (by assumption))))⟩
theorem ring_nn {S : Sh} (ok : S.Ok) {d : Nat} (h1 : 1 ≤ d) (hd : d ≤ S.nf) (hr : S.restsB d = true) : 0 ≤ S.ringc d ∧ S.ringc d ≤ 207 := by
  obtain ⟨b0, b1⟩ := ringc_bd ok h1 hd
  have h2 := (ok.rk (i := d - 1) (by omega)).t0
  have hnf := ok.nf
  obtain ⟨m0, m1⟩ := mul_bd (a := d) (b := S.haul) (by omega) (by omega) ok.l0 ok.l1
  have h3 : (S.rk (d - 1)).seat ≠ -1 := by
    unfold Sh.restsB at hr; simpa using hr
  unfold Sh.ringc at *
  omega
theorem rings_nn {S : Sh} (ok : S.Ok) {m : Nat} {g : Nat → Int} (h : S.Plan m g) {k : Nat} (hk : k ≤ m) : 0 ≤ sumTo (fun i => S.ringc (g i).toNat) k ∧ sumTo (fun i => S.ringc (g i).toNat) k ≤ 2484 := by
  have h1 := sumTo_bd (f := fun i => S.ringc (g i).toNat) (n := k) (lo := 0) (hi := 207) fun i hi => ring_nn ok (stop_nat h.rising (by omega)).2.1 (stop_nat h.rising (by omega)).2.2 (h.rest i (by omega))
  have := h.rising.count
  have hnf := ok.nf
  omega
theorem rest_bd {S : Sh} (ok : S.Ok) {k : Nat} (hk : k ≤ 12) : 0 ≤ S.rest * (k : Int) ∧ S.rest * (k : Int) ≤ 108 := by
  rw [Int.mul_comm]; exact mul_bd (by omega) (by omega) ok.r0 ok.r1
set_option maxHeartbeats 4000000 in
theorem Cost_any (Ar Af : Option Addr) (cr cf : Nat) (S : Sh) (w : World) (hr : S.nr ≤ 9223372036854775807) (hf : S.nf ≤ 9223372036854775807) (hS : ShAt w Ar Af S) (A : Option Addr) (m c : Nat) (g : Nat → Int) (hm : m ≤ 40) (hg : IntsAt w A m g) :
    Calls Tryd.prog 55 #[.agg #[.slice Ar S.nr cr, .slice Af S.nf cf, .int .i64 S.deep, .int .i64 S.haul, .int .i64 S.rest], .slice A m c] w fun e w' => e = .returned (.tuple #[.int .i64 (S.costOut m g).1, .int .i64 (S.costOut m g).2.1, .int .i64 (S.costOut m g).2.2]) ∧ Below w.heap.size w w' := by
  have hb0 := bAlloc (Below.refl w.heap.size w) (.cells #[.slice Ar S.nr cr, .slice Af S.nf cf, .int .i64 S.deep, .int .i64 S.haul, .int .i64 S.rest] 25)
  have HS := Lib.hid (hS.mono hb0)
  have HG := Lib.hid (hg.mono hb0)
  have HB := Lib.hid hb0
  have hm' : m ≤ 9223372036854775807 := by omega
  clear hS hg hb0
  by_cases hok : S.Ok
  · cases hp : S.planB m g
    · have HE := Lib.hid (costOut_arg hok hp)
      go_enter Tryd.func55, Tryd.ntmps55
      go_wp2_with (first | (go_at_call 67; refine (open_yes _ _ _ _ S _ hok HS.out).mono ?_; rintro e w1 ⟨rfl, hb1⟩; obtain ⟨bc1, bf1⟩ := bcell hb1; have hz1 := hb1.size; simp only [World.size_alloc] at hz1; have hy1 : w.heap.size < w1.heap.size := hz1; have HS1 := Lib.hid ((HS.out.mono hb1).mono (bAlloc (Below.refl _ w1) (.cells #[.slice Ar S.nr cr, .slice Af S.nf cf, .int .i64 S.deep, .int .i64 S.haul, .int .i64 S.rest] 75))); have HG1 := Lib.hid ((HG.out.mono hb1).mono (bAlloc (Below.refl _ w1) (.cells #[.slice Ar S.nr cr, .slice Af S.nf cf, .int .i64 S.deep, .int .i64 S.haul, .int .i64 S.rest] 75)))) | (go_at_call 80; refine (good_any _ _ _ _ S _ hok HS1.out _ _ _ g hm' HG1.out).mono ?_; rintro e w2 ⟨rfl, hb2⟩))
      go_ret3
      exact ⟨by rw [HE.out]; rfl, by (repeat (first | (with_reducible exact Below.refl _ _) | (with_reducible refine bAlloc ?_ _) | (with_reducible refine bDrew ?_) | (with_reducible refine bGrow ?_ _ _) | (with_reducible refine bSet ?_ ?_ _; (first | exact Nat.le_refl _ | exact Nat.le_add_right _ _ | (simp; omega))) | (with_reducible refine bTrans ?_ (by assumption))))⟩
    · have HE := Lib.hid (costOut_ok hok hp)
      have HP := Lib.hid (Sh.planB_iff.1 hp)
      have hcount := HP.out.rising.count
      have hnf := hok.nf
      go_enter Tryd.func55, Tryd.ntmps55
      go_wp2_with (first | (go_at_call 67; refine (open_yes _ _ _ _ S _ hok HS.out).mono ?_; rintro e w1 ⟨rfl, hb1⟩; obtain ⟨bc1, bf1⟩ := bcell hb1; have hz1 := hb1.size; simp only [World.size_alloc] at hz1; have hy1 : w.heap.size < w1.heap.size := hz1; have HS1 := Lib.hid ((HS.out.mono hb1).mono (bAlloc (Below.refl _ w1) (.cells #[.slice Ar S.nr cr, .slice Af S.nf cf, .int .i64 S.deep, .int .i64 S.haul, .int .i64 S.rest] 75))); have HG1 := Lib.hid ((HG.out.mono hb1).mono (bAlloc (Below.refl _ w1) (.cells #[.slice Ar S.nr cr, .slice Af S.nf cf, .int .i64 S.deep, .int .i64 S.haul, .int .i64 S.rest] 75)))) | (go_at_call 80; refine (good_any _ _ _ _ S _ hok HS1.out _ _ _ g hm' HG1.out).mono ?_; rintro e w2 ⟨rfl, hb2⟩; obtain ⟨bc2, bf2⟩ := bcell hb2; have hz2 := hb2.size; simp only [World.size_alloc] at hz2; have hy2 : w.heap.size < w2.heap.size := (by omega); have hx2 : w1.heap.size < w2.heap.size := (by omega); have HS2 := Lib.hid (HS1.out.mono hb2); have HG2 := Lib.hid (HG1.out.mono hb2)) | (go_at_call 75; refine (digging_any _ _ _ _ S _ hok HS2.out).mono ?_; rintro e w3 ⟨rfl, hb3⟩; obtain ⟨bc3, bf3⟩ := bcell hb3; have hz3 := hb3.size; have hy3 : w.heap.size < w3.heap.size := (by omega); have hx3 : w1.heap.size < w3.heap.size := (by omega); have HS3 := Lib.hid (HS2.out.mono hb3); have HG3 := Lib.hid (HG2.out.mono hb3)))
      have HR := Lib.hid HP.out.rising
      have hbA : Below w.heap.size w w3 := (by (repeat (first | (with_reducible exact Below.refl _ _) | (with_reducible refine bAlloc ?_ _) | (with_reducible refine bDrew ?_) | (with_reducible refine bGrow ?_ _ _) | (with_reducible refine bSet ?_ ?_ _; (first | exact Nat.le_refl _ | exact Nat.le_add_right _ _ | (simp; omega))) | (with_reducible refine bTrans ?_ (by assumption)))))
      have HBA := Lib.hid hbA
      clear hbA hb1 hb2 hb3
      obtain ⟨y0, y1, y2, y3⟩ := digs_bd hok (k := S.nf) (Nat.le_refl _)
      go_loopw [27] (fun i wr => ∃ k : Nat, k ≤ m ∧ i = .int .i64 k ∧ Below w3.heap.size w3 wr ∧ w3.heap.size < wr.heap.size ∧
        wr.cell? ⟨w3.heap.size, 0, none⟩ = some (.int .i64 (sumTo S.price S.nf + sumTo (fun i => S.ringc (g i).toNat) k)) ∧ wr.cell? ⟨w3.heap.size, 1, none⟩ = some (.int .i64 (sumTo S.hour S.nf + S.rest * k)) ∧ wr.frozen? ⟨w3.heap.size, 0, none⟩ = false ∧ wr.frozen? ⟨w3.heap.size, 1, none⟩ = false) (fun i _ => m - (intOf i).toNat)
      case atStart => exact ⟨0, Nat.zero_le _, rfl, (Below.refl _ _).alloc (Nat.le_refl _) _, by simp, by simp [go_sem, sumTo], by simp [go_sem], by simp [go_sem], by simp [go_sem]⟩
      case round =>
        obtain ⟨k, hk, rfl, hbel, hsz, c0, c1, f0, f1⟩ := hrel
        obtain ⟨bc, bf⟩ := bcell hbel
        have hz := hbel.size
        have hy : w.heap.size < wr.heap.size := (by omega)
        have hx : w1.heap.size < wr.heap.size := (by omega)
        obtain ⟨d0, d1⟩ := rings_nn hok HP.out hk
        obtain ⟨d2, d3⟩ := rest_bd hok (k := k) (by omega)
        have HS4 := Lib.hid (HS3.out.mono hbel)
        have HG4 := Lib.hid (HG3.out.mono hbel)
        have HB4 := Lib.hid hbel
        clear hbel
        by_cases hlt : k < m
        · rcases HG4.out with h0 | ⟨b, o, hA, hb, hcell⟩
          · omega
          have ck := hcell k hlt
          clear hcell
          subst hA
          obtain ⟨hs0, hs1, hs2⟩ := stop_nat HR.out hlt
          obtain ⟨r0, r1⟩ := ring_nn hok hs1 hs2 (HP.out.rest k hlt)
          have HS0 := Lib.hid hs0
          have q0 := hok.r0
          have q1 := hok.r1
          clear hs0
          go_wp2_with fail
          refine wp_region_last 5 (by kernel_rfl) (by kernel_rfl) rfl ?_
          repeat (first | (refine wpCalm_skip rfl ?_) | (refine wpCalm_step rfl (fun K hK => ?_); go_simp; (first | (refine hK _ ?_; clear hK K) | (apply Exists.intro; refine ⟨fun _ => ?_, hK _ ?_⟩; ((first | (go_at_call 85; exact (ring_any _ _ _ _ S _ hok (HS4.out.mono (below_regrown _ _ _)) _ _ HS0.out hs1 hs2)) | (go_at_call 84; exact plus_any _ _ _ _ _ (by omega)))); clear hK K))))
          refine wpCalm_nil ?_
          intro w5 hb5
          obtain ⟨bc5, bf5⟩ := bcell hb5
          have hz5 := hb5.size
          have hy5 : w3.heap.size < w5.heap.size := by omega
          go_wp2_with fail
          go_roundw
          case rel =>
            have e1 : sumTo S.price S.nf + sumTo (fun i => S.ringc (g i).toNat) k + S.ringc (g k).toNat = sumTo S.price S.nf + sumTo (fun i => S.ringc (g i).toNat) (k + 1) := by simp only [sumTo]; omega
            have e2 : sumTo S.hour S.nf + S.rest * (k : Int) + S.rest = sumTo S.hour S.nf + S.rest * ((k + 1 : Nat) : Int) := by rw [Int.natCast_add, Int.mul_add]; simp; omega
            exact ⟨k + 1, by omega, by go_num, (((HB4.out.trans (hb5.mono (by omega))).setCell (by simp) _).setCell (by simp) _), by simp [World.setCell]; omega, by rw [← e1]; simp [go_sem, *], by rw [← e2]; simp [go_sem, *], by simp [go_sem, *], by simp [go_sem, *]⟩
          case measure => simp [intOf]; omega
        · obtain rfl : k = m := by omega
          go_wp2_with fail
          refine wp_region_quiet_below (by kernel_rfl) (by kernel_rfl) ?_
          repeat (go_big_quiet_step ((fail)))
          refine wpQuiet_nil ?_
          intro w5 hw5
          have hb5 := below_of_regrown hw5
          clear hw5
          go_wp2_with fail
          go_ret3
          exact ⟨by rw [HE.out]; show _ = Ending.returned (.tuple #[.int .i64 (sumTo S.price S.nf + sumTo (fun i => S.ringc (g i).toNat) k), .int .i64 (S.rest * (k : Int) + sumTo S.hour S.nf), .int .i64 0]); rw [Int.add_comm (S.rest * (k : Int))]; rfl, (((HBA.out.trans (HB4.out.mono (by omega))) : Below w.heap.size w wr)).trans (hb5.mono (by omega))⟩
  · have HE := Lib.hid (costOut_bad (m := m) (g := g) hok)
    go_enter Tryd.func55, Tryd.ntmps55
    go_wp2_with (go_at_call 67; refine (open_no _ _ _ _ S _ _ hr hf HS.out 20 (.inl ⟨hok, rfl⟩)).mono ?_; rintro e w1 ⟨rfl, hb1⟩; obtain ⟨bc1, bf1⟩ := bcell hb1; have hz1 := hb1.size; simp only [World.size_alloc] at hz1; have hy1 : w.heap.size < w1.heap.size := hz1)
    go_ret3
    exact ⟨by rw [HE.out]; rfl, by (repeat (first | (with_reducible exact Below.refl _ _) | (with_reducible refine bAlloc ?_ _) | (with_reducible refine bDrew ?_) | (with_reducible refine bGrow ?_ _ _) | (with_reducible refine bSet ?_ ?_ _; (first | exact Nat.le_refl _ | exact Nat.le_add_right _ _ | (simp; omega))) | (with_reducible refine bTrans ?_ (by assumption))))⟩
end Go.Proofs.YtbbnpneabmldnaaDoor
