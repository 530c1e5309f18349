/- Walk: Next of the program. -/
import Derived.Test.YtbbnpneabmldnaaDoorInts
namespace Go.Proofs.YtbbnpneabmldnaaDoor
open Go.RowKit Go.Sort
/-- the shaft with one more foot -/
def Sh.more (S : Sh) (r : Int) : Sh := ⟨S.nr, S.rock, S.nf + 1, fun i => if i = S.nf then r else S.foot i, S.deep, S.haul, S.rest⟩
theorem Sh.Ok.more {S : Sh} (h : S.Ok) {r : Int} (h0 : 0 ≤ r) (h1 : r < S.nr) (hn : S.nf < 12) : (S.more r).Ok :=
  ⟨h.nr, hn, h.rock, fun i hi => by
    show 0 ≤ if i = S.nf then r else S.foot i
    split
    · exact h0
    · exact h.f0 i (by have : i < S.nf + 1 := hi; omega), fun i hi => by
    show (if i = S.nf then r else S.foot i) < S.nr
    split
    · exact h1
    · exact h.f1 i (by have : i < S.nf + 1 := hi; omega), h.d0, h.d1, h.l0, h.l1, h.r0, h.r1⟩
theorem cheapOut_bd {S : Sh} (ok : S.Ok) : 0 ≤ S.cheapOut.1 ∧ S.cheapOut.1 ≤ 4968 := by
  obtain ⟨y0, y1, _, _⟩ := digs_bd ok (k := S.nf) (Nat.le_refl _)
  obtain ⟨p0, p1⟩ := pence_bd ok ltP S.nf ok.nf
  by_cases h : S.waysOf ltP S.nf 0 = noWay
  · rw [cheapOut_none ok h]; exact ⟨Int.le_refl 0, by decide⟩
  · rw [cheapOut_some ok h]
    show 0 ≤ sumTo S.price S.nf + (S.waysOf ltP S.nf 0).pence ∧ sumTo S.price S.nf + (S.waysOf ltP S.nf 0).pence ≤ 4968
    omega
open Classical in
noncomputable def Sh.nextOut (S : Sh) (r : Int) : Int × Int :=
  if ¬ S.Ok then (0, 20) else if inR r 0 (S.nr - 1) = false then (0, 1) else if S.nf = 12 then (0, 2) else if S.cheapOut.2 ≠ 0 then (0, S.cheapOut.2) else if (S.more r).cheapOut.2 ≠ 0 then (0, (S.more r).cheapOut.2) else ((S.more r).cheapOut.1 - S.cheapOut.1, 0)
theorem nextOut_bad {S : Sh} {r : Int} (h : ¬ S.Ok) : S.nextOut r = (0, 20) := if_pos h
theorem nextOut_arg {S : Sh} {r : Int} (h : S.Ok) (h2 : inR r 0 (S.nr - 1) = false) : S.nextOut r = (0, 1) := by unfold Sh.nextOut; rw [if_neg (not_not_intro h), if_pos h2]
theorem nextOut_many {S : Sh} {r : Int} (h : S.Ok) (h2 : inR r 0 (S.nr - 1) = true) (h3 : S.nf = 12) : S.nextOut r = (0, 2) := by unfold Sh.nextOut; rw [if_neg (not_not_intro h), if_neg (by rw [h2]; simp), if_pos h3]
theorem nextOut_rest {S : Sh} {r : Int} (h : S.Ok) (h2 : inR r 0 (S.nr - 1) = true) (h3 : S.nf ≠ 12) : S.nextOut r = if S.cheapOut.2 ≠ 0 then (0, S.cheapOut.2) else if (S.more r).cheapOut.2 ≠ 0 then (0, (S.more r).cheapOut.2) else ((S.more r).cheapOut.1 - S.cheapOut.1, 0) := by unfold Sh.nextOut; rw [if_neg (not_not_intro h), if_neg (by rw [h2]; simp), if_neg h3]
set_option maxHeartbeats 4000000 in
set_option maxRecDepth 100000 in
theorem Next_any (Ar Af : Option Addr) (cr cf : Nat) (S : Sh) (r : Int) (w : World) (hr : S.nr ≤ 9223372036854775807) (hf : S.nf ≤ 9223372036854775807) (hcap : S.nf ≤ cf) (_ : cf ≤ 9223372036854775807) (hnil : Af = none → S.nf = 0 ∧ cf = 0) (hS : ShAt w Ar Af S) (hN : NoneAt w) :
    Calls Tryd.prog 35 #[.agg #[.slice Ar S.nr cr, .slice Af S.nf cf, .int .i64 S.deep, .int .i64 S.haul, .int .i64 S.rest], .int .i64 r] w fun e w' => e = .returned (.tuple #[.int .i64 (S.nextOut r).1, .int .i64 (S.nextOut r).2]) ∧ Below w.heap.size w w' := by
  have hb0 := bAlloc (Below.refl w.heap.size w) (.cells #[.slice Ar S.nr cr, .slice Af S.nf cf, .int .i64 S.deep, .int .i64 S.haul, .int .i64 S.rest] 25)
  have HS := Lib.hid (hS.mono hb0)
  have HN := Lib.hid (hN.mono hb0)
  have HB := Lib.hid hb0
  have HNIL := Lib.hid hnil
  have HS0 := Lib.hid hS
  have HN0 := Lib.hid hN
  clear hS hb0 hN hnil
  have e1 : IntKind.i64.wrap ((S.nr : Int) - 1) = (S.nr : Int) - 1 := IntWalk.i64_in _ (by omega)
  have E1 := Lib.hid e1
  clear e1
  by_cases hok : S.Ok
  · cases hin : inR r 0 ((S.nr : Int) - 1)
    · have HE := Lib.hid (nextOut_arg hok hin)
      go_enter Tryd.func35, Tryd.ntmps35
      go_wp2_with fail
      have e1 := E1.out
      refine wp_region_new 11 12 6 20 75 #[.slice none 0 0, .slice none 0 0, .int .i64 0, .int .i64 0, .int .i64 0] (by kernel_rfl) (by kernel_rfl) (by rfl) (by rfl) (by rfl) (by rfl) (by rfl) (by rfl) (fun _ => by kernel_rfl) (by kernel_rfl) (by simp) ?_
      repeat (first | (refine wpCalm_skip rfl ?_) | (refine wpCalm_step rfl (fun K hK => ?_); go_simp; (first | (refine hK _ ?_; clear hK K) | (apply Exists.intro; refine ⟨fun _ => ?_, hK _ ?_⟩; ((first | (go_at_call 62; exact within_q _ _ _ _) | (go_at_call 67; exact open_no _ _ _ _ S _ _ hr hf (HS.out.mono (below_regrown _ _ _)) 1 (.inr ⟨hok, rfl, rfl⟩)))); clear hK K))))
      refine wpCalm_nil ?_
      clear e1
      refine ⟨#[.slice none 0 0, .slice none 0 0, .int .i64 0, .int .i64 0, .int .i64 0], rfl, rfl, by simp [Value.oneCell'], ?_⟩
      intro b w1 hb1 hbb hb2 hblk
      have hbc : ∀ i, World.cell? w1 ⟨b, i, none⟩ = (#[.slice none 0 0, .slice none 0 0, .int .i64 0, .int .i64 0, .int .i64 0] : Array Value)[i]? := fun i => cell_of_row w1 b i _ _ _ hblk
      simp only [Act.put, List.setIfInBounds_toArray, List.set_cons_succ, List.set_cons_zero]
      go_wp2_with fail
      go_ret2
      exact ⟨by rw [HE.out]; rfl, by (repeat (first | (with_reducible exact Below.refl _ _) | (with_reducible refine bAlloc ?_ _) | (with_reducible refine bDrew ?_) | (with_reducible refine bGrow ?_ _ _) | (with_reducible refine bSet ?_ ?_ _; (first | exact Nat.le_refl _ | exact Nat.le_add_right _ _ | (simp; omega))) | (with_reducible refine bTrans ?_ (by assumption))))⟩
    · have HIN := Lib.hid hin
      by_cases h12 : S.nf = 12
      · have HE := Lib.hid (nextOut_many hok hin h12)
        have h13 : ((S.nf : Int) == 12) = true := by simp; omega
        have H12 := Lib.hid h12
        clear h12 hin
        have hin : inR r 0 ((S.nr : Int) - 1) = true := HIN.out
        go_enter Tryd.func35, Tryd.ntmps35
        go_wp2_with fail
        have e1 := E1.out
        refine wp_region_new 11 12 6 20 75 #[.slice none 0 0, .slice none 0 0, .int .i64 0, .int .i64 0, .int .i64 0] (by kernel_rfl) (by kernel_rfl) (by rfl) (by rfl) (by rfl) (by rfl) (by rfl) (by rfl) (fun _ => by kernel_rfl) (by kernel_rfl) (by simp) ?_
        repeat (first | (refine wpCalm_skip rfl ?_) | (refine wpCalm_step rfl (fun K hK => ?_); go_simp; (first | (refine hK _ ?_; clear hK K) | (apply Exists.intro; refine ⟨fun _ => ?_, hK _ ?_⟩; ((first | (go_at_call 62; exact within_q _ _ _ _) | (go_at_call 67; exact open_yes _ _ _ _ S _ hok (HS.out.mono (below_regrown _ _ _))))); clear hK K))))
        refine wpCalm_nil ?_
        clear e1
        refine ⟨#[.slice Ar S.nr cr, .slice Af S.nf cf, .int .i64 S.deep, .int .i64 S.haul, .int .i64 S.rest], rfl, rfl, by simp [Value.oneCell'], ?_⟩
        intro b w1 hb1 hbb hb2 hblk
        have hbc : ∀ i, World.cell? w1 ⟨b, i, none⟩ = (#[.slice Ar S.nr cr, .slice Af S.nf cf, .int .i64 S.deep, .int .i64 S.haul, .int .i64 S.rest] : Array Value)[i]? := fun i => cell_of_row w1 b i _ _ _ hblk
        simp only [Act.put, List.setIfInBounds_toArray, List.set_cons_succ, List.set_cons_zero]
        obtain ⟨bc1, bf1⟩ := bcell hb1
        have hz1 := hb1.size
        simp only [World.size_alloc] at hz1
        have hy1 : w.heap.size < w1.heap.size := hz1
        go_wp2_with fail
        go_ret2
        exact ⟨by rw [HE.out]; rfl, by (repeat (first | (with_reducible exact Below.refl _ _) | (with_reducible refine bAlloc ?_ _) | (with_reducible refine bDrew ?_) | (with_reducible refine bGrow ?_ _ _) | (with_reducible refine bSet ?_ ?_ _; (first | exact Nat.le_refl _ | exact Nat.le_add_right _ _ | (simp; omega))) | (with_reducible refine bTrans ?_ (by assumption))))⟩
      · have HE := Lib.hid (nextOut_rest hok hin h12)
        have h13 : ((S.nf : Int) == 12) = false := by simp; omega
        have hnf := hok.nf
        have hmo := hok.more (r := r) (by have := inR_iff.1 hin; omega) (by have := inR_iff.1 hin; omega) (by omega)
        obtain ⟨q0, q1⟩ := cheapOut_bd hok
        obtain ⟨q2, q3⟩ := cheapOut_bd hmo
        obtain ⟨n1, x1, hc1⟩ : ∃ n e, S.cheapOut = (n, e) := ⟨_, _, rfl⟩
        obtain ⟨n2, x2, hc2⟩ : ∃ n e, (S.more r).cheapOut = (n, e) := ⟨_, _, rfl⟩
        rw [hc1] at q0 q1
        rw [hc2] at q2 q3
        dsimp only at q0 q1 q2 q3
        have HC1 := Lib.hid hc1
        have HC2 := Lib.hid hc2
        have HMO := Lib.hid hmo
        clear hc1 hc2 hmo
        have hcase : (x1 ≠ 0 ∧ (x1 != 0) = true ∧ S.nextOut r = (0, x1)) ∨ (x1 = 0 ∧ x2 ≠ 0 ∧ (x2 != 0) = true ∧ S.nextOut r = (0, x2)) ∨ (x1 = 0 ∧ x2 = 0 ∧ S.nextOut r = (n2 - n1, 0)) := by
          rw [HE.out, HC1.out, HC2.out]
          by_cases h1 : x1 = 0
          · by_cases h2 : x2 = 0
            · exact .inr (.inr ⟨h1, h2, by simp [h1, h2]⟩)
            · exact .inr (.inl ⟨h1, h2, by simp [h2], by simp [h1, h2]⟩)
          · exact .inl ⟨h1, by simp [h1], by simp [h1]⟩
        have HQ := Lib.hid (And.intro (And.intro q0 q1) (And.intro q2 q3))
        clear HE h12 q0 q1 q2 q3
        rcases hcase with ⟨h1, h2, he⟩ | ⟨rfl, h1, h2, he⟩ | ⟨rfl, rfl, he⟩
        · have HE := Lib.hid he
          clear he h1
          go_enter Tryd.func35, Tryd.ntmps35
          go_wp2_with fail
          have e1 := E1.out
          refine wp_region_new 11 12 6 20 75 #[.slice none 0 0, .slice none 0 0, .int .i64 0, .int .i64 0, .int .i64 0] (by kernel_rfl) (by kernel_rfl) (by rfl) (by rfl) (by rfl) (by rfl) (by rfl) (by rfl) (fun _ => by kernel_rfl) (by kernel_rfl) (by simp) ?_
          repeat (first | (refine wpCalm_skip rfl ?_) | (refine wpCalm_step rfl (fun K hK => ?_); go_simp; (first | (refine hK _ ?_; clear hK K) | (apply Exists.intro; refine ⟨fun _ => ?_, hK _ ?_⟩; ((first | (go_at_call 62; exact within_q _ _ _ _) | (go_at_call 67; exact open_yes _ _ _ _ S _ hok (HS.out.mono (below_regrown _ _ _))))); clear hK K))))
          refine wpCalm_nil ?_
          clear e1
          refine ⟨#[.slice Ar S.nr cr, .slice Af S.nf cf, .int .i64 S.deep, .int .i64 S.haul, .int .i64 S.rest], rfl, rfl, by simp [Value.oneCell'], ?_⟩
          intro b w1 hb1 hbb hb2 hblk
          have hbc : ∀ i, World.cell? w1 ⟨b, i, none⟩ = (#[.slice Ar S.nr cr, .slice Af S.nf cf, .int .i64 S.deep, .int .i64 S.haul, .int .i64 S.rest] : Array Value)[i]? := fun i => cell_of_row w1 b i _ _ _ hblk
          simp only [Act.put, List.setIfInBounds_toArray, List.set_cons_succ, List.set_cons_zero]
          obtain ⟨bc1, bf1⟩ := bcell hb1
          have hz1 := hb1.size
          simp only [World.size_alloc] at hz1
          have hy1 : w.heap.size < w1.heap.size := hz1
          go_wp2_with (go_at_call 24; refine (Cheap_any _ _ _ _ S _ hr hf (HS.out.mono hb1) (HN.out.mono hb1)).mono ?_; rintro ee w2 ⟨he1, hb2⟩; rw [HC1.out] at he1; subst he1; obtain ⟨bc2, bf2⟩ := bcell hb2; have hz2 := hb2.size; have hy2 : w.heap.size < w2.heap.size := (by omega))
          go_ret2
          exact ⟨by rw [HE.out]; rfl, by (repeat (first | (with_reducible exact Below.refl _ _) | (with_reducible refine bAlloc ?_ _) | (with_reducible refine bDrew ?_) | (with_reducible refine bGrow ?_ _ _) | (with_reducible refine bSet ?_ ?_ _; (first | exact Nat.le_refl _ | exact Nat.le_add_right _ _ | (simp; omega))) | (with_reducible refine bTrans ?_ (by assumption))))⟩
        all_goals
          have HE := Lib.hid he
          clear he
          obtain ⟨i0, hi, iz0, iz1, iz2⟩ := info_parts infoInt
          go_enter Tryd.func35, Tryd.ntmps35
          go_wp2_with fail
          have e1 := E1.out
          refine wp_region_new 11 12 6 20 75 #[.slice none 0 0, .slice none 0 0, .int .i64 0, .int .i64 0, .int .i64 0] (by kernel_rfl) (by kernel_rfl) (by rfl) (by rfl) (by rfl) (by rfl) (by rfl) (by rfl) (fun _ => by kernel_rfl) (by kernel_rfl) (by simp) ?_
          repeat (first | (refine wpCalm_skip rfl ?_) | (refine wpCalm_step rfl (fun K hK => ?_); go_simp; (first | (refine hK _ ?_; clear hK K) | (apply Exists.intro; refine ⟨fun _ => ?_, hK _ ?_⟩; ((first | (go_at_call 62; exact within_q _ _ _ _) | (go_at_call 67; exact open_yes _ _ _ _ S _ hok (HS.out.mono (below_regrown _ _ _))))); clear hK K))))
          refine wpCalm_nil ?_
          clear e1
          refine ⟨#[.slice Ar S.nr cr, .slice Af S.nf cf, .int .i64 S.deep, .int .i64 S.haul, .int .i64 S.rest], rfl, rfl, by simp [Value.oneCell'], ?_⟩
          intro b w1 hb1 hbb hb2 hblk
          have hbc : ∀ i, World.cell? w1 ⟨b, i, none⟩ = (#[.slice Ar S.nr cr, .slice Af S.nf cf, .int .i64 S.deep, .int .i64 S.haul, .int .i64 S.rest] : Array Value)[i]? := fun i => cell_of_row w1 b i _ _ _ hblk
          simp only [Act.put, List.setIfInBounds_toArray, List.set_cons_succ, List.set_cons_zero]
          obtain ⟨bc1, bf1⟩ := bcell hb1
          have hz1 := hb1.size
          simp only [World.size_alloc] at hz1
          have hy1 : w.heap.size < w1.heap.size := hz1
          have HB1 := Lib.hid hb1
          clear hb1 hblk hbc hb2 hbb
          go_wp2_with fail
          refine (Cheap_any _ _ _ _ S _ hr hf (HS.out.mono HB1.out) (HN.out.mono HB1.out)).mono ?_
          rintro ee w2 ⟨he1, hb2⟩
          rw [HC1.out] at he1
          subst he1
          obtain ⟨bc2, bf2⟩ := bcell hb2
          have hz2 := hb2.size
          have hy2 : w.heap.size < w2.heap.size := (by omega)
          have HB2 := Lib.hid (bTrans HB1.out hb2)
          clear hb2
          have HI2 := Lib.hid ((HS.out.mono HB2.out).feet)
          have HR2 := Lib.hid ((HS.out.mono HB2.out).rocks)
          have HN2 := Lib.hid (HN.out.mono HB2.out)
          go_wp2_with (at_builtin; refine wpList_app_full _ rfl _ _ rfl Af S.nf S.foot rfl (fun h => (HNIL.out h).1) (HI2.out.alloc _) ⟨w2.heap.size, 0, none⟩ r rfl (by go_simp) (by omega) ?_)
          intro b3 c3 w3 hI3 hb3 hc3 hc4 hp3
          have hb3 : Below _ _ w3 := hb3
          have hz3 := hb3.size
          simp only [World.size_alloc] at hz3 hp3
          have hy3 : w.heap.size < w3.heap.size := (by omega)
          have HB3 := Lib.hid (bTrans HB2.out (bTrans (bAlloc (Below.refl _ _) _) hb3))
          have HI3 := Lib.hid (hI3.other (p := ⟨w.heap.size, 1, none⟩) (fun q hq => by injection hq with hq; subst hq; simp; omega) (.slice (some ⟨b3, 0, none⟩) (S.nf + 1) c3))
          clear hI3 hb3 bc1 bf1 bc2 bf2
          obtain ⟨bc3, bf3⟩ := bcell HB3.out
          go_wp2_with fail
          have HB4 := Lib.hid (bSet (p := ⟨w.heap.size, 1, none⟩) (Nat.le_refl _) (bTrans HB.out HB3.out) (.slice (some ⟨b3, 0, none⟩) (S.nf + 1) c3))
          refine (Cheap_any _ _ _ _ (S.more r) _ hr (by show S.nf + 1 ≤ _; omega) ⟨HS0.out.rocks.mono HB4.out, HI3.out⟩ (HN0.out.mono HB4.out)).mono ?_
          rintro ee w5 ⟨he5, hb5⟩
          rw [HC2.out] at he5
          subst he5
          obtain ⟨⟨q0, q1⟩, q2, q3⟩ := HQ.out
          go_wp2_with fail
          go_ret2
          exact ⟨by rw [HE.out]; rfl, bTrans HB4.out hb5⟩
  · have HE := Lib.hid (nextOut_bad (r := r) hok)
    go_enter Tryd.func35, Tryd.ntmps35
    go_wp2_with fail
    have e1 := E1.out
    refine wp_region_new 11 12 6 20 75 #[.slice none 0 0, .slice none 0 0, .int .i64 0, .int .i64 0, .int .i64 0] (by kernel_rfl) (by kernel_rfl) (by rfl) (by rfl) (by rfl) (by rfl) (by rfl) (by rfl) (fun _ => by kernel_rfl) (by kernel_rfl) (by simp) ?_
    repeat (first | (refine wpCalm_skip rfl ?_) | (refine wpCalm_step rfl (fun K hK => ?_); go_simp; (first | (refine hK _ ?_; clear hK K) | (apply Exists.intro; refine ⟨fun _ => ?_, hK _ ?_⟩; ((first | (go_at_call 62; exact within_q _ _ _ _) | (go_at_call 67; exact open_no _ _ _ _ S _ _ hr hf (HS.out.mono (below_regrown _ _ _)) 20 (.inl ⟨hok, rfl⟩)))); clear hK K))))
    refine wpCalm_nil ?_
    clear e1
    refine ⟨#[.slice none 0 0, .slice none 0 0, .int .i64 0, .int .i64 0, .int .i64 0], rfl, rfl, by simp [Value.oneCell'], ?_⟩
    intro b w1 hb1 hbb hb2 hblk
    have hbc : ∀ i, World.cell? w1 ⟨b, i, none⟩ = (#[.slice none 0 0, .slice none 0 0, .int .i64 0, .int .i64 0, .int .i64 0] : Array Value)[i]? := fun i => cell_of_row w1 b i _ _ _ hblk
    simp only [Act.put, List.setIfInBounds_toArray, List.set_cons_succ, List.set_cons_zero]
    go_wp2_with fail
    go_ret2
    exact ⟨by rw [HE.out]; rfl, by (repeat (first | (with_reducible exact Below.refl _ _) | (with_reducible refine bAlloc ?_ _) | (with_reducible refine bDrew ?_) | (with_reducible refine bGrow ?_ _ _) | (with_reducible refine bSet ?_ ?_ _; (first | exact Nat.le_refl _ | exact Nat.le_add_right _ _ | (simp; omega))) | (with_reducible refine bTrans ?_ (by assumption))))⟩
end Go.Proofs.YtbbnpneabmldnaaDoor
