/- Parts joined: what the claim PlacesLoosen needs beyond the others. -/
import Derived.Test.YtjpfdhhiofjpbaaGreatDoorNQA
import Derived.Test.YtjpfdhhiofjpbaaGreatDoorNQB
import Derived.Test.YtjpfdhhiofjpbaaGreatDoorNQC
import Derived.Test.YtjpfdhhiofjpbaaGreatDoorNQD
import Derived.Test.YtjpfdhhiofjpbaaGreatDoorNQE
import Derived.Test.YtjpfdhhiofjpbaaGreatDoorNQF
import Derived.Test.YtjpfdhhiofjpbaaGreatDoorNQG
import Derived.Test.YtjpfdhhiofjpbaaGreatDoorNQH
import Derived.Test.YtjpfdhhiofjpbaaGreatDoorNQI
import Derived.Test.YtjpfdhhiofjpbaaGreatDoorNQJ
import Derived.Test.YtjpfdhhiofjpbaaGreatDoorNQK
import Derived.Test.YtjpfdhhiofjpbaaGreatDoorNQL
import Derived.Test.YtjpfdhhiofjpbaaGreatDoorNQM
import Derived.Test.YtjpfdhhiofjpbaaGreatDoorNQN
import Derived.Test.YtjpfdhhiofjpbaaGreatDoorNQO
import Derived.Test.YtjpfdhhiofjpbaaGreatDoorNQP
import Derived.Test.YtjpfdhhiofjpbaaGreatDoorNQQ
import Derived.Test.YtjpfdhhiofjpbaaGreatDoorNQR
import Derived.Test.YtjpfdhhiofjpbaaGreatDoorNQS
import Derived.Test.YtjpfdhhiofjpbaaGreatDoorNQT
import Derived.Test.YtjpfdhhiofjpbaaGreatDoorNQU
set_option linter.unusedSimpArgs false
set_option linter.unusedVariables false
namespace Go.Proofs.YtjpfdhhiofjpbaaGreatDoor
open Go.RowKit Go.Sort
theorem intL0_mem {L : List Int} {k : Nat} (h : k < L.length) : intL0 L k ∈ L := by
  unfold intL0
  rw [List.getElem?_eq_getElem h]
  exact List.getElem_mem h
theorem mem_intL0 {L : List Int} {x : Int} (h : x ∈ L) : ∃ k, k < L.length ∧ intL0 L k = x := by
  obtain ⟨k, hk, he⟩ := List.getElem_of_mem h
  exact ⟨k, hk, by unfold intL0; rw [List.getElem?_eq_getElem hk]; exact he⟩
/-! ### How many tests are enough -/
end Go.Proofs.YtjpfdhhiofjpbaaGreatDoor

namespace Go.Proofs.YtjpfdhhiofjpbaaGreatDoor
open Go.RowKit Go.Sort
/-! ### What is known -/
theorem cntB_zero {p : Nat → Bool} : ∀ {n : Nat}, cntB p n = 0 ↔ ∀ i, i < n → p i = false
  | 0 => by simp [cntB]
  | n + 1 => by
    have ih := cntB_zero (p := p) (n := n)
    unfold cntB
    split
    · rename_i h
      exact ⟨fun e => by omega, fun e => by rw [e n (by omega)] at h; cases h⟩
    · rename_i h
      rw [ih]
      refine ⟨fun e i hi => ?_, fun e i hi => e i (by omega)⟩
      rcases Nat.lt_or_ge i n with h1 | h1
      · exact e i h1
      · obtain rfl : i = n := by omega
        simpa using h
/-! ### Draws -/
end Go.Proofs.YtjpfdhhiofjpbaaGreatDoor

namespace Go.Proofs.YtjpfdhhiofjpbaaGreatDoor
open Go.RowKit Go.Sort
theorem CopyAt9.mono {w w' : World} {base : Nat} {vW vF vO vP vS : Value} {t : Pt} (h : CopyAt9 w base vW vF vO vP vS t) (hb : Below w.heap.size w w') : CopyAt9 w' base vW vF vO vP vS t := by
  obtain ⟨h1, h2, h3, us, h4, h5⟩ := h
  exact ⟨h1.mono hb, owns_below h2 hb, owns_below h3 hb, us, owns_below h4 hb, h5.mono hb⟩
theorem CopyAt9.lower {w : World} {base base' : Nat} {vW vF vO vP vS : Value} {t : Pt} (h : CopyAt9 w base vW vF vO vP vS t) (hb : base' ≤ base) : CopyAt9 w base' vW vF vO vP vS t := by
  obtain ⟨h1, h2, h3, us, h4, h5⟩ := h
  exact ⟨h1.lower hb, owns_lower h2 hb, owns_lower h3 hb, us, owns_lower h4 hb, h5⟩
end Go.Proofs.YtjpfdhhiofjpbaaGreatDoor

namespace Go.Proofs.YtjpfdhhiofjpbaaGreatDoor
open Go.RowKit Go.Sort Go.Shelf
attribute [local go_sem] Oper.semAt_some
set_option maxHeartbeats 8000000 in
set_option maxRecDepth 100000 in
theorem freeP_any (Aw Af Ao Ap As : Option Addr) (cw cf co cp cs : Nat) (t : Pt) (w : World) (hs : t.Small) (hT : PAt w Aw Af Ao Ap As t) (hB : TabAt w) (hN : NoneAt w) :
    Calls Tryz.prog 33 #[.agg #[.int .i64 t.q.wells, .slice Aw t.q.nw cw, .slice Af t.q.nf cf, .slice Ao t.no co, .slice Ap t.np cp, .slice As t.ns cs, .int .i64 t.far, .int .i64 t.harm, .int .i64 t.many]] w fun e w' => NumsOut w' w.heap.size (t.knowErr true) t.frees e ∧ Below w.heap.size w w' := by
  have hb0 := bAlloc (Below.refl w.heap.size w) (.cells #[.int .i64 t.q.wells, .slice Aw t.q.nw cw, .slice Af t.q.nf cf, .slice Ao t.no co, .slice Ap t.np cp, .slice As t.ns cs, .int .i64 t.far, .int .i64 t.harm, .int .i64 t.many] 29)
  have HT := Lib.hid (hT.mono hb0)
  have HTB := Lib.hid (hB.mono hb0)
  have HNA := Lib.hid (hN.mono hb0)
  have HB0 := Lib.hid hb0
  have HSM := Lib.hid hs
  obtain ⟨er, her⟩ : ∃ v, t.knowErr true = v := ⟨_, rfl⟩
  have HER := Lib.hid her
  rw [her]
  clear hs hT hB hN hb0 her
  refine (callsIn_wide (n := 7)).1 ?_
  refine callsIn_of_wp_marks Tryz.func33 rfl trivial ?_ rfl
  simp only [Tryz.ntmps33, List.size_toArray, List.length_cons, List.length_nil, Nat.reduceAdd, Nat.reduceSub, Array.replicate_succ, Array.replicate_zero, List.push_toArray, List.append_toArray, List.nil_append, List.cons_append]
  gi_wp2
  refine ⟨trivial, (callsIn_wide.2 (openP_any Aw Af Ao Ap As cw cf co cp cs t true _ HSM.out HT.out HTB.out)).mono ?_⟩
  rintro e w1 ⟨ho, hb1⟩
  rw [HER.out] at ho
  have HB1 := Lib.hid (bTrans HB0.out hb1)
  have hz1 := hb1.size
  simp only [World.size_alloc] at hz1
  by_cases he : er = 0
  case neg =>
    obtain rfl := ho.1 he
    have g0 : (er != 0) = true := by simp [he]
    have HZ := Lib.hid he
    clear ho he hb1
    gi_wp2
    exact ⟨_, results_tmp2 rfl _ _ _, ⟨fun h => absurd h HZ.out, fun _ => rfl⟩, HB1.out⟩
  subst he
  obtain ⟨ok, _, _⟩ := Pt.knowErr_zero HER.out
  obtain ⟨C, Al, cl, rfl, hst, _⟩ := ho.2 rfl
  have HNA1 := Lib.hid (HNA.out.mono hb1)
  have hb2 : Below w1.heap.size w1 (w1.alloc (.cells #[.slice none 0 0] 26)) := bAlloc (Below.refl _ _) _
  have HSEQ := Lib.hid (free_seq 6 C Aw Af Ao Ap As cw cf co cp cs t Al cl w1 (w1.alloc (.cells #[.slice none 0 0] 26)) (by decide) hst HNA1.out hb2 ok HSM.out)
  have HB2 := Lib.hid hb2
  have hlen : t.frees.length ≤ 100 := by
    have := selTo_len t.freeB t.ns
    have := ok.ns
    unfold Pt.frees
    omega
  have HLEN := Lib.hid hlen
  clear ho hst ok hb2 hlen hb1
  gi_wp2
  refine wpIn_range_caps (gf := 104) (bnd := #[.pointer (some ⟨C, 0, none⟩)]) (lb := #[]) rfl (by decide) rfl trivial (enters_of Tryz.func104 (by kernel_rfl)) HSEQ.out below_chain (fun W l o o' hl _ _ => below_putB (Below.refl _ _) (by simp at hl; omega) _) (fun _ => rfl)
    (fun pre W => (∃ v, Boxed W w1.heap.size 26 v ∧ W.ownsRow (w1.heap.size + 1) 3 1 v pre.length (intE.cells pre) ∧ True) ∧ Below w1.heap.size w1 W)
    (fun c pre W => False)
    (OwnFrom.and (Own.from (holdsRow_own (w1.heap.size + 1) w1.heap.size 26 3 1 List.length intE.cells (fun _ _ => True)) _) (ownFrom_below (Nat.le_refl _) (by simp)))
    (fun c _ _ _ _ hs _ _ => hs)
    ⟨⟨_, Boxed.new w1 _ _, World.ownsRow_nil _ _ _ _, trivial⟩, HB2.out⟩
    (fun x a' W => ∃ u0 u1 u2 u3 u4 u5 u8 u9 u10 u11 u12 u13 u14 u15 u16 u17 u18 u19 u20 u21 u22 u23 u24, a' = { tmps := #[u0, u1, u2, u3, u4, u5, .pointer (some ⟨w1.heap.size, 0, none⟩), .int .i64 x, u8, u9, u10, u11, u12, u13, u14, u15, u16, u17, u18, u19, u20, u21, u22, u23, u24], defers := [] })
    (fun x a' _ X Y row hs hg hr => hs) ?assign ?body ?done ?stop
  case assign =>
    rintro l pre x W K hsz hI hK
    simp only [encF]
    gi_wp2
    exact hK _ _ (KeepsFrom.refl _ _) (Below.refl _ _) hI ⟨_, _, _, _, _, _, _, _, _, _, _, _, _, _, _, _, _, _, _, _, _, _, _, rfl⟩
  case body =>
    rintro l pre x a' W hsz ⟨⟨v, hv, hrow, _⟩, hbel⟩ ⟨u0, u1, u2, u3, u4, u5, u8, u9, u10, u11, u12, u13, u14, u15, u16, u17, u18, u19, u20, u21, u22, u23, u24, rfl⟩ hlen
    have HBL := Lib.hid hbel
    have HV := Lib.hid hv
    have HR := Lib.hid (show OwnE intE W (w1.heap.size + 1) v pre from hrow)
    have hpl : pre.length ≤ 100 := by
      have h1 := hlen.length_le
      rw [List.length_append] at h1
      have := HLEN.out
      omega
    have y0 := hv.cell
    have y1 := hv.frozen
    have z0 := hv.lt
    simp only [World.size_alloc] at hsz
    clear hbel hrow hlen hv
    gi_wp2_with (gi_at_builtin; refine wpListIn_snocE intG _ rfl (Operand.tmp 20) (Operand.tmp 22) rfl (w1.heap.size + 1) v pre x rfl ?q1 W.heap.size rfl ?q2 ?q3 ?q4 ?_)
    case q1 => exact HR.out.mono (bAlloc (Below.refl _ _) _)
    case q2 =>
      intro a u hu
      match a, hu with
      | 0, hu =>
        obtain rfl : Value.int .i64 x = u := by simpa [intE] using hu
        simp [go_sem]
    case q3 => omega
    case q4 => simp; omega
    intro v' w5 hown5 hb5 hg5
    have HB5 := Lib.hid (hb5 w1.heap.size w1 (by omega) (bAlloc HBL.out _))
    have hrowA : World.ownsRow (W.alloc (.cells #[.int .i64 x] 3)) (w1.heap.size + 1) 3 1 v pre.length (intE.cells pre) := owns_below HR.out (bAlloc (Below.refl _ _) _)
    have hv5 := (HV.out.alloc (.cells #[.int .i64 x] 3)).kept hg5 (Boxed.not_row (e := 3) (HV.out.alloc _) (by decide) hrowA)
    clear hrowA
    obtain ⟨g5, c5, rfl⟩ := owns_some hown5 (by simp)
    obtain ⟨n5, hn5⟩ : ∃ n5, (pre ++ [x]).length = n5 := ⟨_, rfl⟩
    rw [hn5] at hown5 ⊢
    clear hn5
    have HV5 := Lib.hid hv5
    have HO5 := Lib.hid hown5
    have HG5 := Lib.hid hg5
    have y5 := hv5.cell
    have y6 := hv5.frozen
    have z5 := hv5.lt
    have hz5 := hg5.size
    simp only [World.size_alloc] at hz5
    clear hb5 hg5 hv5 hown5 y0 y1
    gi_wp2
    have hbN : Below w1.heap.size w1 (w5.setCell ⟨w1.heap.size, 0, none⟩ (.slice (some ⟨g5, 0, none⟩) n5 c5)) := Below.setCell (p := ⟨w1.heap.size, 0, none⟩) HB5.out (Nat.le_refl _) _
    refine ⟨?_, ⟨hbN.os.trans HBL.out.os.symm, hbN.tape.trans HBL.out.tape.symm, hbN.output.trans HBL.out.output.symm, by simp [World.setCell]; omega, fun k hk => (hbN.block k hk).trans (HBL.out.block k hk).symm⟩, ⟨⟨_, HV5.out.set _, HO5.out.set (b := w1.heap.size) (by omega) 0 _, trivial⟩, hbN⟩⟩
    refine ((keeps_below (bAlloc (Below.refl W.heap.size W) _)).trans ((KeepsOthers.of_grownBy HG5.out fun r ob e hob => ?_).from _)).trans ((KeepsOthers.setCell _ _ _).from _)
    obtain ⟨_, cur, hcur⟩ := owns_typed (owns_below HR.out (bAlloc (Below.refl _ _) (.cells #[.int .i64 x] 3))) r e
    rw [hcur] at hob
    injection hob with hob
    rw [← hob]
    rfl
  case done =>
    rintro D xs W hD hxs ⟨⟨v, hv, hrow, _⟩, hbel⟩ hK
    have HBL := Lib.hid hbel
    have HV := Lib.hid hv
    have HR := Lib.hid (show W.ownsRow (w1.heap.size + 1) 3 1 v t.frees.length (numL t.frees) by rw [← intE_cells, ← hxs]; exact hrow)
    have y0 := hv.cell
    clear hbel hv hrow hxs
    gi_wp2
    refine ⟨by simp, .inl ⟨_, _, rfl, run_takeDeferred hK, ?_⟩⟩
    simp only [World.size_alloc] at hD
    exact ⟨_, results_tmp2 rfl _ _ _, ⟨fun _ => ⟨v, rfl, owns_lower (ownsRow_putObj HR.out _ hK rfl) (by omega)⟩, fun h => absurd rfl h⟩, bTrans HB1.out (below_put HBL.out (by have := HV.out.lt; omega) (by omega) _)⟩
  case stop =>
    rintro D c pre W _ _ h _
    exact h.elim
end Go.Proofs.YtjpfdhhiofjpbaaGreatDoor

namespace Go.Proofs.YtjpfdhhiofjpbaaGreatDoor
open Go.RowKit Go.Sort
theorem Pt.m_np {t : Pt} (ok : t.Ok) : t.m = t.np := by have := ok.np; unfold Pt.m; omega
/-! ### towns in which less is forbidden -/
section
variable {o t : Pt} (h : Looser o t)
include h
theorem Looser.cheap {s : Nat} (hs : s < t.ns) : o.cheap s = t.cheap s := by unfold Pt.cheap; rw [h.sh s hs]
theorem Looser.canB {s : Nat} (hs : s < t.ns) : o.canB s = t.canB s := by unfold Pt.canB; rw [h.cheap hs]
theorem Looser.freeB {s : Nat} (hs : s < t.ns) (hf : t.freeB s = true) : o.freeB s = true := by
  unfold Pt.freeB at hf ⊢
  simp only [Bool.and_eq_true, Bool.not_eq_true'] at hf ⊢
  refine ⟨by rw [h.canB hs]; exact hf.1, anyB_false.2 fun w hw => ?_⟩
  rw [h.m] at hw
  cases hb : o.whoB s w
  · rfl
  · have := anyB_false.1 hf.2 w hw
    rw [h.who s w hs hw hb] at this
    cases this
end
/-! ### towns that are alike -/
section
variable {o t : Pt} (h : Twin o t)
include h
end
/-! ### pairs -/
end Go.Proofs.YtjpfdhhiofjpbaaGreatDoor

namespace Go.Proofs.YtjpfdhhiofjpbaaGreatDoor
open Go.RowKit Go.Sort
theorem selTo_nilQ {p : Nat → Bool} : ∀ {n : Nat}, selTo p n = [] ↔ anyB p n = false
  | 0 => by simp [selTo, anyB]
  | n + 1 => by
    have ih := selTo_nilQ (p := p) (n := n)
    unfold selTo anyB
    cases h : p n
    · simp [ih]
    · simp
end Go.Proofs.YtjpfdhhiofjpbaaGreatDoor

namespace Go.Proofs.YtjpfdhhiofjpbaaGreatDoor
open Go.RowKit Go.Sort
theorem inN_zero {t : Pt} {s w : Nat} : t.inN s w = 0 ↔ ∀ a, a ∈ t.q.leftL → t.forb s w a = false := by
  unfold Pt.inN Pt.inTo
  rw [cntB_zero]
  constructor
  · intro h a ha
    obtain ⟨i, hi, rfl⟩ := mem_intL0 ha
    exact h i hi
  · intro h i hi
    exact h _ (intL0_mem hi)
theorem whoB_iff {t : Pt} {s w : Nat} : t.whoB s w = true ↔ ∃ a, a ∈ t.q.leftL ∧ t.forb s w a = true := by
  unfold Pt.whoB
  rw [decide_eq_true_eq]
  constructor
  · intro h
    by_cases e : ∃ a, a ∈ t.q.leftL ∧ t.forb s w a = true
    · exact e
    · have : t.inN s w = 0 := inN_zero.2 fun a ha => by
        cases hf : t.forb s w a
        · rfl
        · exact absurd ⟨a, ha, hf⟩ e
      omega
  · rintro ⟨a, ha, hf⟩
    have : t.inN s w ≠ 0 := fun e => by rw [inN_zero.1 e a ha] at hf; cases hf
    omega
/-! ### one fact more -/
/-! ### the looser law -/
/-! ### the street, seen from the other end -/
/-! ### one spot more -/
/-! ### the least harm -/
theorem harmed_looser {t : Pt} (ok : t.Ok) {h h' : Int} (hh : h ≤ h') : Looser (t.harmed h') (t.harmed h) :=
  ⟨rfl, rfl, fun _ _ => rfl, fun w hw => ⟨rfl, (ok.pence w (by rw [← Pt.m_np ok]; exact hw)).1⟩, fun s w _ _ hx => by
    obtain ⟨a, h1, h2⟩ := whoB_iff.1 hx
    refine whoB_iff.2 ⟨a, h1, ?_⟩
    unfold Pt.forb Pt.harmed at h2 ⊢
    simp only [Bool.or_eq_true, decide_eq_true_eq] at h2 ⊢
    rcases h2 with h2 | h2
    · exact .inl h2
    · exact .inr (by omega)⟩
theorem anyFree_iff {t : Pt} : t.anyFree = true ↔ ∃ s, s < t.ns ∧ t.freeB s = true := anyB_true
theorem anyFree_frees {t : Pt} : t.anyFree = decide (0 < t.frees.length) := by
  refine Bool.eq_iff_iff.2 ?_
  rw [decide_eq_true_eq, List.length_pos_iff]
  unfold Pt.frees
  rw [Ne, selTo_nilQ]
  unfold Pt.anyFree
  simp
theorem anyFree_mono {t : Pt} (ok : t.Ok) {h h' : Int} (hh : h ≤ h') (hf : (t.harmed h).anyFree = true) : (t.harmed h').anyFree = true := by
  obtain ⟨s, h1, h2⟩ := anyFree_iff.1 hf
  exact anyFree_iff.2 ⟨s, h1, (harmed_looser ok hh).freeB h1 h2⟩
theorem loosen_spec {t : Pt} (ok : t.Ok) : t.loosen ≤ 100 ∧ ∀ h : Nat, h < 100 → ((t.harmed (h : Int)).anyFree = decide (t.loosen ≤ h)) := by
  obtain ⟨_, h2, h3, h4⟩ := firstFrom_spec (fun h => (t.harmed (h : Int)).anyFree) 100 0
  refine ⟨by unfold Pt.loosen; omega, fun h hh => ?_⟩
  unfold Pt.loosen
  by_cases hl : firstFrom (fun h => (t.harmed (h : Int)).anyFree) 100 0 ≤ h
  · rw [decide_eq_true hl]
    exact anyFree_mono ok (by omega) (h4 (by omega))
  · rw [decide_eq_false hl]
    exact h3 h (Nat.zero_le _) (by omega)
theorem best_isSome {t : Pt} : t.best.isSome = t.anyFree := by
  unfold Pt.best
  rcases minBy_spec (fun s => (t.cheap s).1) t.freeB t.ns with ⟨h1, h2⟩ | ⟨b, h1, h2, h3, _⟩
  · rw [h1]
    exact (anyB_false.2 h2).symm
  · rw [h1]
    exact (anyB_true.2 ⟨b, h2, h3⟩).symm
end Go.Proofs.YtjpfdhhiofjpbaaGreatDoor

namespace Go.Proofs.YtjpfdhhiofjpbaaGreatDoor
open Go.RowKit Go.Sort
set_option maxHeartbeats 4000000 in
set_option maxRecDepth 100000 in
theorem leftOf9_any (Aw Af Ao Ap As : Option Addr) (cw cf co cp cs : Nat) (t : Pt) (w : World) (ok : t.Ok) (hT : PAt w Aw Af Ao Ap As t) :
    Calls Tryz.prog 42 #[.agg #[.int .i64 t.q.wells, .slice Aw t.q.nw cw, .slice Af t.q.nf cf, .slice Ao t.no co, .slice Ap t.np cp, .slice As t.ns cs, .int .i64 t.far, .int .i64 t.harm, .int .i64 t.many]] w fun e w' => (∃ A c, e = .returned (.slice A t.q.leftL.length c) ∧ IntsAt w' A t.q.leftL.length (intL0 t.q.leftL)) ∧ Below w.heap.size w w' := by
  have HD0 := Lib.hid (Below.refl w.heap.size w)
  have HOK := Lib.hid ok
  have HT0 := Lib.hid hT
  clear ok hT
  go_enter Tryz.func42, Tryz.ntmps42
  go_wp2_with fail
  refine (refLeftOf Aw Af cw cf t.q _ HOK.out.q (HT0.out.mono (bAlloc (Below.refl _ _) (.cells #[.int .i64 t.q.wells, .slice Aw t.q.nw cw, .slice Af t.q.nf cf, .slice Ao t.no co, .slice Ap t.np cp, .slice As t.ns cs, .int .i64 t.far, .int .i64 t.harm, .int .i64 t.many] 29))).q).mono ?_
  rintro e w1 ⟨⟨v, rfl, hv⟩, hb⟩
  obtain ⟨A4, c4, rfl, hi4, _⟩ := left_base hv
  have hB1 : Below w.heap.size w w1 := bTrans (bAlloc (Below.refl _ _) (.cells #[.int .i64 t.q.wells, .slice Aw t.q.nw cw, .slice Af t.q.nf cf, .slice Ao t.no co, .slice Ap t.np cp, .slice As t.ns cs, .int .i64 t.far, .int .i64 t.harm, .int .i64 t.many] 29)) hb
  have HD1 := Lib.hid (bTrans HD0.out hB1)
  have HT1 := Lib.hid (HT0.out.mono hB1)
  have HI41 := Lib.hid (hi4)
  have T1 := Lib.hid (show TBox w1 w.heap.size 29 #[.int .i64 t.q.wells, .slice Aw t.q.nw cw, .slice Af t.q.nf cf, .slice Ao t.no co, .slice Ap t.np cp, .slice As t.ns cs, .int .i64 t.far, .int .i64 t.harm, .int .i64 t.many] from by have := ((TBox.new w #[.int .i64 t.q.wells, .slice Aw t.q.nw cw, .slice Af t.q.nf cf, .slice Ao t.no co, .slice Ap t.np cp, .slice As t.ns cs, .int .i64 t.far, .int .i64 t.harm, .int .i64 t.many] 29).mono (Below.refl _ _)).mono hb; simpa using this)
  clear hb hB1 HD0 HT0
  obtain ⟨T_0, T_1, T_2, T_3, T_4, T_5, T_6, T_7, T_8, T_l⟩ := T1.out.c9
  clear hv hi4
  go_wp2_with fail
  go_ret
  exact ⟨⟨A4, c4, rfl, HI41.out⟩, HD1.out⟩
end Go.Proofs.YtjpfdhhiofjpbaaGreatDoor

namespace Go.Proofs.YtjpfdhhiofjpbaaGreatDoor
open Go.RowKit Go.Sort
/-- what Harmed hands back -/
def HrOut (w : World) (t : Pt) (h : Int) (e : Ending) : Prop := ∃ Bw dw Bf df Bo do_ Bp dp Bs ds, e = .returned (.agg #[.int .i64 t.q.wells, .slice Bw t.q.nw dw, .slice Bf t.q.nf df, .slice Bo t.no do_, .slice Bp t.np dp, .slice Bs t.ns ds, .int .i64 t.far, .int .i64 h, .int .i64 t.many]) ∧ PAt w Bw Bf Bo Bp Bs (t.harmed h)
theorem CopyAt9.harmed {w : World} {base : Nat} {vW vF vO vP vS : Value} {t : Pt} (h : CopyAt9 w base vW vF vO vP vS t) (x : Int) : CopyAt9 w base vW vF vO vP vS (t.harmed x) := ⟨h.q, h.old, h.pence, h.spots⟩
theorem CopyAt9.setTy {w : World} {base : Nat} {vW vF vO vP vS : Value} {t : Pt} (h : CopyAt9 w base vW vF vO vP vS t) {b : Nat} (hb : ∃ cs, TBox w b 29 cs) (o : Nat) (u : Value) : CopyAt9 (w.setCell ⟨b, o, none⟩ u) base vW vF vO vP vS t := by
  obtain ⟨h1, h2, h3, us, h4, h5⟩ := h
  obtain ⟨cs, hx⟩ := hb
  have hb : ∃ cs, TBox w b 29 cs := ⟨cs, hx⟩
  exact ⟨h1.setTy hb o u, owns_setTy h2 hb (by decide) o u, owns_setTy h3 hb (by decide) o u, us, owns_setTy h4 hb (by decide) o u, h5.kept (Kept.set (l := [3, 26, 146]) hx (by decide) o u) (by simp) (by simp) (by simp)⟩
theorem hr_of {w : World} {base : Nat} {vW vF vO vP vS : Value} {t : Pt} {x : Int} (h : CopyAt9 w base vW vF vO vP vS (t.harmed x)) : HrOut w t x (.returned (.agg #[.int .i64 t.q.wells, vW, vF, vO, vP, vS, .int .i64 t.far, .int .i64 x, .int .i64 t.many])) := by
  obtain ⟨Aw, cw, Af, cf, Ao, co, Ap, cp, As, cs, rfl, rfl, rfl, rfl, rfl, hU⟩ := h.pat
  exact ⟨_, _, _, _, _, _, _, _, _, _, rfl, hU⟩
set_option maxHeartbeats 4000000 in
set_option maxRecDepth 100000 in
theorem harmed9_any (Aw Af Ao Ap As : Option Addr) (cw cf co cp cs : Nat) (t : Pt) (h : Int) (w : World) (hs : t.Fits) (hT : PAt w Aw Af Ao Ap As t) :
    Calls Tryz.prog 46 #[.agg #[.int .i64 t.q.wells, .slice Aw t.q.nw cw, .slice Af t.q.nf cf, .slice Ao t.no co, .slice Ap t.np cp, .slice As t.ns cs, .int .i64 t.far, .int .i64 t.harm, .int .i64 t.many], .int .i64 h] w fun e w' => HrOut w' t h e ∧ Below w.heap.size w w' := by
  have HD0 := Lib.hid (Below.refl w.heap.size w)
  have HFI := Lib.hid hs
  have HT0 := Lib.hid hT
  clear hs hT
  go_enter Tryz.func46, Tryz.ntmps46
  go_wp2_with fail
  refine (copy9_any Aw Af Ao Ap As cw cf co cp cs t _ HFI.out (HT0.out.mono (bAlloc (bAlloc (Below.refl _ _) (.cells #[.int .i64 t.q.wells, .slice Aw t.q.nw cw, .slice Af t.q.nf cf, .slice Ao t.no co, .slice Ap t.np cp, .slice As t.ns cs, .int .i64 t.far, .int .i64 t.harm, .int .i64 t.many] 29)) (.cells #[.int .i64 0, .slice none 0 0, .slice none 0 0, .slice none 0 0, .slice none 0 0, .slice none 0 0, .int .i64 0, .int .i64 0, .int .i64 0] 29)))).mono ?_
  rintro e w1 ⟨ho, hb⟩
  obtain ⟨_, _, _, _, _, rfl, hc⟩ := ho
  obtain ⟨Bw, dw, Bf, df, Bo, do_, Bp, dp, Bs, ds, rfl, rfl, rfl, rfl, rfl, hU⟩ := hc.pat
  have hB1 : Below w.heap.size w w1 := bTrans (bAlloc (bAlloc (Below.refl _ _) (.cells #[.int .i64 t.q.wells, .slice Aw t.q.nw cw, .slice Af t.q.nf cf, .slice Ao t.no co, .slice Ap t.np cp, .slice As t.ns cs, .int .i64 t.far, .int .i64 t.harm, .int .i64 t.many] 29)) (.cells #[.int .i64 0, .slice none 0 0, .slice none 0 0, .slice none 0 0, .slice none 0 0, .slice none 0 0, .int .i64 0, .int .i64 0, .int .i64 0] 29)) hb
  have HD1 := Lib.hid (bTrans HD0.out hB1)
  have HT1 := Lib.hid (HT0.out.mono hB1)
  have HC1 := Lib.hid (hc)
  have T1 := Lib.hid (show TBox w1 w.heap.size 29 #[.int .i64 t.q.wells, .slice Aw t.q.nw cw, .slice Af t.q.nf cf, .slice Ao t.no co, .slice Ap t.np cp, .slice As t.ns cs, .int .i64 t.far, .int .i64 t.harm, .int .i64 t.many] from by have := ((TBox.new w #[.int .i64 t.q.wells, .slice Aw t.q.nw cw, .slice Af t.q.nf cf, .slice Ao t.no co, .slice Ap t.np cp, .slice As t.ns cs, .int .i64 t.far, .int .i64 t.harm, .int .i64 t.many] 29).mono (bAlloc (Below.refl _ _) (.cells #[.int .i64 0, .slice none 0 0, .slice none 0 0, .slice none 0 0, .slice none 0 0, .slice none 0 0, .int .i64 0, .int .i64 0, .int .i64 0] 29))).mono hb; simpa using this)
  have R1 := Lib.hid (show TBox w1 (w.heap.size + 1) 29 #[.int .i64 0, .slice none 0 0, .slice none 0 0, .slice none 0 0, .slice none 0 0, .slice none 0 0, .int .i64 0, .int .i64 0, .int .i64 0] from by have := ((TBox.new (w.alloc (.cells #[.int .i64 t.q.wells, .slice Aw t.q.nw cw, .slice Af t.q.nf cf, .slice Ao t.no co, .slice Ap t.np cp, .slice As t.ns cs, .int .i64 t.far, .int .i64 t.harm, .int .i64 t.many] 29)) #[.int .i64 0, .slice none 0 0, .slice none 0 0, .slice none 0 0, .slice none 0 0, .slice none 0 0, .int .i64 0, .int .i64 0, .int .i64 0] 29).mono (Below.refl _ _)).mono hb; simpa using this)
  clear hb hB1 HD0 HT0
  obtain ⟨T_0, T_1, T_2, T_3, T_4, T_5, T_6, T_7, T_8, T_l⟩ := T1.out.c9
  obtain ⟨R_0, R_1, R_2, R_3, R_4, R_5, R_6, R_7, R_8, R_l⟩ := R1.out.c9
  clear hc hU
  have f0 := R1.out.frozen 0
  have f1 := R1.out.frozen 1
  have f2 := R1.out.frozen 2
  have f3 := R1.out.frozen 3
  have f4 := R1.out.frozen 4
  have f5 := R1.out.frozen 5
  have f6 := R1.out.frozen 6
  have f7 := R1.out.frozen 7
  have f8 := R1.out.frozen 8
  go_wp2_with fail
  have tyR : ∃ cs, TBox w1 (w.heap.size + 1) 29 cs := ⟨_, R1.out⟩
  refine bodyPost_ret (v := .agg #[.int .i64 t.q.wells, .slice Bw t.q.nw dw, .slice Bf t.q.nf df, .slice Bo t.no do_, .slice Bp t.np dp, .slice Bs t.ns ds, .int .i64 t.far, .int .i64 h, .int .i64 t.many]) (by simp [results, Tryz.results46, go_sem, *]) rfl ⟨hr_of (base := w.heap.size) ?_, ?_⟩
  · refine CopyAt9.mono ?_ (bAlloc (Below.refl _ _) _)
    repeat with_reducible refine CopyAt9.setTy ?_ ?_ _ _
    · exact (HC1.out.harmed h).lower (by simp; omega)
    all_goals repeat (first | with_reducible refine TyB.set ?_ _ _ _ | with_reducible exact tyR)
  · refine bAlloc ?_ _
    repeat refine Below.setCell ?_ (by simp) _
    exact HD1.out
end Go.Proofs.YtjpfdhhiofjpbaaGreatDoor

namespace Go.Proofs.YtjpfdhhiofjpbaaGreatDoor
open Go.RowKit Go.Sort
theorem isKnown9_any (n : Int) (w : World) : Calls Tryz.prog 43 #[.int .i64 n] w fun e w' => e = .returned (.bool (n == 0 || n == 3)) ∧ Below w.heap.size w w' := by
  cases h : (n == 0)
  · cases h3 : (n == 3)
    all_goals
      go_enter Tryz.func43, Tryz.ntmps43
      go_wp2_with fail
      go_ret
      exact ⟨rfl, Below.refl _ _⟩
  · go_enter Tryz.func43, Tryz.ntmps43
    go_wp2_with fail
    go_ret
    exact ⟨rfl, Below.refl _ _⟩
end Go.Proofs.YtjpfdhhiofjpbaaGreatDoor

namespace Go.Proofs.YtjpfdhhiofjpbaaGreatDoor
open Go.RowKit Go.Sort
/-- some Bool, that says that a town is valid -/
def ReadyB (t : Pt) (e : Ending) : Prop := ∃ b, e = .returned (.bool b) ∧ (b = true → t.Ok)
set_option maxHeartbeats 4000000 in
set_option maxRecDepth 100000 in
theorem ready9_any (Aw Af Ao Ap As : Option Addr) (cw cf co cp cs : Nat) (t : Pt) (w : World) (hs : t.Small) (hT : PAt w Aw Af Ao Ap As t) :
    Calls Tryz.prog 39 #[.agg #[.int .i64 t.q.wells, .slice Aw t.q.nw cw, .slice Af t.q.nf cf, .slice Ao t.no co, .slice Ap t.np cp, .slice As t.ns cs, .int .i64 t.far, .int .i64 t.harm, .int .i64 t.many]] w fun e w' => ReadyB t e ∧ Below w.heap.size w w' := by
  have HD0 := Lib.hid (Below.refl w.heap.size w)
  have HSM := Lib.hid hs
  have HT0 := Lib.hid hT
  clear hs hT
  go_enter Tryz.func39, Tryz.ntmps39
  go_wp2_with fail
  refine (far9_any Aw Af Ao Ap As cw cf co cp cs t _ HSM.out (HT0.out.mono (bAlloc (Below.refl _ _) (.cells #[.int .i64 t.q.wells, .slice Aw t.q.nw cw, .slice Af t.q.nf cf, .slice Ao t.no co, .slice Ap t.np cp, .slice As t.ns cs, .int .i64 t.far, .int .i64 t.harm, .int .i64 t.many] 29)))).mono ?_
  rintro e w1 ⟨⟨bf, rfl⟩, hb⟩
  have hB1 : Below w.heap.size w w1 := bTrans (bAlloc (Below.refl _ _) (.cells #[.int .i64 t.q.wells, .slice Aw t.q.nw cw, .slice Af t.q.nf cf, .slice Ao t.no co, .slice Ap t.np cp, .slice As t.ns cs, .int .i64 t.far, .int .i64 t.harm, .int .i64 t.many] 29)) hb
  have HD1 := Lib.hid (bTrans HD0.out hB1)
  have HT1 := Lib.hid (HT0.out.mono hB1)
  have T1 := Lib.hid (show TBox w1 w.heap.size 29 #[.int .i64 t.q.wells, .slice Aw t.q.nw cw, .slice Af t.q.nf cf, .slice Ao t.no co, .slice Ap t.np cp, .slice As t.ns cs, .int .i64 t.far, .int .i64 t.harm, .int .i64 t.many] from by have := ((TBox.new w #[.int .i64 t.q.wells, .slice Aw t.q.nw cw, .slice Af t.q.nf cf, .slice Ao t.no co, .slice Ap t.np cp, .slice As t.ns cs, .int .i64 t.far, .int .i64 t.harm, .int .i64 t.many] 29).mono (Below.refl _ _)).mono hb; simpa using this)
  clear hb hB1 HD0 HT0
  obtain ⟨T_0, T_1, T_2, T_3, T_4, T_5, T_6, T_7, T_8, T_l⟩ := T1.out.c9
  cases bf
  case true =>
    go_wp2_with fail
    go_ret
    exact ⟨⟨_, rfl, fun h => by cases h⟩, HD1.out⟩
  go_wp2_with fail
  refine (check9_any Aw Af Ao Ap As cw cf co cp cs t _ HSM.out HT1.out).mono ?_
  rintro e w2 ⟨rfl, hb⟩
  have hB2 : Below w1.heap.size w1 w2 := bTrans (Below.refl _ _) hb
  have HD2 := Lib.hid (bTrans HD1.out hB2)
  have HT2 := Lib.hid (HT1.out.mono hB2)
  have T2 := Lib.hid (T1.out.mono hB2)
  clear hb hB2 HD1 HT1 T1 T_0 T_1 T_2 T_3 T_4 T_5 T_6 T_7 T_8 T_l
  obtain ⟨T_0, T_1, T_2, T_3, T_4, T_5, T_6, T_7, T_8, T_l⟩ := T2.out.c9
  by_cases ok : t.Ok
  case neg =>
    rw [Pt.err_bad ok]
    clear ok
    go_wp2_with fail
    go_ret
    exact ⟨⟨_, rfl, fun h => by cases h⟩, HD2.out⟩
  rw [Pt.err_ok ok]
  have HOK := Lib.hid ok
  clear ok
  go_wp2_with fail
  go_ret
  exact ⟨⟨_, rfl, fun _ => HOK.out⟩, HD2.out⟩
end Go.Proofs.YtjpfdhhiofjpbaaGreatDoor

namespace Go.Proofs.YtjpfdhhiofjpbaaGreatDoor
open Go.RowKit Go.Sort
theorem best_out {t : Pt} (ok : t.Ok) (hne : t.q.leftL ≠ []) : t.bestOut = optOut t.best := by unfold Pt.bestOut; rw [Pt.knowErr_ok ok hne, if_pos rfl]
end Go.Proofs.YtjpfdhhiofjpbaaGreatDoor

namespace Go.Proofs.YtjpfdhhiofjpbaaGreatDoor
open Go.RowKit Go.Sort
set_option maxHeartbeats 40000000 in
set_option maxRecDepth 100000 in
theorem placesLoosen_any (Aw Af Ao Ap As : Option Addr) (cw cf co cp cs : Nat) (t : Pt) (w : World) (hs : t.Fits) (hT : PAt w Aw Af Ao Ap As t) (hB : TabAt w) (hN : NoneAt w) :
    Calls Tryz.prog 7 #[.agg #[.int .i64 t.q.wells, .slice Aw t.q.nw cw, .slice Af t.q.nf cf, .slice Ao t.no co, .slice Ap t.np cp, .slice As t.ns cs, .int .i64 t.far, .int .i64 t.harm, .int .i64 t.many]] w fun e w' => e = .returned (.bool true) ∧ Below w.heap.size w w' := by
  have HD0 := Lib.hid (Below.refl w.heap.size w)
  have HFI := Lib.hid hs
  have HT0 := Lib.hid hT
  have HTB0 := Lib.hid hB
  have HNA0 := Lib.hid hN
  clear hs hT hB hN
  go_enter Tryz.func7, Tryz.ntmps7
  have HSM := Lib.hid HFI.out.small
  go_wp2_with fail
  refine (ready9_any Aw Af Ao Ap As cw cf co cp cs t _ HSM.out (HT0.out.mono (bAlloc (Below.refl _ _) (.cells #[.int .i64 t.q.wells, .slice Aw t.q.nw cw, .slice Af t.q.nf cf, .slice Ao t.no co, .slice Ap t.np cp, .slice As t.ns cs, .int .i64 t.far, .int .i64 t.harm, .int .i64 t.many] 29)))).mono ?_
  rintro e w1 ⟨⟨bf, rfl, hok⟩, hb⟩
  have hB1 : Below w.heap.size w w1 := bTrans (bAlloc (Below.refl _ _) (.cells #[.int .i64 t.q.wells, .slice Aw t.q.nw cw, .slice Af t.q.nf cf, .slice Ao t.no co, .slice Ap t.np cp, .slice As t.ns cs, .int .i64 t.far, .int .i64 t.harm, .int .i64 t.many] 29)) hb
  have HD1 := Lib.hid (bTrans HD0.out hB1)
  have HT1 := Lib.hid (HT0.out.mono hB1)
  have HTB1 := Lib.hid (HTB0.out.mono hB1)
  have HNA1 := Lib.hid (HNA0.out.mono hB1)
  have T1 := Lib.hid (show TBox w1 w.heap.size 29 #[.int .i64 t.q.wells, .slice Aw t.q.nw cw, .slice Af t.q.nf cf, .slice Ao t.no co, .slice Ap t.np cp, .slice As t.ns cs, .int .i64 t.far, .int .i64 t.harm, .int .i64 t.many] from by have := ((TBox.new w #[.int .i64 t.q.wells, .slice Aw t.q.nw cw, .slice Af t.q.nf cf, .slice Ao t.no co, .slice Ap t.np cp, .slice As t.ns cs, .int .i64 t.far, .int .i64 t.harm, .int .i64 t.many] 29).mono (Below.refl _ _)).mono hb; simpa using this)
  clear hb hB1 HD0 HT0 HTB0 HNA0
  obtain ⟨T_0, T_1, T_2, T_3, T_4, T_5, T_6, T_7, T_8, T_l⟩ := T1.out.c9
  cases bf
  case false =>
    go_wp2_with fail
    refine (works9_any _ HTB1.out HNA1.out).mono ?_
    rintro e w2 ⟨rfl, hb⟩
    have hB2 : Below w1.heap.size w1 w2 := bTrans (Below.refl _ _) hb
    have HD2 := Lib.hid (bTrans HD1.out hB2)
    have HT2 := Lib.hid (HT1.out.mono hB2)
    have HTB2 := Lib.hid (HTB1.out.mono hB2)
    have HNA2 := Lib.hid (HNA1.out.mono hB2)
    have T2 := Lib.hid (T1.out.mono hB2)
    clear hb hB2 HD1 HT1 HTB1 HNA1 T1 T_0 T_1 T_2 T_3 T_4 T_5 T_6 T_7 T_8 T_l
    obtain ⟨T_0, T_1, T_2, T_3, T_4, T_5, T_6, T_7, T_8, T_l⟩ := T2.out.c9
    go_wp2_with fail
    go_ret
    exact ⟨rfl, HD2.out⟩
  have HOK := Lib.hid (hok rfl)
  clear hok
  go_wp2_with fail
  refine (leftOf9_any Aw Af Ao Ap As cw cf co cp cs t _ HOK.out HT1.out).mono ?_
  rintro e w2 ⟨⟨A4, c4, rfl, hi4⟩, hb⟩
  have hB2 : Below w1.heap.size w1 w2 := bTrans (Below.refl _ _) hb
  have HD2 := Lib.hid (bTrans HD1.out hB2)
  have HT2 := Lib.hid (HT1.out.mono hB2)
  have HTB2 := Lib.hid (HTB1.out.mono hB2)
  have HNA2 := Lib.hid (HNA1.out.mono hB2)
  have T2 := Lib.hid (T1.out.mono hB2)
  clear hb hB2 HD1 HT1 HTB1 HNA1 T1 T_0 T_1 T_2 T_3 T_4 T_5 T_6 T_7 T_8 T_l
  obtain ⟨T_0, T_1, T_2, T_3, T_4, T_5, T_6, T_7, T_8, T_l⟩ := T2.out.c9
  clear hi4
  obtain ⟨nl, hnl⟩ : ∃ n, t.q.leftL.length = n := ⟨_, rfl⟩
  have HNL := Lib.hid hnl
  rw [hnl]
  clear hnl
  by_cases h0 : nl = 0
  case pos =>
    subst h0
    go_wp2_with fail
    refine (works9_any _ HTB2.out HNA2.out).mono ?_
    rintro e w3 ⟨rfl, hb⟩
    have hB3 : Below w2.heap.size w2 w3 := bTrans (Below.refl _ _) hb
    have HD3 := Lib.hid (bTrans HD2.out hB3)
    have HT3 := Lib.hid (HT2.out.mono hB3)
    have HTB3 := Lib.hid (HTB2.out.mono hB3)
    have HNA3 := Lib.hid (HNA2.out.mono hB3)
    have T3 := Lib.hid (T2.out.mono hB3)
    clear hb hB3 HD2 HT2 HTB2 HNA2 T2 T_0 T_1 T_2 T_3 T_4 T_5 T_6 T_7 T_8 T_l
    obtain ⟨T_0, T_1, T_2, T_3, T_4, T_5, T_6, T_7, T_8, T_l⟩ := T3.out.c9
    go_wp2_with fail
    go_ret
    exact ⟨rfl, HD3.out⟩
  have HNE := Lib.hid (show t.q.leftL ≠ [] from fun h => h0 (by rw [← HNL.out, h]; rfl))
  have e1 : ((nl : Int) == 0) = false := by simp; exact h0
  have e2 : (nl == 0) = false := by simp; exact h0
  go_wp2_with fail
  clear e1 e2 h0
  obtain ⟨L, hL⟩ : ∃ L, t.loosen = L := ⟨_, rfl⟩
  have hsp := loosen_spec HOK.out
  rw [hL] at hsp
  have HSP := Lib.hid hsp.2
  have HL1 := Lib.hid hsp.1
  have HLO := Lib.hid (show t.loosenOut = if L < 100 then ((L : Int), 0) else (0, 3) by unfold Pt.loosenOut; rw [Pt.knowErr_ok HOK.out HNE.out, if_pos rfl, hL])
  obtain ⟨hh, hhh⟩ : ∃ hh : Nat, t.harm = hh := ⟨t.harm.toNat, by have := HOK.out.harm; omega⟩
  have HHH := Lib.hid hhh
  obtain ⟨mo, hmo⟩ : ∃ m, t.best = m := ⟨_, rfl⟩
  have HBO := Lib.hid (show t.bestOut = optOut mo by rw [best_out HOK.out HNE.out, hmo])
  have hms : mo.isSome = decide (L ≤ hh) := by
    rw [← hmo, best_isSome]
    have := hsp.2 hh (by have := HOK.out.harm; omega)
    rw [show t.harmed (hh : Int) = t by rw [← hhh]; rfl] at this
    exact this
  clear hsp hmo hL hhh
  by_cases hA : L < 100
  case pos =>
    obtain ⟨y, hy⟩ : ∃ y : Int, y = (L : Int) := ⟨_, rfl⟩
    have HY := Lib.hid hy
    have HL2 := Lib.hid (show t.loosenOut = (y, 0) by rw [HLO.out, if_pos hA, hy])
    have y0 : ¬ y < 0 := by omega
    have y1 : ¬ y > 100 := by omega
    have y2 : ¬ 100 < y := by omega
    clear hy
    by_cases hB : L ≤ hh
    case pos =>
      rw [decide_eq_true hB] at hms
      cases mo with
      | none => cases hms
      | some b =>
        have HB2 := Lib.hid (show t.bestOut = ((b : Int), 0) from HBO.out)
        have b1 : y ≤ t.harm := by have := HHH.out; have := HY.out; omega
        have b2 : decide (y ≤ t.harm) = true := decide_eq_true b1
        clear hms
        refine ((by have := loosenP_any Aw Af Ao Ap As cw cf co cp cs t w2 HSM.out HT2.out HTB2.out HNA2.out; rw [HL2.out] at this; exact this : Calls Tryz.prog 37 #[.agg #[.int .i64 t.q.wells, .slice Aw t.q.nw cw, .slice Af t.q.nf cf, .slice Ao t.no co, .slice Ap t.np cp, .slice As t.ns cs, .int .i64 t.far, .int .i64 t.harm, .int .i64 t.many]] w2 fun e w' => e = .returned (.tuple #[.int .i64 y, .int .i64 0]) ∧ Below w2.heap.size w2 w')).mono ?_
        rintro e w3 ⟨rfl, hb⟩
        have hB3 : Below w2.heap.size w2 w3 := bTrans (Below.refl _ _) hb
        have HD3 := Lib.hid (bTrans HD2.out hB3)
        have HT3 := Lib.hid (HT2.out.mono hB3)
        have HTB3 := Lib.hid (HTB2.out.mono hB3)
        have HNA3 := Lib.hid (HNA2.out.mono hB3)
        have T3 := Lib.hid (T2.out.mono hB3)
        clear hb hB3 HD2 HT2 HTB2 HNA2 T2 T_0 T_1 T_2 T_3 T_4 T_5 T_6 T_7 T_8 T_l
        obtain ⟨T_0, T_1, T_2, T_3, T_4, T_5, T_6, T_7, T_8, T_l⟩ := T3.out.c9
        go_wp2_with fail
        refine ((by have := bestP_any Aw Af Ao Ap As cw cf co cp cs t w3 HSM.out HT3.out HTB3.out HNA3.out; rw [HB2.out] at this; exact this : Calls Tryz.prog 35 #[.agg #[.int .i64 t.q.wells, .slice Aw t.q.nw cw, .slice Af t.q.nf cf, .slice Ao t.no co, .slice Ap t.np cp, .slice As t.ns cs, .int .i64 t.far, .int .i64 t.harm, .int .i64 t.many]] w3 fun e w' => e = .returned (.tuple #[.int .i64 (b : Int), .int .i64 0]) ∧ Below w3.heap.size w3 w')).mono ?_
        rintro e w4 ⟨rfl, hb⟩
        have hB4 : Below w3.heap.size w3 w4 := bTrans (Below.refl _ _) hb
        have HD4 := Lib.hid (bTrans HD3.out hB4)
        have HT4 := Lib.hid (HT3.out.mono hB4)
        have HTB4 := Lib.hid (HTB3.out.mono hB4)
        have HNA4 := Lib.hid (HNA3.out.mono hB4)
        have T4 := Lib.hid (T3.out.mono hB4)
        clear hb hB4 HD3 HT3 HTB3 HNA3 T3 T_0 T_1 T_2 T_3 T_4 T_5 T_6 T_7 T_8 T_l
        obtain ⟨T_0, T_1, T_2, T_3, T_4, T_5, T_6, T_7, T_8, T_l⟩ := T4.out.c9
        go_wp2_with fail
        refine (isKnown9_any 0 _).mono ?_
        rintro e w5 ⟨rfl, hb⟩
        have hB5 : Below w4.heap.size w4 w5 := bTrans (Below.refl _ _) hb
        have HD5 := Lib.hid (bTrans HD4.out hB5)
        have HT5 := Lib.hid (HT4.out.mono hB5)
        have HTB5 := Lib.hid (HTB4.out.mono hB5)
        have HNA5 := Lib.hid (HNA4.out.mono hB5)
        have T5 := Lib.hid (T4.out.mono hB5)
        clear hb hB5 HD4 HT4 HTB4 HNA4 T4 T_0 T_1 T_2 T_3 T_4 T_5 T_6 T_7 T_8 T_l
        obtain ⟨T_0, T_1, T_2, T_3, T_4, T_5, T_6, T_7, T_8, T_l⟩ := T5.out.c9
        go_wp2_with fail
        refine (isKnown9_any 0 _).mono ?_
        rintro e w6 ⟨rfl, hb⟩
        have hB6 : Below w5.heap.size w5 w6 := bTrans (Below.refl _ _) hb
        have HD6 := Lib.hid (bTrans HD5.out hB6)
        have HT6 := Lib.hid (HT5.out.mono hB6)
        have HTB6 := Lib.hid (HTB5.out.mono hB6)
        have HNA6 := Lib.hid (HNA5.out.mono hB6)
        have T6 := Lib.hid (T5.out.mono hB6)
        clear hb hB6 HD5 HT5 HTB5 HNA5 T5 T_0 T_1 T_2 T_3 T_4 T_5 T_6 T_7 T_8 T_l
        obtain ⟨T_0, T_1, T_2, T_3, T_4, T_5, T_6, T_7, T_8, T_l⟩ := T6.out.c9
        have hy := HY.out
        have y3 : ¬ 99 < y := by omega
        have y4 : y ≤ 99 := by omega
        have m1 : (if y < 99 then y else 99) = y := by split <;> omega
        have m2 : (if 99 < y then 99 else y) = y := by split <;> omega
        have m3 : (if 99 ≤ y then 99 else y) = y := by split <;> omega
        have m4 : (if y ≤ 99 then y else 99) = y := by split <;> omega
        obtain ⟨x, hx⟩ : ∃ x : Int, IntKind.i64.wrap (y - 1) = x := ⟨_, rfl⟩
        have hx2 : x = y - 1 := by rw [← hx]; exact IntWalk.i64_in _ (by omega)
        obtain ⟨v, hv⟩ : ∃ v : Int, (if x < 0 then 0 else x) = v := ⟨_, rfl⟩
        have v1 : (if 0 < x then x else 0) = v := by rw [← hv]; split <;> split <;> omega
        have v2 : (if 0 ≤ x then x else 0) = v := by rw [← hv]; split <;> split <;> omega
        have v3 : (if x ≤ 0 then 0 else x) = v := by rw [← hv]; split <;> split <;> omega
        have HV := Lib.hid (show v = ((L - 1 : Nat) : Int) by rw [← hv]; split <;> omega)
        clear hx2 hy
        go_wp2_with fail
        obtain ⟨lo, hlo⟩ : ∃ lo : Nat, L - 1 = lo := ⟨_, rfl⟩
        obtain rfl : v = (lo : Int) := by rw [HV.out, hlo]
        obtain ⟨nn, hnn⟩ : ∃ nn : Nat, nn = L + 1 := ⟨_, rfl⟩
        clear hv v1 v2 v3 hx
        clear T_0 T_1 T_2 T_3 T_4 T_5 T_6 T_7 T_8 T_l
        go_loopw [7] (fun s7 wr => ∃ k : Nat, k ≤ nn ∧ s7 = .int .i64 (k : Int) ∧ Below w6.heap.size w6 wr) (fun s7 _ => nn - (intOf s7).toNat)
        case atStart => exact ⟨lo, by omega, rfl, Below.refl _ _⟩
        case round =>
          obtain ⟨k, hk_k, rfl, hb⟩ := hrel
          have HBk := Lib.hid hb
          have hB7 : Below w6.heap.size w6 wr := bTrans (Below.refl _ _) hb
          have HD7 := Lib.hid (bTrans HD6.out hB7)
          have HT7 := Lib.hid (HT6.out.mono hB7)
          have HTB7 := Lib.hid (HTB6.out.mono hB7)
          have HNA7 := Lib.hid (HNA6.out.mono hB7)
          have HU_k7 := Lib.hid ((show Upto w6 wr from HBk.out))
          have T7 := Lib.hid (T6.out.mono hB7)
          clear hb hB7
          obtain ⟨T_0, T_1, T_2, T_3, T_4, T_5, T_6, T_7, T_8, T_l⟩ := T7.out.c9
          by_cases hlt_k : k < nn
          case pos =>
            have h1_k : (k : Int) < (nn : Int) := by omega
            have h0_k : (0 : Int) ≤ (k : Int) := by omega
            have hb_k : k < 100 := by have hy := HY.out; omega
            have HK := Lib.hid (show k ≤ 99 by have hy := HY.out; omega)
            have hky : (k : Int) ≤ y := by have hy := HY.out; omega
            go_wp2_with fail
            refine (harmed9_any Aw Af Ao Ap As cw cf co cp cs t (k : Int) _ HFI.out HT7.out).mono ?_
            rintro e w8 ⟨ho, hb⟩
            obtain ⟨Bw, dw, Bf, df, Bo, do_, Bp, dp, Bs, ds, rfl, hU⟩ := ho
            have hB8 : Below wr.heap.size wr w8 := bTrans (Below.refl _ _) hb
            have HD8 := Lib.hid (bTrans HD7.out hB8)
            have HT8 := Lib.hid (HT7.out.mono hB8)
            have HTB8 := Lib.hid (HTB7.out.mono hB8)
            have HNA8 := Lib.hid (HNA7.out.mono hB8)
            have HU_k8 := Lib.hid (HU_k7.out.mono hB8)
            have HU8 := Lib.hid (hU)
            have T8 := Lib.hid (T7.out.mono hB8)
            clear hb hB8 HD7 HT7 HTB7 HNA7 HU_k7 T7 T_0 T_1 T_2 T_3 T_4 T_5 T_6 T_7 T_8 T_l
            obtain ⟨T_0, T_1, T_2, T_3, T_4, T_5, T_6, T_7, T_8, T_l⟩ := T8.out.c9
            clear hU
            go_wp2_with fail
            obtain ⟨z, hz⟩ : ∃ y, (t.harmed (k : Int)).frees.length = y := ⟨_, rfl⟩
            have HZ := Lib.hid hz
            clear hz
            have hzz : (0 < z) ↔ (L ≤ k) := by
              have h1 := HSP.out k (by have := HK.out; omega)
              rw [anyFree_frees, HZ.out] at h1
              exact decide_eq_decide.1 h1
            refine ((by have := freeP_any Bw Bf Bo Bp Bs dw df do_ dp ds (t.harmed (k : Int)) w8 (harmed_small HSM.out _) HU8.out HTB8.out HNA8.out; rw [Pt.knowErr_ok (harmed_ok HOK.out HK.out) (show (t.harmed (k : Int)).q.leftL ≠ [] from HNE.out)] at this; exact this : Calls Tryz.prog 33 #[.agg #[.int .i64 t.q.wells, .slice Bw t.q.nw dw, .slice Bf t.q.nf df, .slice Bo t.no do_, .slice Bp t.np dp, .slice Bs t.ns ds, .int .i64 t.far, .int .i64 (k : Int), .int .i64 t.many]] w8 fun e w' => NumsOut w' w8.heap.size 0 (t.harmed (k : Int)).frees e ∧ Below w8.heap.size w8 w')).mono ?_
            rintro e w9 ⟨ho, hb⟩
            obtain ⟨v, rfl, hv⟩ := ho.1 rfl
            obtain ⟨A6, c6, rfl, _⟩ := hv.lst
            rw [HZ.out]
            have hB9 : Below w8.heap.size w8 w9 := bTrans (Below.refl _ _) hb
            have HD9 := Lib.hid (bTrans HD8.out hB9)
            have HT9 := Lib.hid (HT8.out.mono hB9)
            have HTB9 := Lib.hid (HTB8.out.mono hB9)
            have HNA9 := Lib.hid (HNA8.out.mono hB9)
            have HU_k9 := Lib.hid (HU_k8.out.mono hB9)
            have T9 := Lib.hid (T8.out.mono hB9)
            clear hb hB9 HD8 HT8 HTB8 HNA8 HU_k8 HU8 T8 T_0 T_1 T_2 T_3 T_4 T_5 T_6 T_7 T_8 T_l
            obtain ⟨T_0, T_1, T_2, T_3, T_4, T_5, T_6, T_7, T_8, T_l⟩ := T9.out.c9
            clear ho hv
            by_cases hz : 0 < z
            case pos =>
              have hlk := hzz.1 hz
              have q1 : (z : Int) > 0 := by omega
              have q3 : (k : Int) = y := by have hy := HY.out; omega
              have q2 : ((k : Int) == y) = true := by simp; exact q3
              clear hzz hlk q3
              go_wp2_with fail
              clear q1 q2
              go_roundw
              case rel =>
                first
                | exact ⟨k + 1, by omega, by go_num, HU_k9.out⟩
                | ((repeat apply Exists.intro)
                   refine ⟨⟨k + 1, by omega, ?_, HU_k9.out⟩, rfl⟩
                   go_num)
              case measure => simp [intOf]; omega
            obtain rfl : z = 0 := by omega
            have hlk : ¬ L ≤ k := fun h => hz (hzz.2 h)
            have q3 : ¬ (k : Int) = y := by have hy := HY.out; omega
            have q2 : ((k : Int) == y) = false := by simp; exact q3
            clear hzz hlk hz
            go_wp2_with fail
            go_roundw
            case rel =>
              first
              | exact ⟨k + 1, by omega, by go_num, HU_k9.out⟩
              | ((repeat apply Exists.intro)
                 refine ⟨⟨k + 1, by omega, ?_, HU_k9.out⟩, rfl⟩
                 go_num)
            case measure => simp [intOf]; omega
          have he_k : k = nn := by omega
          have hk9 : ¬ (k : Int) ≤ y := by have hy := HY.out; omega
          clear he_k
          go_wp2_with fail
          refine (works9_any _ HTB7.out HNA7.out).mono ?_
          rintro e w8 ⟨rfl, hb⟩
          have hB8 : Below wr.heap.size wr w8 := bTrans (Below.refl _ _) hb
          have HD8 := Lib.hid (bTrans HD7.out hB8)
          have HT8 := Lib.hid (HT7.out.mono hB8)
          have HTB8 := Lib.hid (HTB7.out.mono hB8)
          have HNA8 := Lib.hid (HNA7.out.mono hB8)
          have HU_k8 := Lib.hid (HU_k7.out.mono hB8)
          have T8 := Lib.hid (T7.out.mono hB8)
          clear hb hB8 HD7 HT7 HTB7 HNA7 HU_k7 T7 T_0 T_1 T_2 T_3 T_4 T_5 T_6 T_7 T_8 T_l
          obtain ⟨T_0, T_1, T_2, T_3, T_4, T_5, T_6, T_7, T_8, T_l⟩ := T8.out.c9
          go_wp2_with fail
          go_ret
          exact ⟨rfl, HD8.out⟩
    rw [decide_eq_false hB] at hms
    cases mo with
    | some b => cases hms
    | none =>
      have HB2 := Lib.hid (show t.bestOut = (0, 3) from HBO.out)
      have b1 : ¬ y ≤ t.harm := by have := HHH.out; have := HY.out; omega
      have b2 : decide (y ≤ t.harm) = false := decide_eq_false b1
      clear hms
      refine ((by have := loosenP_any Aw Af Ao Ap As cw cf co cp cs t w2 HSM.out HT2.out HTB2.out HNA2.out; rw [HL2.out] at this; exact this : Calls Tryz.prog 37 #[.agg #[.int .i64 t.q.wells, .slice Aw t.q.nw cw, .slice Af t.q.nf cf, .slice Ao t.no co, .slice Ap t.np cp, .slice As t.ns cs, .int .i64 t.far, .int .i64 t.harm, .int .i64 t.many]] w2 fun e w' => e = .returned (.tuple #[.int .i64 y, .int .i64 0]) ∧ Below w2.heap.size w2 w')).mono ?_
      rintro e w3 ⟨rfl, hb⟩
      have hB3 : Below w2.heap.size w2 w3 := bTrans (Below.refl _ _) hb
      have HD3 := Lib.hid (bTrans HD2.out hB3)
      have HT3 := Lib.hid (HT2.out.mono hB3)
      have HTB3 := Lib.hid (HTB2.out.mono hB3)
      have HNA3 := Lib.hid (HNA2.out.mono hB3)
      have T3 := Lib.hid (T2.out.mono hB3)
      clear hb hB3 HD2 HT2 HTB2 HNA2 T2 T_0 T_1 T_2 T_3 T_4 T_5 T_6 T_7 T_8 T_l
      obtain ⟨T_0, T_1, T_2, T_3, T_4, T_5, T_6, T_7, T_8, T_l⟩ := T3.out.c9
      go_wp2_with fail
      refine ((by have := bestP_any Aw Af Ao Ap As cw cf co cp cs t w3 HSM.out HT3.out HTB3.out HNA3.out; rw [HB2.out] at this; exact this : Calls Tryz.prog 35 #[.agg #[.int .i64 t.q.wells, .slice Aw t.q.nw cw, .slice Af t.q.nf cf, .slice Ao t.no co, .slice Ap t.np cp, .slice As t.ns cs, .int .i64 t.far, .int .i64 t.harm, .int .i64 t.many]] w3 fun e w' => e = .returned (.tuple #[.int .i64 0, .int .i64 3]) ∧ Below w3.heap.size w3 w')).mono ?_
      rintro e w4 ⟨rfl, hb⟩
      have hB4 : Below w3.heap.size w3 w4 := bTrans (Below.refl _ _) hb
      have HD4 := Lib.hid (bTrans HD3.out hB4)
      have HT4 := Lib.hid (HT3.out.mono hB4)
      have HTB4 := Lib.hid (HTB3.out.mono hB4)
      have HNA4 := Lib.hid (HNA3.out.mono hB4)
      have T4 := Lib.hid (T3.out.mono hB4)
      clear hb hB4 HD3 HT3 HTB3 HNA3 T3 T_0 T_1 T_2 T_3 T_4 T_5 T_6 T_7 T_8 T_l
      obtain ⟨T_0, T_1, T_2, T_3, T_4, T_5, T_6, T_7, T_8, T_l⟩ := T4.out.c9
      go_wp2_with fail
      refine (isKnown9_any 0 _).mono ?_
      rintro e w5 ⟨rfl, hb⟩
      have hB5 : Below w4.heap.size w4 w5 := bTrans (Below.refl _ _) hb
      have HD5 := Lib.hid (bTrans HD4.out hB5)
      have HT5 := Lib.hid (HT4.out.mono hB5)
      have HTB5 := Lib.hid (HTB4.out.mono hB5)
      have HNA5 := Lib.hid (HNA4.out.mono hB5)
      have T5 := Lib.hid (T4.out.mono hB5)
      clear hb hB5 HD4 HT4 HTB4 HNA4 T4 T_0 T_1 T_2 T_3 T_4 T_5 T_6 T_7 T_8 T_l
      obtain ⟨T_0, T_1, T_2, T_3, T_4, T_5, T_6, T_7, T_8, T_l⟩ := T5.out.c9
      go_wp2_with fail
      refine (isKnown9_any 3 _).mono ?_
      rintro e w6 ⟨rfl, hb⟩
      have hB6 : Below w5.heap.size w5 w6 := bTrans (Below.refl _ _) hb
      have HD6 := Lib.hid (bTrans HD5.out hB6)
      have HT6 := Lib.hid (HT5.out.mono hB6)
      have HTB6 := Lib.hid (HTB5.out.mono hB6)
      have HNA6 := Lib.hid (HNA5.out.mono hB6)
      have T6 := Lib.hid (T5.out.mono hB6)
      clear hb hB6 HD5 HT5 HTB5 HNA5 T5 T_0 T_1 T_2 T_3 T_4 T_5 T_6 T_7 T_8 T_l
      obtain ⟨T_0, T_1, T_2, T_3, T_4, T_5, T_6, T_7, T_8, T_l⟩ := T6.out.c9
      have hy := HY.out
      have y3 : ¬ 99 < y := by omega
      have y4 : y ≤ 99 := by omega
      have m1 : (if y < 99 then y else 99) = y := by split <;> omega
      have m2 : (if 99 < y then 99 else y) = y := by split <;> omega
      have m3 : (if 99 ≤ y then 99 else y) = y := by split <;> omega
      have m4 : (if y ≤ 99 then y else 99) = y := by split <;> omega
      obtain ⟨x, hx⟩ : ∃ x : Int, IntKind.i64.wrap (y - 1) = x := ⟨_, rfl⟩
      have hx2 : x = y - 1 := by rw [← hx]; exact IntWalk.i64_in _ (by omega)
      obtain ⟨v, hv⟩ : ∃ v : Int, (if x < 0 then 0 else x) = v := ⟨_, rfl⟩
      have v1 : (if 0 < x then x else 0) = v := by rw [← hv]; split <;> split <;> omega
      have v2 : (if 0 ≤ x then x else 0) = v := by rw [← hv]; split <;> split <;> omega
      have v3 : (if x ≤ 0 then 0 else x) = v := by rw [← hv]; split <;> split <;> omega
      have HV := Lib.hid (show v = ((L - 1 : Nat) : Int) by rw [← hv]; split <;> omega)
      clear hx2 hy
      go_wp2_with fail
      obtain ⟨lo, hlo⟩ : ∃ lo : Nat, L - 1 = lo := ⟨_, rfl⟩
      obtain rfl : v = (lo : Int) := by rw [HV.out, hlo]
      obtain ⟨nn, hnn⟩ : ∃ nn : Nat, nn = L + 1 := ⟨_, rfl⟩
      clear hv v1 v2 v3 hx
      clear T_0 T_1 T_2 T_3 T_4 T_5 T_6 T_7 T_8 T_l
      go_loopw [7] (fun s7 wr => ∃ k : Nat, k ≤ nn ∧ s7 = .int .i64 (k : Int) ∧ Below w6.heap.size w6 wr) (fun s7 _ => nn - (intOf s7).toNat)
      case atStart => exact ⟨lo, by omega, rfl, Below.refl _ _⟩
      case round =>
        obtain ⟨k, hk_k, rfl, hb⟩ := hrel
        have HBk := Lib.hid hb
        have hB7 : Below w6.heap.size w6 wr := bTrans (Below.refl _ _) hb
        have HD7 := Lib.hid (bTrans HD6.out hB7)
        have HT7 := Lib.hid (HT6.out.mono hB7)
        have HTB7 := Lib.hid (HTB6.out.mono hB7)
        have HNA7 := Lib.hid (HNA6.out.mono hB7)
        have HU_k7 := Lib.hid ((show Upto w6 wr from HBk.out))
        have T7 := Lib.hid (T6.out.mono hB7)
        clear hb hB7
        obtain ⟨T_0, T_1, T_2, T_3, T_4, T_5, T_6, T_7, T_8, T_l⟩ := T7.out.c9
        by_cases hlt_k : k < nn
        case pos =>
          have h1_k : (k : Int) < (nn : Int) := by omega
          have h0_k : (0 : Int) ≤ (k : Int) := by omega
          have hb_k : k < 100 := by have hy := HY.out; omega
          have HK := Lib.hid (show k ≤ 99 by have hy := HY.out; omega)
          have hky : (k : Int) ≤ y := by have hy := HY.out; omega
          go_wp2_with fail
          refine (harmed9_any Aw Af Ao Ap As cw cf co cp cs t (k : Int) _ HFI.out HT7.out).mono ?_
          rintro e w8 ⟨ho, hb⟩
          obtain ⟨Bw, dw, Bf, df, Bo, do_, Bp, dp, Bs, ds, rfl, hU⟩ := ho
          have hB8 : Below wr.heap.size wr w8 := bTrans (Below.refl _ _) hb
          have HD8 := Lib.hid (bTrans HD7.out hB8)
          have HT8 := Lib.hid (HT7.out.mono hB8)
          have HTB8 := Lib.hid (HTB7.out.mono hB8)
          have HNA8 := Lib.hid (HNA7.out.mono hB8)
          have HU_k8 := Lib.hid (HU_k7.out.mono hB8)
          have HU8 := Lib.hid (hU)
          have T8 := Lib.hid (T7.out.mono hB8)
          clear hb hB8 HD7 HT7 HTB7 HNA7 HU_k7 T7 T_0 T_1 T_2 T_3 T_4 T_5 T_6 T_7 T_8 T_l
          obtain ⟨T_0, T_1, T_2, T_3, T_4, T_5, T_6, T_7, T_8, T_l⟩ := T8.out.c9
          clear hU
          go_wp2_with fail
          obtain ⟨z, hz⟩ : ∃ y, (t.harmed (k : Int)).frees.length = y := ⟨_, rfl⟩
          have HZ := Lib.hid hz
          clear hz
          have hzz : (0 < z) ↔ (L ≤ k) := by
            have h1 := HSP.out k (by have := HK.out; omega)
            rw [anyFree_frees, HZ.out] at h1
            exact decide_eq_decide.1 h1
          refine ((by have := freeP_any Bw Bf Bo Bp Bs dw df do_ dp ds (t.harmed (k : Int)) w8 (harmed_small HSM.out _) HU8.out HTB8.out HNA8.out; rw [Pt.knowErr_ok (harmed_ok HOK.out HK.out) (show (t.harmed (k : Int)).q.leftL ≠ [] from HNE.out)] at this; exact this : Calls Tryz.prog 33 #[.agg #[.int .i64 t.q.wells, .slice Bw t.q.nw dw, .slice Bf t.q.nf df, .slice Bo t.no do_, .slice Bp t.np dp, .slice Bs t.ns ds, .int .i64 t.far, .int .i64 (k : Int), .int .i64 t.many]] w8 fun e w' => NumsOut w' w8.heap.size 0 (t.harmed (k : Int)).frees e ∧ Below w8.heap.size w8 w')).mono ?_
          rintro e w9 ⟨ho, hb⟩
          obtain ⟨v, rfl, hv⟩ := ho.1 rfl
          obtain ⟨A6, c6, rfl, _⟩ := hv.lst
          rw [HZ.out]
          have hB9 : Below w8.heap.size w8 w9 := bTrans (Below.refl _ _) hb
          have HD9 := Lib.hid (bTrans HD8.out hB9)
          have HT9 := Lib.hid (HT8.out.mono hB9)
          have HTB9 := Lib.hid (HTB8.out.mono hB9)
          have HNA9 := Lib.hid (HNA8.out.mono hB9)
          have HU_k9 := Lib.hid (HU_k8.out.mono hB9)
          have T9 := Lib.hid (T8.out.mono hB9)
          clear hb hB9 HD8 HT8 HTB8 HNA8 HU_k8 HU8 T8 T_0 T_1 T_2 T_3 T_4 T_5 T_6 T_7 T_8 T_l
          obtain ⟨T_0, T_1, T_2, T_3, T_4, T_5, T_6, T_7, T_8, T_l⟩ := T9.out.c9
          clear ho hv
          by_cases hz : 0 < z
          case pos =>
            have hlk := hzz.1 hz
            have q1 : (z : Int) > 0 := by omega
            have q3 : (k : Int) = y := by have hy := HY.out; omega
            have q2 : ((k : Int) == y) = true := by simp; exact q3
            clear hzz hlk q3
            go_wp2_with fail
            clear q1 q2
            go_roundw
            case rel =>
              first
              | exact ⟨k + 1, by omega, by go_num, HU_k9.out⟩
              | ((repeat apply Exists.intro)
                 refine ⟨⟨k + 1, by omega, ?_, HU_k9.out⟩, rfl⟩
                 go_num)
            case measure => simp [intOf]; omega
          obtain rfl : z = 0 := by omega
          have hlk : ¬ L ≤ k := fun h => hz (hzz.2 h)
          have q3 : ¬ (k : Int) = y := by have hy := HY.out; omega
          have q2 : ((k : Int) == y) = false := by simp; exact q3
          clear hzz hlk hz
          go_wp2_with fail
          go_roundw
          case rel =>
            first
            | exact ⟨k + 1, by omega, by go_num, HU_k9.out⟩
            | ((repeat apply Exists.intro)
               refine ⟨⟨k + 1, by omega, ?_, HU_k9.out⟩, rfl⟩
               go_num)
          case measure => simp [intOf]; omega
        have he_k : k = nn := by omega
        have hk9 : ¬ (k : Int) ≤ y := by have hy := HY.out; omega
        clear he_k
        go_wp2_with fail
        refine (works9_any _ HTB7.out HNA7.out).mono ?_
        rintro e w8 ⟨rfl, hb⟩
        have hB8 : Below wr.heap.size wr w8 := bTrans (Below.refl _ _) hb
        have HD8 := Lib.hid (bTrans HD7.out hB8)
        have HT8 := Lib.hid (HT7.out.mono hB8)
        have HTB8 := Lib.hid (HTB7.out.mono hB8)
        have HNA8 := Lib.hid (HNA7.out.mono hB8)
        have HU_k8 := Lib.hid (HU_k7.out.mono hB8)
        have T8 := Lib.hid (T7.out.mono hB8)
        clear hb hB8 HD7 HT7 HTB7 HNA7 HU_k7 T7 T_0 T_1 T_2 T_3 T_4 T_5 T_6 T_7 T_8 T_l
        obtain ⟨T_0, T_1, T_2, T_3, T_4, T_5, T_6, T_7, T_8, T_l⟩ := T8.out.c9
        go_wp2_with fail
        go_ret
        exact ⟨rfl, HD8.out⟩
  have hL100 : L = 100 := by have := HL1.out; omega
  have HL2 := Lib.hid (show t.loosenOut = (0, 3) by rw [HLO.out, if_neg hA])
  have hB : ¬ L ≤ hh := by have := HHH.out; have := HOK.out.harm; omega
  rw [decide_eq_false hB] at hms
  cases mo with
  | some b => cases hms
  | none =>
    have HB2 := Lib.hid (show t.bestOut = (0, 3) from HBO.out)
    clear hms hB hA
    refine ((by have := loosenP_any Aw Af Ao Ap As cw cf co cp cs t w2 HSM.out HT2.out HTB2.out HNA2.out; rw [HL2.out] at this; exact this : Calls Tryz.prog 37 #[.agg #[.int .i64 t.q.wells, .slice Aw t.q.nw cw, .slice Af t.q.nf cf, .slice Ao t.no co, .slice Ap t.np cp, .slice As t.ns cs, .int .i64 t.far, .int .i64 t.harm, .int .i64 t.many]] w2 fun e w' => e = .returned (.tuple #[.int .i64 0, .int .i64 3]) ∧ Below w2.heap.size w2 w')).mono ?_
    rintro e w3 ⟨rfl, hb⟩
    have hB3 : Below w2.heap.size w2 w3 := bTrans (Below.refl _ _) hb
    have HD3 := Lib.hid (bTrans HD2.out hB3)
    have HT3 := Lib.hid (HT2.out.mono hB3)
    have HTB3 := Lib.hid (HTB2.out.mono hB3)
    have HNA3 := Lib.hid (HNA2.out.mono hB3)
    have T3 := Lib.hid (T2.out.mono hB3)
    clear hb hB3 HD2 HT2 HTB2 HNA2 T2 T_0 T_1 T_2 T_3 T_4 T_5 T_6 T_7 T_8 T_l
    obtain ⟨T_0, T_1, T_2, T_3, T_4, T_5, T_6, T_7, T_8, T_l⟩ := T3.out.c9
    go_wp2_with fail
    refine ((by have := bestP_any Aw Af Ao Ap As cw cf co cp cs t w3 HSM.out HT3.out HTB3.out HNA3.out; rw [HB2.out] at this; exact this : Calls Tryz.prog 35 #[.agg #[.int .i64 t.q.wells, .slice Aw t.q.nw cw, .slice Af t.q.nf cf, .slice Ao t.no co, .slice Ap t.np cp, .slice As t.ns cs, .int .i64 t.far, .int .i64 t.harm, .int .i64 t.many]] w3 fun e w' => e = .returned (.tuple #[.int .i64 0, .int .i64 3]) ∧ Below w3.heap.size w3 w')).mono ?_
    rintro e w4 ⟨rfl, hb⟩
    have hB4 : Below w3.heap.size w3 w4 := bTrans (Below.refl _ _) hb
    have HD4 := Lib.hid (bTrans HD3.out hB4)
    have HT4 := Lib.hid (HT3.out.mono hB4)
    have HTB4 := Lib.hid (HTB3.out.mono hB4)
    have HNA4 := Lib.hid (HNA3.out.mono hB4)
    have T4 := Lib.hid (T3.out.mono hB4)
    clear hb hB4 HD3 HT3 HTB3 HNA3 T3 T_0 T_1 T_2 T_3 T_4 T_5 T_6 T_7 T_8 T_l
    obtain ⟨T_0, T_1, T_2, T_3, T_4, T_5, T_6, T_7, T_8, T_l⟩ := T4.out.c9
    go_wp2_with fail
    refine (isKnown9_any 3 _).mono ?_
    rintro e w5 ⟨rfl, hb⟩
    have hB5 : Below w4.heap.size w4 w5 := bTrans (Below.refl _ _) hb
    have HD5 := Lib.hid (bTrans HD4.out hB5)
    have HT5 := Lib.hid (HT4.out.mono hB5)
    have HTB5 := Lib.hid (HTB4.out.mono hB5)
    have HNA5 := Lib.hid (HNA4.out.mono hB5)
    have T5 := Lib.hid (T4.out.mono hB5)
    clear hb hB5 HD4 HT4 HTB4 HNA4 T4 T_0 T_1 T_2 T_3 T_4 T_5 T_6 T_7 T_8 T_l
    obtain ⟨T_0, T_1, T_2, T_3, T_4, T_5, T_6, T_7, T_8, T_l⟩ := T5.out.c9
    go_wp2_with fail
    refine (isKnown9_any 3 _).mono ?_
    rintro e w6 ⟨rfl, hb⟩
    have hB6 : Below w5.heap.size w5 w6 := bTrans (Below.refl _ _) hb
    have HD6 := Lib.hid (bTrans HD5.out hB6)
    have HT6 := Lib.hid (HT5.out.mono hB6)
    have HTB6 := Lib.hid (HTB5.out.mono hB6)
    have HNA6 := Lib.hid (HNA5.out.mono hB6)
    have T6 := Lib.hid (T5.out.mono hB6)
    clear hb hB6 HD5 HT5 HTB5 HNA5 T5 T_0 T_1 T_2 T_3 T_4 T_5 T_6 T_7 T_8 T_l
    obtain ⟨T_0, T_1, T_2, T_3, T_4, T_5, T_6, T_7, T_8, T_l⟩ := T6.out.c9
    go_wp2_with fail
    obtain ⟨nn, hnn⟩ : ∃ nn : Nat, nn = 100 := ⟨_, rfl⟩
    clear T_0 T_1 T_2 T_3 T_4 T_5 T_6 T_7 T_8 T_l
    go_loopw [7] (fun s7 wr => ∃ k : Nat, k ≤ nn ∧ s7 = .int .i64 (k : Int) ∧ Below w6.heap.size w6 wr) (fun s7 _ => nn - (intOf s7).toNat)
    case atStart => exact ⟨99, by omega, rfl, Below.refl _ _⟩
    case round =>
      obtain ⟨k, hk_k, rfl, hb⟩ := hrel
      have HBk := Lib.hid hb
      have hB7 : Below w6.heap.size w6 wr := bTrans (Below.refl _ _) hb
      have HD7 := Lib.hid (bTrans HD6.out hB7)
      have HT7 := Lib.hid (HT6.out.mono hB7)
      have HTB7 := Lib.hid (HTB6.out.mono hB7)
      have HNA7 := Lib.hid (HNA6.out.mono hB7)
      have HU_k7 := Lib.hid ((show Upto w6 wr from HBk.out))
      have T7 := Lib.hid (T6.out.mono hB7)
      clear hb hB7
      obtain ⟨T_0, T_1, T_2, T_3, T_4, T_5, T_6, T_7, T_8, T_l⟩ := T7.out.c9
      by_cases hlt_k : k < nn
      case pos =>
        have h1_k : (k : Int) < (nn : Int) := by omega
        have h0_k : (0 : Int) ≤ (k : Int) := by omega
        have hb_k : k < 100 := by omega
        have HK := Lib.hid (show k ≤ 99 by omega)
        have hky : (k : Int) ≤ 100 := by omega
        have hky2 : (k : Int) ≤ 99 := by omega
        go_wp2_with fail
        refine (harmed9_any Aw Af Ao Ap As cw cf co cp cs t (k : Int) _ HFI.out HT7.out).mono ?_
        rintro e w8 ⟨ho, hb⟩
        obtain ⟨Bw, dw, Bf, df, Bo, do_, Bp, dp, Bs, ds, rfl, hU⟩ := ho
        have hB8 : Below wr.heap.size wr w8 := bTrans (Below.refl _ _) hb
        have HD8 := Lib.hid (bTrans HD7.out hB8)
        have HT8 := Lib.hid (HT7.out.mono hB8)
        have HTB8 := Lib.hid (HTB7.out.mono hB8)
        have HNA8 := Lib.hid (HNA7.out.mono hB8)
        have HU_k8 := Lib.hid (HU_k7.out.mono hB8)
        have HU8 := Lib.hid (hU)
        have T8 := Lib.hid (T7.out.mono hB8)
        clear hb hB8 HD7 HT7 HTB7 HNA7 HU_k7 T7 T_0 T_1 T_2 T_3 T_4 T_5 T_6 T_7 T_8 T_l
        obtain ⟨T_0, T_1, T_2, T_3, T_4, T_5, T_6, T_7, T_8, T_l⟩ := T8.out.c9
        clear hU
        go_wp2_with fail
        obtain ⟨z, hz⟩ : ∃ y, (t.harmed (k : Int)).frees.length = y := ⟨_, rfl⟩
        have HZ := Lib.hid hz
        clear hz
        have hzz : (0 < z) ↔ (L ≤ k) := by
          have h1 := HSP.out k (by have := HK.out; omega)
          rw [anyFree_frees, HZ.out] at h1
          exact decide_eq_decide.1 h1
        refine ((by have := freeP_any Bw Bf Bo Bp Bs dw df do_ dp ds (t.harmed (k : Int)) w8 (harmed_small HSM.out _) HU8.out HTB8.out HNA8.out; rw [Pt.knowErr_ok (harmed_ok HOK.out HK.out) (show (t.harmed (k : Int)).q.leftL ≠ [] from HNE.out)] at this; exact this : Calls Tryz.prog 33 #[.agg #[.int .i64 t.q.wells, .slice Bw t.q.nw dw, .slice Bf t.q.nf df, .slice Bo t.no do_, .slice Bp t.np dp, .slice Bs t.ns ds, .int .i64 t.far, .int .i64 (k : Int), .int .i64 t.many]] w8 fun e w' => NumsOut w' w8.heap.size 0 (t.harmed (k : Int)).frees e ∧ Below w8.heap.size w8 w')).mono ?_
        rintro e w9 ⟨ho, hb⟩
        obtain ⟨v, rfl, hv⟩ := ho.1 rfl
        obtain ⟨A6, c6, rfl, _⟩ := hv.lst
        rw [HZ.out]
        have hB9 : Below w8.heap.size w8 w9 := bTrans (Below.refl _ _) hb
        have HD9 := Lib.hid (bTrans HD8.out hB9)
        have HT9 := Lib.hid (HT8.out.mono hB9)
        have HTB9 := Lib.hid (HTB8.out.mono hB9)
        have HNA9 := Lib.hid (HNA8.out.mono hB9)
        have HU_k9 := Lib.hid (HU_k8.out.mono hB9)
        have T9 := Lib.hid (T8.out.mono hB9)
        clear hb hB9 HD8 HT8 HTB8 HNA8 HU_k8 HU8 T8 T_0 T_1 T_2 T_3 T_4 T_5 T_6 T_7 T_8 T_l
        obtain ⟨T_0, T_1, T_2, T_3, T_4, T_5, T_6, T_7, T_8, T_l⟩ := T9.out.c9
        clear ho hv
        by_cases hz : 0 < z
        case pos =>
          exfalso
          have := hzz.1 hz
          omega
        obtain rfl : z = 0 := by omega
        have hlk : ¬ L ≤ k := fun h => hz (hzz.2 h)
        have q2 : ((k : Int) == 100) = false := by simp; omega
        have q3 : ¬ (k : Int) = 100 := by omega
        clear hzz hlk hz
        go_wp2_with fail
        go_roundw
        case rel =>
          first
          | exact ⟨k + 1, by omega, by go_num, HU_k9.out⟩
          | ((repeat apply Exists.intro)
             refine ⟨⟨k + 1, by omega, ?_, HU_k9.out⟩, rfl⟩
             go_num)
        case measure => simp [intOf]; omega
      have he_k : k = nn := by omega
      have hk9 : ¬ (k : Int) ≤ 99 := by omega
      clear he_k
      go_wp2_with fail
      refine (works9_any _ HTB7.out HNA7.out).mono ?_
      rintro e w8 ⟨rfl, hb⟩
      have hB8 : Below wr.heap.size wr w8 := bTrans (Below.refl _ _) hb
      have HD8 := Lib.hid (bTrans HD7.out hB8)
      have HT8 := Lib.hid (HT7.out.mono hB8)
      have HTB8 := Lib.hid (HTB7.out.mono hB8)
      have HNA8 := Lib.hid (HNA7.out.mono hB8)
      have HU_k8 := Lib.hid (HU_k7.out.mono hB8)
      have T8 := Lib.hid (T7.out.mono hB8)
      clear hb hB8 HD7 HT7 HTB7 HNA7 HU_k7 T7 T_0 T_1 T_2 T_3 T_4 T_5 T_6 T_7 T_8 T_l
      obtain ⟨T_0, T_1, T_2, T_3, T_4, T_5, T_6, T_7, T_8, T_l⟩ := T8.out.c9
      go_wp2_with fail
      go_ret
      exact ⟨rfl, HD8.out⟩
end Go.Proofs.YtjpfdhhiofjpbaaGreatDoor

