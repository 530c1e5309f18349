/- Parts joined: what all claims of this seat need. -/
import Derived.Test.YthnojgdckkdcgaaGreatDoorNSP
import Derived.Test.YthnojgdckkdcgaaGreatDoorNSL
import Derived.Test.YthnojgdckkdcgaaGreatDoorNSE
import Derived.Test.YthnojgdckkdcgaaGreatDoorNSO
import Derived.Test.YthnojgdckkdcgaaGreatDoorNSJ
import Derived.Test.YthnojgdckkdcgaaGreatDoorNSM
import Derived.Test.YthnojgdckkdcgaaGreatDoorNSF
import Derived.Test.YthnojgdckkdcgaaGreatDoorNSC
import Derived.Test.YthnojgdckkdcgaaGreatDoorNSI
import Derived.Test.YthnojgdckkdcgaaGreatDoorNSA
import Derived.Test.YthnojgdckkdcgaaGreatDoorNSN
set_option linter.unusedSimpArgs false
set_option linter.unusedVariables false
namespace Go.Proofs.YthnojgdckkdcgaaGreatDoor
open Go.RowKit Go.Sort
end Go.Proofs.YthnojgdckkdcgaaGreatDoor

namespace Go.Proofs.YthnojgdckkdcgaaGreatDoor
open Go.RowKit Go.Sort
end Go.Proofs.YthnojgdckkdcgaaGreatDoor

namespace Go.Proofs.YthnojgdckkdcgaaGreatDoor
open Go.RowKit Go.Sort
end Go.Proofs.YthnojgdckkdcgaaGreatDoor

namespace Go.Proofs.YthnojgdckkdcgaaGreatDoor
open Go.RowKit Go.Sort
end Go.Proofs.YthnojgdckkdcgaaGreatDoor

namespace Go.Proofs.YthnojgdckkdcgaaGreatDoor
open Go.RowKit Go.Sort
end Go.Proofs.YthnojgdckkdcgaaGreatDoor

namespace Go.Proofs.YthnojgdckkdcgaaGreatDoor
open Go.RowKit Go.Sort Go.Shelf
end Go.Proofs.YthnojgdckkdcgaaGreatDoor

namespace Go.Proofs.YthnojgdckkdcgaaGreatDoor
open Go.RowKit Go.Sort
end Go.Proofs.YthnojgdckkdcgaaGreatDoor

namespace Go.Proofs.YthnojgdckkdcgaaGreatDoor
open Go.RowKit Go.Sort
end Go.Proofs.YthnojgdckkdcgaaGreatDoor

namespace Go.Proofs.YthnojgdckkdcgaaGreatDoor
open Go.RowKit Go.Sort
end Go.Proofs.YthnojgdckkdcgaaGreatDoor

namespace Go.Proofs.YthnojgdckkdcgaaGreatDoor
open Go.RowKit Go.Sort
theorem inN_zero {t : Pt} {s w : Nat} : t.inN s w = 0 ↔ ∀ a, a ∈ t.q.leftL → t.forb s w a = false := by
  unfold Pt.inN Pt.inTo
  rw [cntB_zero]
  constructor
  · intro h a ha
    obtain ⟨i, hi, rfl⟩ := mem_intL0 ha
    exact h i hi
  · intro h i hi
    exact h _ (intL0_mem hi)
theorem whoB_iff {t : Pt} {s w : Nat} : t.whoB s w = true ↔ ∃ a, a ∈ t.q.leftL ∧ t.forb s w a = true := by
  unfold Pt.whoB
  rw [decide_eq_true_eq]
  constructor
  · intro h
    by_cases e : ∃ a, a ∈ t.q.leftL ∧ t.forb s w a = true
    · exact e
    · have : t.inN s w = 0 := inN_zero.2 fun a ha => by
        cases hf : t.forb s w a
        · rfl
        · exact absurd ⟨a, ha, hf⟩ e
      omega
  · rintro ⟨a, ha, hf⟩
    have : t.inN s w ≠ 0 := fun e => by rw [inN_zero.1 e a ha] at hf; cases hf
    omega
/-! ### one fact more -/
def Pt.told (t : Pt) (f : Fact) : Pt := { t with q := t.q.add f }
/-! ### the looser law -/
/-! ### the street, seen from the other end -/
def Pt.mirror (t : Pt) : Pt := { t with old := fun w => 99 - t.old w, spot := fun s => { t.spot s with at_ := 99 - (t.spot s).at_ } }
theorem dst_mirror (a b : Int) : dst (99 - a) (99 - b) = dst a b := by unfold dst; omega
theorem mirror_forb (t : Pt) (s w : Nat) (a : Int) : t.mirror.forb s w a = t.forb s w a := by
  unfold Pt.forb Pt.mirror
  simp only [dst_mirror]
theorem mirror_in (t : Pt) (s w : Nat) : t.mirror.whoB s w = t.whoB s w := by
  refine Bool.eq_iff_iff.2 ⟨fun h => ?_, fun h => ?_⟩
  · obtain ⟨a, h1, h2⟩ := whoB_iff.1 h
    exact whoB_iff.2 ⟨a, h1, by rw [← mirror_forb]; exact h2⟩
  · obtain ⟨a, h1, h2⟩ := whoB_iff.1 h
    exact whoB_iff.2 ⟨a, h1, by rw [mirror_forb]; exact h2⟩
theorem mirror_twin (t : Pt) : Twin t.mirror t :=
  ⟨Nat.le_refl _, rfl, fun _ _ => rfl, fun _ _ => rfl, fun s w _ _ => mirror_in t s w, fun a b _ _ => by unfold Pt.mirror; simp only [dst_mirror]⟩
theorem mirror_near (t : Pt) (s : Nat) : ∀ k, t.mirror.nearTo s k = t.nearTo s k
  | 0 => rfl
  | k + 1 => by
    unfold Pt.nearTo
    rw [mirror_near t s k]
    unfold Pt.mirror
    simp only [dst_mirror]
theorem mirror_ok {t : Pt} (ok : t.Ok) : t.mirror.Ok :=
  ⟨ok.q, ok.no, ok.np, ok.ns, ok.far, ok.harm, ok.many, fun i hi => by have := ok.old i hi; show 0 ≤ 99 - t.old i ∧ 99 - t.old i ≤ 99; omega, ok.pence, fun i hi => by
    have h := ok.spot i hi
    exact ⟨by have := h.a1; show 0 ≤ 99 - (t.spot i).at_; omega, by have := h.a0; show 99 - (t.spot i).at_ ≤ 99; omega, h.sh, h.n, h.len, h.fall⟩⟩
/-! ### one spot more -/
/-! ### the least harm -/
end Go.Proofs.YthnojgdckkdcgaaGreatDoor

namespace Go.Proofs.YthnojgdckkdcgaaGreatDoor
open Go.RowKit Go.Sort
/-- a cell, and that it is there -/
def CAt (w : World) (b o : Nat) (v : Value) : Prop := b < w.heap.size ∧ w.cell? ⟨b, o, none⟩ = some v
theorem CAt.mono {w w' : World} {b o : Nat} {v : Value} (h : CAt w b o v) (hb : Below w.heap.size w w') : CAt w' b o v := ⟨Nat.lt_of_lt_of_le h.1 hb.size, (hb.cell (p := ⟨b, o, none⟩) h.1).trans h.2⟩
theorem within9_b (n lo hi : Int) (b : Bool) (w : World) (h : inR n lo hi = b) : Calls Tryz.prog 75 #[.int .i64 n, .int .i64 lo, .int .i64 hi] w fun e w' => e = .returned (.bool b) ∧ w = w' := by
  have H := Lib.hid h
  clear h
  go_enter Tryz.func75, Tryz.ntmps75
  go_wp2_with fail
  refine (within_b _ _ _ _ _ H.out).mono ?_
  rintro e w' ⟨rfl, rfl⟩
  go_wp2_with fail
  go_ret
  exact ⟨rfl, rfl⟩
set_option maxHeartbeats 4000000 in
set_option maxRecDepth 100000 in
theorem isSpotN9_any (Aw Af Ao Ap As : Option Addr) (cw cf co cp cs : Nat) (t : Pt) (n : Int) (w : World) (hs : t.ns ≤ 9223372036854775807) :
    Calls Tryz.prog 23 #[.agg #[.int .i64 t.q.wells, .slice Aw t.q.nw cw, .slice Af t.q.nf cf, .slice Ao t.no co, .slice Ap t.np cp, .slice As t.ns cs, .int .i64 t.far, .int .i64 t.harm, .int .i64 t.many], .int .i64 n] w fun e w' => e = .returned (.bool (t.hasB n)) ∧ Below w.heap.size w w' := by
  have hw1 : IntKind.i64.wrap ((t.ns : Int) - 1) = (t.ns : Int) - 1 := IntWalk.i64_in _ (by omega)
  have HN := Lib.hid (show inR n 0 ((t.ns : Int) - 1) = t.hasB n from rfl)
  clear hs
  have HD0 := Lib.hid (Below.refl w.heap.size w)
  go_enter Tryz.func23, Tryz.ntmps23
  go_wp2_with fail
  refine (within9_b _ _ _ _ _ HN.out).mono ?_
  rintro e w0 ⟨rfl, rfl⟩
  go_wp2_with fail
  go_ret
  exact ⟨rfl, (bTrans HD0.out (bAlloc (Below.refl _ _) (.cells #[.int .i64 t.q.wells, .slice Aw t.q.nw cw, .slice Af t.q.nf cf, .slice Ao t.no co, .slice Ap t.np cp, .slice As t.ns cs, .int .i64 t.far, .int .i64 t.harm, .int .i64 t.many] 62)))⟩
set_option maxHeartbeats 8000000 in
set_option maxRecDepth 100000 in
theorem isSpot9_any (Aw Af Ao Ap As : Option Addr) (cw cf co cp cs : Nat) (t : Pt) (Ar Af2 Ax : Option Addr) (cr cf2 cx : Nat) (x : Spot) (w : World) (hs : x.Small) (hS : ShAt w Ar Af2 x.sh) (hR : RowsAt w Ax x.fl) :
    Calls Tryz.prog 89 #[.agg #[.int .i64 t.q.wells, .slice Aw t.q.nw cw, .slice Af t.q.nf cf, .slice Ao t.no co, .slice Ap t.np cp, .slice As t.ns cs, .int .i64 t.far, .int .i64 t.harm, .int .i64 t.many], .agg #[.int .i64 x.at_, .slice Ar x.sh.nr cr, .slice Af2 x.sh.nf cf2, .int .i64 x.sh.deep, .int .i64 x.sh.haul, .int .i64 x.sh.rest, .slice Ax x.fl.n cx]] w fun e w' => e = .returned (.bool (x.okB t.q.nw t.q.wells)) ∧ Below w.heap.size w w' := by
  have HD0 := Lib.hid (Below.refl w.heap.size w)
  have HSM := Lib.hid hs
  have HSH0 := Lib.hid hS
  have HRW0 := Lib.hid hR
  clear hs hS hR
  go_enter Tryz.func89, Tryz.ntmps89
  cases hat : inR x.at_ 0 99
  case false =>
    have HE := Lib.hid (Spot.okB_f (nw := t.q.nw) (m := t.q.wells) (x := x) fun h => by rw [inR_t ⟨h.a0, h.a1⟩] at hat; cases hat)
    have G1 := Lib.hid hat
    clear hat
    go_wp2_with fail
    refine (within9_b _ _ _ _ _ G1.out).mono ?_
    rintro e w0 ⟨rfl, rfl⟩
    go_wp2_with fail
    go_ret
    exact ⟨by rw [HE.out]; rfl, (bTrans HD0.out (bAlloc (bAlloc (Below.refl _ _) (.cells #[.int .i64 t.q.wells, .slice Aw t.q.nw cw, .slice Af t.q.nf cf, .slice Ao t.no co, .slice Ap t.np cp, .slice As t.ns cs, .int .i64 t.far, .int .i64 t.harm, .int .i64 t.many] 62)) (.cells #[.int .i64 x.at_, .slice Ar x.sh.nr cr, .slice Af2 x.sh.nf cf2, .int .i64 x.sh.deep, .int .i64 x.sh.haul, .int .i64 x.sh.rest, .slice Ax x.fl.n cx] 71)))⟩
  have G1 := Lib.hid hat
  clear hat
  by_cases hsh : x.sh.Ok
  case neg =>
    have HE := Lib.hid (Spot.okB_f (nw := t.q.nw) (m := t.q.wells) (x := x) fun h => hsh h.sh)
    have G2 := Lib.hid hsh
    clear hsh
    go_wp2_with fail
    refine (within9_b _ _ _ _ _ G1.out).mono ?_
    rintro e w0 ⟨rfl, rfl⟩
    go_wp2_with fail
    refine (refCheck_any Ar Af2 cr cf2 x.sh _ HSM.out.nr HSM.out.nf (HSH0.out.mono (bAlloc (bAlloc (Below.refl _ _) (.cells #[.int .i64 t.q.wells, .slice Aw t.q.nw cw, .slice Af t.q.nf cf, .slice Ao t.no co, .slice Ap t.np cp, .slice As t.ns cs, .int .i64 t.far, .int .i64 t.harm, .int .i64 t.many] 62)) (.cells #[.int .i64 x.at_, .slice Ar x.sh.nr cr, .slice Af2 x.sh.nf cf2, .int .i64 x.sh.deep, .int .i64 x.sh.haul, .int .i64 x.sh.rest, .slice Ax x.fl.n cx] 71)))).mono ?_
    rintro e w1 ⟨rfl, hb⟩
    have hB1 : Below w.heap.size w w1 := bTrans (bAlloc (bAlloc (Below.refl _ _) (.cells #[.int .i64 t.q.wells, .slice Aw t.q.nw cw, .slice Af t.q.nf cf, .slice Ao t.no co, .slice Ap t.np cp, .slice As t.ns cs, .int .i64 t.far, .int .i64 t.harm, .int .i64 t.many] 62)) (.cells #[.int .i64 x.at_, .slice Ar x.sh.nr cr, .slice Af2 x.sh.nf cf2, .int .i64 x.sh.deep, .int .i64 x.sh.haul, .int .i64 x.sh.rest, .slice Ax x.fl.n cx] 71)) hb
    have HD1 := Lib.hid (bTrans HD0.out hB1)
    have HSH1 := Lib.hid (HSH0.out.mono hB1)
    have HRW1 := Lib.hid (HRW0.out.mono hB1)
    have T1 := Lib.hid (show TBox w1 w.heap.size 62 #[.int .i64 t.q.wells, .slice Aw t.q.nw cw, .slice Af t.q.nf cf, .slice Ao t.no co, .slice Ap t.np cp, .slice As t.ns cs, .int .i64 t.far, .int .i64 t.harm, .int .i64 t.many] from by have := ((TBox.new w #[.int .i64 t.q.wells, .slice Aw t.q.nw cw, .slice Af t.q.nf cf, .slice Ao t.no co, .slice Ap t.np cp, .slice As t.ns cs, .int .i64 t.far, .int .i64 t.harm, .int .i64 t.many] 62).mono (bAlloc (Below.refl _ _) (.cells #[.int .i64 x.at_, .slice Ar x.sh.nr cr, .slice Af2 x.sh.nf cf2, .int .i64 x.sh.deep, .int .i64 x.sh.haul, .int .i64 x.sh.rest, .slice Ax x.fl.n cx] 71))).mono hb; simpa using this)
    have X1 := Lib.hid (show TBox w1 (w.heap.size + 1) 71 #[.int .i64 x.at_, .slice Ar x.sh.nr cr, .slice Af2 x.sh.nf cf2, .int .i64 x.sh.deep, .int .i64 x.sh.haul, .int .i64 x.sh.rest, .slice Ax x.fl.n cx] from by have := ((TBox.new (w.alloc (.cells #[.int .i64 t.q.wells, .slice Aw t.q.nw cw, .slice Af t.q.nf cf, .slice Ao t.no co, .slice Ap t.np cp, .slice As t.ns cs, .int .i64 t.far, .int .i64 t.harm, .int .i64 t.many] 62)) #[.int .i64 x.at_, .slice Ar x.sh.nr cr, .slice Af2 x.sh.nf cf2, .int .i64 x.sh.deep, .int .i64 x.sh.haul, .int .i64 x.sh.rest, .slice Ax x.fl.n cx] 71).mono (Below.refl _ _)).mono hb; simpa using this)
    clear hb hB1 HD0 HSH0 HRW0
    obtain ⟨T_0, T_1, T_2, T_3, T_4, T_5, T_6, T_7, T_8, T_l⟩ := T1.out.c9
    obtain ⟨X_0, X_1, X_2, X_3, X_4, X_5, X_6, X_l⟩ := X1.out.c7
    rw [Sh.err_bad G2.out]
    go_wp2_with fail
    go_ret
    exact ⟨by rw [HE.out]; rfl, HD1.out⟩
  have G2 := Lib.hid hsh
  clear hsh
  by_cases hnw : x.fl.n = t.q.nw
  case neg =>
    have HE := Lib.hid (Spot.okB_f (nw := t.q.nw) (m := t.q.wells) (x := x) fun h => hnw h.n)
    have g3i : ((x.fl.n : Int) != (t.q.nw : Int)) = true := by simp; omega
    have g3n : (x.fl.n != t.q.nw) = true := by simp; exact hnw
    clear hnw
    go_wp2_with fail
    refine (within9_b _ _ _ _ _ G1.out).mono ?_
    rintro e w0 ⟨rfl, rfl⟩
    go_wp2_with fail
    refine (refCheck_any Ar Af2 cr cf2 x.sh _ HSM.out.nr HSM.out.nf (HSH0.out.mono (bAlloc (bAlloc (Below.refl _ _) (.cells #[.int .i64 t.q.wells, .slice Aw t.q.nw cw, .slice Af t.q.nf cf, .slice Ao t.no co, .slice Ap t.np cp, .slice As t.ns cs, .int .i64 t.far, .int .i64 t.harm, .int .i64 t.many] 62)) (.cells #[.int .i64 x.at_, .slice Ar x.sh.nr cr, .slice Af2 x.sh.nf cf2, .int .i64 x.sh.deep, .int .i64 x.sh.haul, .int .i64 x.sh.rest, .slice Ax x.fl.n cx] 71)))).mono ?_
    rintro e w1 ⟨rfl, hb⟩
    have hB1 : Below w.heap.size w w1 := bTrans (bAlloc (bAlloc (Below.refl _ _) (.cells #[.int .i64 t.q.wells, .slice Aw t.q.nw cw, .slice Af t.q.nf cf, .slice Ao t.no co, .slice Ap t.np cp, .slice As t.ns cs, .int .i64 t.far, .int .i64 t.harm, .int .i64 t.many] 62)) (.cells #[.int .i64 x.at_, .slice Ar x.sh.nr cr, .slice Af2 x.sh.nf cf2, .int .i64 x.sh.deep, .int .i64 x.sh.haul, .int .i64 x.sh.rest, .slice Ax x.fl.n cx] 71)) hb
    have HD1 := Lib.hid (bTrans HD0.out hB1)
    have HSH1 := Lib.hid (HSH0.out.mono hB1)
    have HRW1 := Lib.hid (HRW0.out.mono hB1)
    have T1 := Lib.hid (show TBox w1 w.heap.size 62 #[.int .i64 t.q.wells, .slice Aw t.q.nw cw, .slice Af t.q.nf cf, .slice Ao t.no co, .slice Ap t.np cp, .slice As t.ns cs, .int .i64 t.far, .int .i64 t.harm, .int .i64 t.many] from by have := ((TBox.new w #[.int .i64 t.q.wells, .slice Aw t.q.nw cw, .slice Af t.q.nf cf, .slice Ao t.no co, .slice Ap t.np cp, .slice As t.ns cs, .int .i64 t.far, .int .i64 t.harm, .int .i64 t.many] 62).mono (bAlloc (Below.refl _ _) (.cells #[.int .i64 x.at_, .slice Ar x.sh.nr cr, .slice Af2 x.sh.nf cf2, .int .i64 x.sh.deep, .int .i64 x.sh.haul, .int .i64 x.sh.rest, .slice Ax x.fl.n cx] 71))).mono hb; simpa using this)
    have X1 := Lib.hid (show TBox w1 (w.heap.size + 1) 71 #[.int .i64 x.at_, .slice Ar x.sh.nr cr, .slice Af2 x.sh.nf cf2, .int .i64 x.sh.deep, .int .i64 x.sh.haul, .int .i64 x.sh.rest, .slice Ax x.fl.n cx] from by have := ((TBox.new (w.alloc (.cells #[.int .i64 t.q.wells, .slice Aw t.q.nw cw, .slice Af t.q.nf cf, .slice Ao t.no co, .slice Ap t.np cp, .slice As t.ns cs, .int .i64 t.far, .int .i64 t.harm, .int .i64 t.many] 62)) #[.int .i64 x.at_, .slice Ar x.sh.nr cr, .slice Af2 x.sh.nf cf2, .int .i64 x.sh.deep, .int .i64 x.sh.haul, .int .i64 x.sh.rest, .slice Ax x.fl.n cx] 71).mono (Below.refl _ _)).mono hb; simpa using this)
    clear hb hB1 HD0 HSH0 HRW0
    obtain ⟨T_0, T_1, T_2, T_3, T_4, T_5, T_6, T_7, T_8, T_l⟩ := T1.out.c9
    obtain ⟨X_0, X_1, X_2, X_3, X_4, X_5, X_6, X_l⟩ := X1.out.c7
    rw [Sh.err_ok G2.out]
    go_wp2_with fail
    go_ret
    exact ⟨by rw [HE.out]; rfl, HD1.out⟩
  have G3 := Lib.hid hnw
  have g3i : ((x.fl.n : Int) != (t.q.nw : Int)) = false := by rw [hnw]; simp
  have g3n : (x.fl.n != t.q.nw) = false := by rw [hnw]; simp
  have hn63 := HSM.out.n
  clear hnw
  go_wp2_with fail
  refine (within9_b _ _ _ _ _ G1.out).mono ?_
  rintro e w0 ⟨rfl, rfl⟩
  go_wp2_with fail
  refine (refCheck_any Ar Af2 cr cf2 x.sh _ HSM.out.nr HSM.out.nf (HSH0.out.mono (bAlloc (bAlloc (Below.refl _ _) (.cells #[.int .i64 t.q.wells, .slice Aw t.q.nw cw, .slice Af t.q.nf cf, .slice Ao t.no co, .slice Ap t.np cp, .slice As t.ns cs, .int .i64 t.far, .int .i64 t.harm, .int .i64 t.many] 62)) (.cells #[.int .i64 x.at_, .slice Ar x.sh.nr cr, .slice Af2 x.sh.nf cf2, .int .i64 x.sh.deep, .int .i64 x.sh.haul, .int .i64 x.sh.rest, .slice Ax x.fl.n cx] 71)))).mono ?_
  rintro e w1 ⟨rfl, hb⟩
  have hB1 : Below w.heap.size w w1 := bTrans (bAlloc (bAlloc (Below.refl _ _) (.cells #[.int .i64 t.q.wells, .slice Aw t.q.nw cw, .slice Af t.q.nf cf, .slice Ao t.no co, .slice Ap t.np cp, .slice As t.ns cs, .int .i64 t.far, .int .i64 t.harm, .int .i64 t.many] 62)) (.cells #[.int .i64 x.at_, .slice Ar x.sh.nr cr, .slice Af2 x.sh.nf cf2, .int .i64 x.sh.deep, .int .i64 x.sh.haul, .int .i64 x.sh.rest, .slice Ax x.fl.n cx] 71)) hb
  have HD1 := Lib.hid (bTrans HD0.out hB1)
  have HSH1 := Lib.hid (HSH0.out.mono hB1)
  have HRW1 := Lib.hid (HRW0.out.mono hB1)
  have T1 := Lib.hid (show TBox w1 w.heap.size 62 #[.int .i64 t.q.wells, .slice Aw t.q.nw cw, .slice Af t.q.nf cf, .slice Ao t.no co, .slice Ap t.np cp, .slice As t.ns cs, .int .i64 t.far, .int .i64 t.harm, .int .i64 t.many] from by have := ((TBox.new w #[.int .i64 t.q.wells, .slice Aw t.q.nw cw, .slice Af t.q.nf cf, .slice Ao t.no co, .slice Ap t.np cp, .slice As t.ns cs, .int .i64 t.far, .int .i64 t.harm, .int .i64 t.many] 62).mono (bAlloc (Below.refl _ _) (.cells #[.int .i64 x.at_, .slice Ar x.sh.nr cr, .slice Af2 x.sh.nf cf2, .int .i64 x.sh.deep, .int .i64 x.sh.haul, .int .i64 x.sh.rest, .slice Ax x.fl.n cx] 71))).mono hb; simpa using this)
  have X1 := Lib.hid (show TBox w1 (w.heap.size + 1) 71 #[.int .i64 x.at_, .slice Ar x.sh.nr cr, .slice Af2 x.sh.nf cf2, .int .i64 x.sh.deep, .int .i64 x.sh.haul, .int .i64 x.sh.rest, .slice Ax x.fl.n cx] from by have := ((TBox.new (w.alloc (.cells #[.int .i64 t.q.wells, .slice Aw t.q.nw cw, .slice Af t.q.nf cf, .slice Ao t.no co, .slice Ap t.np cp, .slice As t.ns cs, .int .i64 t.far, .int .i64 t.harm, .int .i64 t.many] 62)) #[.int .i64 x.at_, .slice Ar x.sh.nr cr, .slice Af2 x.sh.nf cf2, .int .i64 x.sh.deep, .int .i64 x.sh.haul, .int .i64 x.sh.rest, .slice Ax x.fl.n cx] 71).mono (Below.refl _ _)).mono hb; simpa using this)
  clear hb hB1 HD0 HSH0 HRW0
  obtain ⟨T_0, T_1, T_2, T_3, T_4, T_5, T_6, T_7, T_8, T_l⟩ := T1.out.c9
  obtain ⟨X_0, X_1, X_2, X_3, X_4, X_5, X_6, X_l⟩ := X1.out.c7
  rw [Sh.err_ok G2.out]
  go_wp2_with fail
  clear g3i g3n
  clear T_0 T_1 T_2 T_3 T_4 T_5 T_6 T_7 T_8 T_l X_0 X_1 X_2 X_3 X_4 X_5 X_6 X_l
  go_loopw [5] (fun s5 wr => ∃ k : Nat, k ≤ x.fl.n ∧ s5 = .int .i64 (k : Int) ∧ (∀ j, j < k → (x.fl.len j : Int) = t.q.wells ∧ ∀ m, m < x.fl.len j → 0 ≤ x.fl.fall j m ∧ x.fl.fall j m ≤ 9) ∧ Below w1.heap.size w1 wr) (fun s5 _ => x.fl.n - (intOf s5).toNat)
  case atStart => exact ⟨0, Nat.zero_le _, rfl, fun j hj => absurd hj (Nat.not_lt_zero _), Below.refl _ _⟩
  case round =>
    obtain ⟨k, hk_k, rfl, hall, hb⟩ := hrel
    have HBk := Lib.hid hb
    have HALL := Lib.hid hall
    clear hall
    have hB2 : Below w1.heap.size w1 wr := bTrans (Below.refl _ _) hb
    have HD2 := Lib.hid (bTrans HD1.out hB2)
    have HSH2 := Lib.hid (HSH1.out.mono hB2)
    have HRW2 := Lib.hid (HRW1.out.mono hB2)
    have HU_k2 := Lib.hid ((show Upto w1 wr from HBk.out))
    have T2 := Lib.hid (T1.out.mono hB2)
    have X2 := Lib.hid (X1.out.mono hB2)
    clear hb hB2
    obtain ⟨T_0, T_1, T_2, T_3, T_4, T_5, T_6, T_7, T_8, T_l⟩ := T2.out.c9
    obtain ⟨X_0, X_1, X_2, X_3, X_4, X_5, X_6, X_l⟩ := X2.out.c7
    by_cases hlt_k : k < x.fl.n
    case pos =>
      have h1_k : (k : Int) < (x.fl.n : Int) := by omega
      have h0_k : (0 : Int) ≤ (k : Int) := by omega
      rcases HRW2.out with h0 | ⟨b, o, hA, hb, hcell⟩
      · omega
      obtain ⟨A2, c2, c0, hrow, hlen⟩ := hcell k hlt_k
      have HRO2 := Lib.hid hrow
      obtain ⟨m, hm⟩ : ∃ m, x.fl.len k = m := ⟨_, rfl⟩
      rw [hm] at c0 hlen
      have HM := Lib.hid hm
      have HK := Lib.hid hlt_k
      subst hA
      have CC02 := Lib.hid (show CAt wr b (o + k) (.slice A2 m c2) from ⟨hb, c0⟩)
      obtain ⟨CC0_l, CC0_c⟩ := CC02.out
      clear hcell hrow hm hb c0
      by_cases hlw : (m : Int) = t.q.wells
      case neg =>
        have e1 : ((m : Int) != t.q.wells) = true := bne_iff_ne.2 hlw
        have HE := Lib.hid (Spot.okB_f (nw := t.q.nw) (m := t.q.wells) (x := x) fun h => hlw (by have := h.len k HK.out; rw [HM.out] at this; exact this))
        clear hlw
        go_wp2_with fail
        refine wp_region_quiet_below (by kernel_rfl) (by kernel_rfl) ?_
        repeat (go_big_quiet_step ((fail)))
        refine wpQuiet_nil ?_
        intro w3 hw9
        have hb := below_of_regrown hw9
        clear hw9
        have hB3 : Below wr.heap.size wr w3 := bTrans (Below.refl _ _) hb
        have HD3 := Lib.hid (bTrans HD2.out hB3)
        have HSH3 := Lib.hid (HSH2.out.mono hB3)
        have HRW3 := Lib.hid (HRW2.out.mono hB3)
        have HU_k3 := Lib.hid (HU_k2.out.mono hB3)
        have HRO3 := Lib.hid (HRO2.out.mono hB3)
        have CC03 := Lib.hid (CC02.out.mono hB3)
        have T3 := Lib.hid (T2.out.mono hB3)
        have X3 := Lib.hid (X2.out.mono hB3)
        clear hb hB3 HD2 HSH2 HRW2 HU_k2 HRO2 CC02 T2 T_0 T_1 T_2 T_3 T_4 T_5 T_6 T_7 T_8 T_l X2 X_0 X_1 X_2 X_3 X_4 X_5 X_6 X_l
        obtain ⟨T_0, T_1, T_2, T_3, T_4, T_5, T_6, T_7, T_8, T_l⟩ := T3.out.c9
        obtain ⟨X_0, X_1, X_2, X_3, X_4, X_5, X_6, X_l⟩ := X3.out.c7
        clear CC0_l CC0_c
        obtain ⟨CC0_l, CC0_c⟩ := CC03.out
        go_wp2_with fail
        go_ret
        exact ⟨by rw [HE.out]; rfl, HD3.out⟩
      have e1 : ((m : Int) != t.q.wells) = false := by rw [hlw]; simp
      have HLW := Lib.hid hlw
      clear hlw
      go_wp2_with fail
      refine wp_region_quiet_below (by kernel_rfl) (by kernel_rfl) ?_
      repeat (go_big_quiet_step ((fail)))
      refine wpQuiet_nil ?_
      intro w3 hw9
      have hb := below_of_regrown hw9
      clear hw9
      clear e1
      have hB3 : Below wr.heap.size wr w3 := bTrans (Below.refl _ _) hb
      have HD3 := Lib.hid (bTrans HD2.out hB3)
      have HSH3 := Lib.hid (HSH2.out.mono hB3)
      have HRW3 := Lib.hid (HRW2.out.mono hB3)
      have HU_k3 := Lib.hid (HU_k2.out.mono hB3)
      have HRO3 := Lib.hid (HRO2.out.mono hB3)
      have CC03 := Lib.hid (CC02.out.mono hB3)
      have T3 := Lib.hid (T2.out.mono hB3)
      have X3 := Lib.hid (X2.out.mono hB3)
      clear hb hB3 HD2 HSH2 HRW2 HU_k2 HRO2 CC02 T2 T_0 T_1 T_2 T_3 T_4 T_5 T_6 T_7 T_8 T_l X2 X_0 X_1 X_2 X_3 X_4 X_5 X_6 X_l
      obtain ⟨T_0, T_1, T_2, T_3, T_4, T_5, T_6, T_7, T_8, T_l⟩ := T3.out.c9
      obtain ⟨X_0, X_1, X_2, X_3, X_4, X_5, X_6, X_l⟩ := X3.out.c7
      clear CC0_l CC0_c
      obtain ⟨CC0_l, CC0_c⟩ := CC03.out
      have HRP3 := Lib.hid (HM.out ▸ HRO3.out)
      clear HRO3
      go_wp2_with fail
      obtain ⟨wl221, hwl⟩ : ∃ y, y = wr := ⟨_, rfl⟩
      subst hwl
      clear T_0 T_1 T_2 T_3 T_4 T_5 T_6 T_7 T_8 T_l X_0 X_1 X_2 X_3 X_4 X_5 X_6 X_l
      go_loopw [6] (fun s6 wr => ∃ q : Nat, q ≤ m ∧ s6 = .int .i64 (q : Int) ∧ (∀ j, j < q → 0 ≤ x.fl.fall k j ∧ x.fl.fall k j ≤ 9) ∧ Below w3.heap.size w3 wr) (fun s6 _ => m - (intOf s6).toNat)
      case atStart => exact ⟨0, Nat.zero_le _, rfl, fun j hj => absurd hj (Nat.not_lt_zero _), Below.refl _ _⟩
      case round =>
        obtain ⟨q, hk_q, rfl, hall2, hb⟩ := hrel
        have HBq := Lib.hid hb
        have HALL2 := Lib.hid hall2
        clear hall2
        have hB4 : Below w3.heap.size w3 wr := bTrans (Below.refl _ _) hb
        have HD4 := Lib.hid (bTrans HD3.out hB4)
        have HSH4 := Lib.hid (HSH3.out.mono hB4)
        have HRW4 := Lib.hid (HRW3.out.mono hB4)
        have HU_k4 := Lib.hid (HU_k3.out.mono hB4)
        have HRP4 := Lib.hid (HRP3.out.mono hB4)
        have CC04 := Lib.hid (CC03.out.mono hB4)
        have HU_q4 := Lib.hid ((show Upto w3 wr from HBq.out))
        have T4 := Lib.hid (T3.out.mono hB4)
        have X4 := Lib.hid (X3.out.mono hB4)
        clear hb hB4
        obtain ⟨T_0, T_1, T_2, T_3, T_4, T_5, T_6, T_7, T_8, T_l⟩ := T4.out.c9
        obtain ⟨X_0, X_1, X_2, X_3, X_4, X_5, X_6, X_l⟩ := X4.out.c7
        obtain ⟨CC0_l, CC0_c⟩ := CC04.out
        by_cases hlt_q : q < m
        case pos =>
          have h1_q : (q : Int) < (m : Int) := by omega
          have h0_q : (0 : Int) ≤ (q : Int) := by omega
          obtain ⟨b5, o5, hA5, hl5, c5⟩ := HRP4.out.get hlt_q
          have HQ := Lib.hid hlt_q
          subst hA5
          cases hin : inR (x.fl.fall k q) 0 9
          · skip
            have G4 := Lib.hid hin
            have HE := Lib.hid (Spot.okB_f (nw := t.q.nw) (m := t.q.wells) (x := x) fun h => by
              have := h.fall k HK.out q (by rw [HM.out]; exact HQ.out)
              rw [inR_t this] at hin
              cases hin)
            clear hin
            go_wp2_with fail
            refine (within9_b _ _ _ _ _ G4.out).mono ?_
            rintro e w0 ⟨rfl, rfl⟩
            go_wp2_with fail
            go_ret
            exact ⟨by rw [HE.out]; rfl, HD4.out⟩
          · skip
            have G4 := Lib.hid hin
            clear hin
            have HQ2 := Lib.hid (show ∀ j, j < q + 1 → 0 ≤ x.fl.fall k j ∧ x.fl.fall k j ≤ 9 from fun j hj => by
              rcases Nat.lt_or_ge j q with h1 | h1
              · exact HALL2.out j h1
              · obtain rfl : j = q := by omega
                exact inR_iff.1 G4.out)
            go_wp2_with fail
            refine (within9_b _ _ _ _ _ G4.out).mono ?_
            rintro e w0 ⟨rfl, rfl⟩
            go_wp2_with fail
            go_roundw
            case rel =>
              first
              | exact ⟨q + 1, by omega, by go_num, HQ2.out, HU_q4.out⟩
              | ((repeat apply Exists.intro)
                 refine ⟨⟨q + 1, by omega, ?_, HQ2.out, HU_q4.out⟩, rfl⟩
                 go_num)
            case measure => simp [intOf]; omega
        have he_q : q = m := by omega
        have HA2 := Lib.hid (show (∀ j, j < k + 1 → (x.fl.len j : Int) = t.q.wells ∧ ∀ m, m < x.fl.len j → 0 ≤ x.fl.fall j m ∧ x.fl.fall j m ≤ 9) from fun j hj => by
          rcases Nat.lt_or_ge j k with h1 | h1
          · exact HALL.out j h1
          · obtain rfl : j = k := by omega
            rw [HM.out]
            exact ⟨HLW.out, by rw [← he_q]; exact HALL2.out⟩)
        have hq9 : ¬ (q : Int) < (m : Int) := by omega
        have hq8 : ¬ q < m := by omega
        clear he_q
        go_wp2_with fail
        go_roundw
        case rel =>
          first
          | exact ⟨k + 1, by omega, by go_num, HA2.out, HU_k4.out⟩
          | ((repeat apply Exists.intro)
             refine ⟨⟨k + 1, by omega, ?_, HA2.out, HU_k4.out⟩, rfl⟩
             go_num)
        case measure => simp [intOf]; omega
    have he_k : k = x.fl.n := by omega
    have HE := Lib.hid (Spot.okB_t (nw := t.q.nw) (m := t.q.wells) (x := x) ⟨(inR_iff.1 G1.out).1, (inR_iff.1 G1.out).2, G2.out, G3.out, fun j hj => (HALL.out j (by omega)).1, fun j hj => (HALL.out j (by omega)).2⟩)
    have hk9 : ¬ (k : Int) < (x.fl.n : Int) := by omega
    have hk8 : ¬ k < x.fl.n := by omega
    clear he_k
    go_wp2_with fail
    go_ret
    exact ⟨by rw [HE.out]; rfl, HD2.out⟩
set_option maxHeartbeats 8000000 in
set_option maxRecDepth 100000 in
theorem check9_any (Aw Af Ao Ap As : Option Addr) (cw cf co cp cs : Nat) (t : Pt) (w : World) (hs : t.Small) (hT : PAt w Aw Af Ao Ap As t) :
    Calls Tryz.prog 34 #[.agg #[.int .i64 t.q.wells, .slice Aw t.q.nw cw, .slice Af t.q.nf cf, .slice Ao t.no co, .slice Ap t.np cp, .slice As t.ns cs, .int .i64 t.far, .int .i64 t.harm, .int .i64 t.many]] w fun e w' => e = .returned (.int .i64 t.err) ∧ Below w.heap.size w w' := by
  have HD0 := Lib.hid (Below.refl w.heap.size w)
  have HSM := Lib.hid hs
  have HT0 := Lib.hid hT
  clear hs hT
  go_enter Tryz.func34, Tryz.ntmps34
  by_cases g0 : t.q.Ok
  case neg =>
    have HE := Lib.hid (Pt.err_bad (t := t) fun h => g0 h.q)
    have G0 := Lib.hid g0
    clear g0
    go_wp2_with fail
    refine (refCheck5 _ _ _ _ t.q _ HSM.out.q.1 HSM.out.q.2.1 (HT0.out.mono (bAlloc (Below.refl _ _) (.cells #[.int .i64 t.q.wells, .slice Aw t.q.nw cw, .slice Af t.q.nf cf, .slice Ao t.no co, .slice Ap t.np cp, .slice As t.ns cs, .int .i64 t.far, .int .i64 t.harm, .int .i64 t.many] 62))).q).mono ?_
    rintro e w1 ⟨rfl, hb⟩
    have hB1 : Below w.heap.size w w1 := bTrans (bAlloc (Below.refl _ _) (.cells #[.int .i64 t.q.wells, .slice Aw t.q.nw cw, .slice Af t.q.nf cf, .slice Ao t.no co, .slice Ap t.np cp, .slice As t.ns cs, .int .i64 t.far, .int .i64 t.harm, .int .i64 t.many] 62)) hb
    have HD1 := Lib.hid (bTrans HD0.out hB1)
    have HT1 := Lib.hid (HT0.out.mono hB1)
    have T1 := Lib.hid (show TBox w1 w.heap.size 62 #[.int .i64 t.q.wells, .slice Aw t.q.nw cw, .slice Af t.q.nf cf, .slice Ao t.no co, .slice Ap t.np cp, .slice As t.ns cs, .int .i64 t.far, .int .i64 t.harm, .int .i64 t.many] from by have := ((TBox.new w #[.int .i64 t.q.wells, .slice Aw t.q.nw cw, .slice Af t.q.nf cf, .slice Ao t.no co, .slice Ap t.np cp, .slice As t.ns cs, .int .i64 t.far, .int .i64 t.harm, .int .i64 t.many] 62).mono (Below.refl _ _)).mono hb; simpa using this)
    clear hb hB1 HD0 HT0
    obtain ⟨T_0, T_1, T_2, T_3, T_4, T_5, T_6, T_7, T_8, T_l⟩ := T1.out.c9
    rw [Qt.err_bad G0.out]
    go_wp2_with fail
    go_ret
    exact ⟨by rw [HE.out]; rfl, HD1.out⟩
  have G0 := Lib.hid g0
  clear g0
  by_cases g1 : (t.no : Int) = t.q.wells
  case neg =>
    have HE := Lib.hid (Pt.err_bad (t := t) fun h => g1 h.no)
    have g1i : ((t.no : Int) != t.q.wells) = true := bne_iff_ne.2 g1
    clear g1
    go_wp2_with fail
    refine (refCheck5 _ _ _ _ t.q _ HSM.out.q.1 HSM.out.q.2.1 (HT0.out.mono (bAlloc (Below.refl _ _) (.cells #[.int .i64 t.q.wells, .slice Aw t.q.nw cw, .slice Af t.q.nf cf, .slice Ao t.no co, .slice Ap t.np cp, .slice As t.ns cs, .int .i64 t.far, .int .i64 t.harm, .int .i64 t.many] 62))).q).mono ?_
    rintro e w1 ⟨rfl, hb⟩
    have hB1 : Below w.heap.size w w1 := bTrans (bAlloc (Below.refl _ _) (.cells #[.int .i64 t.q.wells, .slice Aw t.q.nw cw, .slice Af t.q.nf cf, .slice Ao t.no co, .slice Ap t.np cp, .slice As t.ns cs, .int .i64 t.far, .int .i64 t.harm, .int .i64 t.many] 62)) hb
    have HD1 := Lib.hid (bTrans HD0.out hB1)
    have HT1 := Lib.hid (HT0.out.mono hB1)
    have T1 := Lib.hid (show TBox w1 w.heap.size 62 #[.int .i64 t.q.wells, .slice Aw t.q.nw cw, .slice Af t.q.nf cf, .slice Ao t.no co, .slice Ap t.np cp, .slice As t.ns cs, .int .i64 t.far, .int .i64 t.harm, .int .i64 t.many] from by have := ((TBox.new w #[.int .i64 t.q.wells, .slice Aw t.q.nw cw, .slice Af t.q.nf cf, .slice Ao t.no co, .slice Ap t.np cp, .slice As t.ns cs, .int .i64 t.far, .int .i64 t.harm, .int .i64 t.many] 62).mono (Below.refl _ _)).mono hb; simpa using this)
    clear hb hB1 HD0 HT0
    obtain ⟨T_0, T_1, T_2, T_3, T_4, T_5, T_6, T_7, T_8, T_l⟩ := T1.out.c9
    rw [Qt.err_ok G0.out]
    go_wp2_with fail
    go_ret
    exact ⟨by rw [HE.out]; rfl, HD1.out⟩
  have G1 := Lib.hid g1
  have g1i : ((t.no : Int) != t.q.wells) = false := by rw [g1]; simp
  clear g1
  by_cases g2 : (t.np : Int) = t.q.wells
  case neg =>
    have HE := Lib.hid (Pt.err_bad (t := t) fun h => g2 h.np)
    have g2i : ((t.np : Int) != t.q.wells) = true := bne_iff_ne.2 g2
    clear g2
    go_wp2_with fail
    refine (refCheck5 _ _ _ _ t.q _ HSM.out.q.1 HSM.out.q.2.1 (HT0.out.mono (bAlloc (Below.refl _ _) (.cells #[.int .i64 t.q.wells, .slice Aw t.q.nw cw, .slice Af t.q.nf cf, .slice Ao t.no co, .slice Ap t.np cp, .slice As t.ns cs, .int .i64 t.far, .int .i64 t.harm, .int .i64 t.many] 62))).q).mono ?_
    rintro e w1 ⟨rfl, hb⟩
    have hB1 : Below w.heap.size w w1 := bTrans (bAlloc (Below.refl _ _) (.cells #[.int .i64 t.q.wells, .slice Aw t.q.nw cw, .slice Af t.q.nf cf, .slice Ao t.no co, .slice Ap t.np cp, .slice As t.ns cs, .int .i64 t.far, .int .i64 t.harm, .int .i64 t.many] 62)) hb
    have HD1 := Lib.hid (bTrans HD0.out hB1)
    have HT1 := Lib.hid (HT0.out.mono hB1)
    have T1 := Lib.hid (show TBox w1 w.heap.size 62 #[.int .i64 t.q.wells, .slice Aw t.q.nw cw, .slice Af t.q.nf cf, .slice Ao t.no co, .slice Ap t.np cp, .slice As t.ns cs, .int .i64 t.far, .int .i64 t.harm, .int .i64 t.many] from by have := ((TBox.new w #[.int .i64 t.q.wells, .slice Aw t.q.nw cw, .slice Af t.q.nf cf, .slice Ao t.no co, .slice Ap t.np cp, .slice As t.ns cs, .int .i64 t.far, .int .i64 t.harm, .int .i64 t.many] 62).mono (Below.refl _ _)).mono hb; simpa using this)
    clear hb hB1 HD0 HT0
    obtain ⟨T_0, T_1, T_2, T_3, T_4, T_5, T_6, T_7, T_8, T_l⟩ := T1.out.c9
    rw [Qt.err_ok G0.out]
    go_wp2_with fail
    go_ret
    exact ⟨by rw [HE.out]; rfl, HD1.out⟩
  have G2 := Lib.hid g2
  have g2i : ((t.np : Int) != t.q.wells) = false := by rw [g2]; simp
  clear g2
  by_cases g3 : t.ns ≤ 5
  case neg =>
    have HE := Lib.hid (Pt.err_bad (t := t) fun h => g3 h.ns)
    have g3d : decide (5 < t.ns) = true := by simp; omega
    have g3f : decide ((5 : Int) < (t.ns : Int)) = true := by simp; omega
    have g3h : decide ((t.ns : Int) > 5) = true := by simp; omega
    go_wp2_with fail
    refine (refCheck5 _ _ _ _ t.q _ HSM.out.q.1 HSM.out.q.2.1 (HT0.out.mono (bAlloc (Below.refl _ _) (.cells #[.int .i64 t.q.wells, .slice Aw t.q.nw cw, .slice Af t.q.nf cf, .slice Ao t.no co, .slice Ap t.np cp, .slice As t.ns cs, .int .i64 t.far, .int .i64 t.harm, .int .i64 t.many] 62))).q).mono ?_
    rintro e w1 ⟨rfl, hb⟩
    have hB1 : Below w.heap.size w w1 := bTrans (bAlloc (Below.refl _ _) (.cells #[.int .i64 t.q.wells, .slice Aw t.q.nw cw, .slice Af t.q.nf cf, .slice Ao t.no co, .slice Ap t.np cp, .slice As t.ns cs, .int .i64 t.far, .int .i64 t.harm, .int .i64 t.many] 62)) hb
    have HD1 := Lib.hid (bTrans HD0.out hB1)
    have HT1 := Lib.hid (HT0.out.mono hB1)
    have T1 := Lib.hid (show TBox w1 w.heap.size 62 #[.int .i64 t.q.wells, .slice Aw t.q.nw cw, .slice Af t.q.nf cf, .slice Ao t.no co, .slice Ap t.np cp, .slice As t.ns cs, .int .i64 t.far, .int .i64 t.harm, .int .i64 t.many] from by have := ((TBox.new w #[.int .i64 t.q.wells, .slice Aw t.q.nw cw, .slice Af t.q.nf cf, .slice Ao t.no co, .slice Ap t.np cp, .slice As t.ns cs, .int .i64 t.far, .int .i64 t.harm, .int .i64 t.many] 62).mono (Below.refl _ _)).mono hb; simpa using this)
    clear hb hB1 HD0 HT0
    obtain ⟨T_0, T_1, T_2, T_3, T_4, T_5, T_6, T_7, T_8, T_l⟩ := T1.out.c9
    rw [Qt.err_ok G0.out]
    go_wp2_with fail
    go_ret
    exact ⟨by rw [HE.out]; rfl, HD1.out⟩
  have G3 := Lib.hid g3
  have g3d : decide (5 < t.ns) = false := by simp; omega
  have g3e : ¬ (5 : Int) < (t.ns : Int) := by omega
  have g3f : decide ((5 : Int) < (t.ns : Int)) = false := by simp; omega
  cases g4 : inR t.far 0 99
  case false =>
    have HE := Lib.hid (Pt.err_bad (t := t) fun h => by rw [inR_t h.far] at g4; cases g4)
    have G4 := Lib.hid g4
    clear g4
    go_wp2_with fail
    refine (refCheck5 _ _ _ _ t.q _ HSM.out.q.1 HSM.out.q.2.1 (HT0.out.mono (bAlloc (Below.refl _ _) (.cells #[.int .i64 t.q.wells, .slice Aw t.q.nw cw, .slice Af t.q.nf cf, .slice Ao t.no co, .slice Ap t.np cp, .slice As t.ns cs, .int .i64 t.far, .int .i64 t.harm, .int .i64 t.many] 62))).q).mono ?_
    rintro e w1 ⟨rfl, hb⟩
    have hB1 : Below w.heap.size w w1 := bTrans (bAlloc (Below.refl _ _) (.cells #[.int .i64 t.q.wells, .slice Aw t.q.nw cw, .slice Af t.q.nf cf, .slice Ao t.no co, .slice Ap t.np cp, .slice As t.ns cs, .int .i64 t.far, .int .i64 t.harm, .int .i64 t.many] 62)) hb
    have HD1 := Lib.hid (bTrans HD0.out hB1)
    have HT1 := Lib.hid (HT0.out.mono hB1)
    have T1 := Lib.hid (show TBox w1 w.heap.size 62 #[.int .i64 t.q.wells, .slice Aw t.q.nw cw, .slice Af t.q.nf cf, .slice Ao t.no co, .slice Ap t.np cp, .slice As t.ns cs, .int .i64 t.far, .int .i64 t.harm, .int .i64 t.many] from by have := ((TBox.new w #[.int .i64 t.q.wells, .slice Aw t.q.nw cw, .slice Af t.q.nf cf, .slice Ao t.no co, .slice Ap t.np cp, .slice As t.ns cs, .int .i64 t.far, .int .i64 t.harm, .int .i64 t.many] 62).mono (Below.refl _ _)).mono hb; simpa using this)
    clear hb hB1 HD0 HT0
    obtain ⟨T_0, T_1, T_2, T_3, T_4, T_5, T_6, T_7, T_8, T_l⟩ := T1.out.c9
    rw [Qt.err_ok G0.out]
    go_wp2_with fail
    refine (within9_b _ _ _ _ _ G4.out).mono ?_
    rintro e w0 ⟨rfl, rfl⟩
    go_wp2_with fail
    go_ret
    exact ⟨by rw [HE.out]; rfl, HD1.out⟩
  have G4 := Lib.hid g4
  clear g4
  cases g5 : inR t.harm 0 99
  case false =>
    have HE := Lib.hid (Pt.err_bad (t := t) fun h => by rw [inR_t h.harm] at g5; cases g5)
    have G5 := Lib.hid g5
    clear g5
    go_wp2_with fail
    refine (refCheck5 _ _ _ _ t.q _ HSM.out.q.1 HSM.out.q.2.1 (HT0.out.mono (bAlloc (Below.refl _ _) (.cells #[.int .i64 t.q.wells, .slice Aw t.q.nw cw, .slice Af t.q.nf cf, .slice Ao t.no co, .slice Ap t.np cp, .slice As t.ns cs, .int .i64 t.far, .int .i64 t.harm, .int .i64 t.many] 62))).q).mono ?_
    rintro e w1 ⟨rfl, hb⟩
    have hB1 : Below w.heap.size w w1 := bTrans (bAlloc (Below.refl _ _) (.cells #[.int .i64 t.q.wells, .slice Aw t.q.nw cw, .slice Af t.q.nf cf, .slice Ao t.no co, .slice Ap t.np cp, .slice As t.ns cs, .int .i64 t.far, .int .i64 t.harm, .int .i64 t.many] 62)) hb
    have HD1 := Lib.hid (bTrans HD0.out hB1)
    have HT1 := Lib.hid (HT0.out.mono hB1)
    have T1 := Lib.hid (show TBox w1 w.heap.size 62 #[.int .i64 t.q.wells, .slice Aw t.q.nw cw, .slice Af t.q.nf cf, .slice Ao t.no co, .slice Ap t.np cp, .slice As t.ns cs, .int .i64 t.far, .int .i64 t.harm, .int .i64 t.many] from by have := ((TBox.new w #[.int .i64 t.q.wells, .slice Aw t.q.nw cw, .slice Af t.q.nf cf, .slice Ao t.no co, .slice Ap t.np cp, .slice As t.ns cs, .int .i64 t.far, .int .i64 t.harm, .int .i64 t.many] 62).mono (Below.refl _ _)).mono hb; simpa using this)
    clear hb hB1 HD0 HT0
    obtain ⟨T_0, T_1, T_2, T_3, T_4, T_5, T_6, T_7, T_8, T_l⟩ := T1.out.c9
    rw [Qt.err_ok G0.out]
    go_wp2_with fail
    refine (within9_b _ _ _ _ _ G4.out).mono ?_
    rintro e w0 ⟨rfl, rfl⟩
    go_wp2_with fail
    refine (within9_b _ _ _ _ _ G5.out).mono ?_
    rintro e w0 ⟨rfl, rfl⟩
    go_wp2_with fail
    go_ret
    exact ⟨by rw [HE.out]; rfl, HD1.out⟩
  have G5 := Lib.hid g5
  clear g5
  cases g6 : inR t.many 0 9
  case false =>
    have HE := Lib.hid (Pt.err_bad (t := t) fun h => by rw [inR_t h.many] at g6; cases g6)
    have G6 := Lib.hid g6
    clear g6
    go_wp2_with fail
    refine (refCheck5 _ _ _ _ t.q _ HSM.out.q.1 HSM.out.q.2.1 (HT0.out.mono (bAlloc (Below.refl _ _) (.cells #[.int .i64 t.q.wells, .slice Aw t.q.nw cw, .slice Af t.q.nf cf, .slice Ao t.no co, .slice Ap t.np cp, .slice As t.ns cs, .int .i64 t.far, .int .i64 t.harm, .int .i64 t.many] 62))).q).mono ?_
    rintro e w1 ⟨rfl, hb⟩
    have hB1 : Below w.heap.size w w1 := bTrans (bAlloc (Below.refl _ _) (.cells #[.int .i64 t.q.wells, .slice Aw t.q.nw cw, .slice Af t.q.nf cf, .slice Ao t.no co, .slice Ap t.np cp, .slice As t.ns cs, .int .i64 t.far, .int .i64 t.harm, .int .i64 t.many] 62)) hb
    have HD1 := Lib.hid (bTrans HD0.out hB1)
    have HT1 := Lib.hid (HT0.out.mono hB1)
    have T1 := Lib.hid (show TBox w1 w.heap.size 62 #[.int .i64 t.q.wells, .slice Aw t.q.nw cw, .slice Af t.q.nf cf, .slice Ao t.no co, .slice Ap t.np cp, .slice As t.ns cs, .int .i64 t.far, .int .i64 t.harm, .int .i64 t.many] from by have := ((TBox.new w #[.int .i64 t.q.wells, .slice Aw t.q.nw cw, .slice Af t.q.nf cf, .slice Ao t.no co, .slice Ap t.np cp, .slice As t.ns cs, .int .i64 t.far, .int .i64 t.harm, .int .i64 t.many] 62).mono (Below.refl _ _)).mono hb; simpa using this)
    clear hb hB1 HD0 HT0
    obtain ⟨T_0, T_1, T_2, T_3, T_4, T_5, T_6, T_7, T_8, T_l⟩ := T1.out.c9
    rw [Qt.err_ok G0.out]
    go_wp2_with fail
    refine (within9_b _ _ _ _ _ G4.out).mono ?_
    rintro e w0 ⟨rfl, rfl⟩
    go_wp2_with fail
    refine (within9_b _ _ _ _ _ G5.out).mono ?_
    rintro e w0 ⟨rfl, rfl⟩
    go_wp2_with fail
    refine (within9_b _ _ _ _ _ G6.out).mono ?_
    rintro e w0 ⟨rfl, rfl⟩
    go_wp2_with fail
    go_ret
    exact ⟨by rw [HE.out]; rfl, HD1.out⟩
  have G6 := Lib.hid g6
  clear g6
  go_wp2_with fail
  refine (refCheck5 _ _ _ _ t.q _ HSM.out.q.1 HSM.out.q.2.1 (HT0.out.mono (bAlloc (Below.refl _ _) (.cells #[.int .i64 t.q.wells, .slice Aw t.q.nw cw, .slice Af t.q.nf cf, .slice Ao t.no co, .slice Ap t.np cp, .slice As t.ns cs, .int .i64 t.far, .int .i64 t.harm, .int .i64 t.many] 62))).q).mono ?_
  rintro e w1 ⟨rfl, hb⟩
  have hB1 : Below w.heap.size w w1 := bTrans (bAlloc (Below.refl _ _) (.cells #[.int .i64 t.q.wells, .slice Aw t.q.nw cw, .slice Af t.q.nf cf, .slice Ao t.no co, .slice Ap t.np cp, .slice As t.ns cs, .int .i64 t.far, .int .i64 t.harm, .int .i64 t.many] 62)) hb
  have HD1 := Lib.hid (bTrans HD0.out hB1)
  have HT1 := Lib.hid (HT0.out.mono hB1)
  have T1 := Lib.hid (show TBox w1 w.heap.size 62 #[.int .i64 t.q.wells, .slice Aw t.q.nw cw, .slice Af t.q.nf cf, .slice Ao t.no co, .slice Ap t.np cp, .slice As t.ns cs, .int .i64 t.far, .int .i64 t.harm, .int .i64 t.many] from by have := ((TBox.new w #[.int .i64 t.q.wells, .slice Aw t.q.nw cw, .slice Af t.q.nf cf, .slice Ao t.no co, .slice Ap t.np cp, .slice As t.ns cs, .int .i64 t.far, .int .i64 t.harm, .int .i64 t.many] 62).mono (Below.refl _ _)).mono hb; simpa using this)
  clear hb hB1 HD0 HT0
  obtain ⟨T_0, T_1, T_2, T_3, T_4, T_5, T_6, T_7, T_8, T_l⟩ := T1.out.c9
  rw [Qt.err_ok G0.out]
  go_wp2_with fail
  refine (within9_b _ _ _ _ _ G4.out).mono ?_
  rintro e w0 ⟨rfl, rfl⟩
  go_wp2_with fail
  refine (within9_b _ _ _ _ _ G5.out).mono ?_
  rintro e w0 ⟨rfl, rfl⟩
  go_wp2_with fail
  refine (within9_b _ _ _ _ _ G6.out).mono ?_
  rintro e w0 ⟨rfl, rfl⟩
  go_wp2_with fail
  clear g1i g2i g3d g3e g3f
  have g9 : t.no ≤ 4 := by have := G1.out; have := G0.out.w1; omega
  clear T_0 T_1 T_2 T_3 T_4 T_5 T_6 T_7 T_8 T_l
  go_loopw [3] (fun s3 wr => ∃ k : Nat, k ≤ t.no ∧ s3 = .int .i64 (k : Int) ∧ (∀ j, j < k → (0 ≤ t.old j ∧ t.old j ≤ 99) ∧ (0 ≤ t.pence j ∧ t.pence j ≤ 99)) ∧ Below w1.heap.size w1 wr) (fun s3 _ => t.no - (intOf s3).toNat)
  case atStart => exact ⟨0, Nat.zero_le _, rfl, fun j hj => absurd hj (Nat.not_lt_zero _), Below.refl _ _⟩
  case round =>
    obtain ⟨k, hk_k, rfl, hall, hb⟩ := hrel
    have HBk := Lib.hid hb
    have HALL := Lib.hid hall
    clear hall
    have hB2 : Below w1.heap.size w1 wr := bTrans (Below.refl _ _) hb
    have HD2 := Lib.hid (bTrans HD1.out hB2)
    have HT2 := Lib.hid (HT1.out.mono hB2)
    have HU_k2 := Lib.hid ((show Upto w1 wr from HBk.out))
    have T2 := Lib.hid (T1.out.mono hB2)
    clear hb hB2
    obtain ⟨T_0, T_1, T_2, T_3, T_4, T_5, T_6, T_7, T_8, T_l⟩ := T2.out.c9
    by_cases hlt_k : k < t.no
    case pos =>
      have h1_k : (k : Int) < (t.no : Int) := by omega
      have h0_k : (0 : Int) ≤ (k : Int) := by omega
      have hkp : k < t.np := by have := G1.out; have := G2.out; omega
      have h2_k : (k : Int) < (t.np : Int) := by omega
      have HK := Lib.hid hlt_k
      have HKP := Lib.hid hkp
      obtain ⟨bo, oo, hO, hbo, co0⟩ := HT2.out.old.get hlt_k
      obtain ⟨bp, op, hP, hbp, cp0⟩ := HT2.out.pence.get hkp
      subst hO hP
      cases g7 : inR (t.old k) 0 99
      case false =>
        have HE := Lib.hid (Pt.err_bad (t := t) fun h => by have := h.old k HK.out; rw [inR_t this] at g7; cases g7)
        have G7 := Lib.hid g7
        clear g7
        go_wp2_with fail
        refine (within9_b _ _ _ _ _ G7.out).mono ?_
        rintro e w0 ⟨rfl, rfl⟩
        go_wp2_with fail
        go_ret
        exact ⟨by rw [HE.out]; rfl, HD2.out⟩
      have G7 := Lib.hid g7
      clear g7
      cases g8 : inR (t.pence k) 0 99
      case false =>
        have HE := Lib.hid (Pt.err_bad (t := t) fun h => by have := h.pence k HKP.out; rw [inR_t this] at g8; cases g8)
        have G8 := Lib.hid g8
        clear g8
        go_wp2_with fail
        refine (within9_b _ _ _ _ _ G7.out).mono ?_
        rintro e w0 ⟨rfl, rfl⟩
        go_wp2_with fail
        refine (within9_b _ _ _ _ _ G8.out).mono ?_
        rintro e w0 ⟨rfl, rfl⟩
        go_wp2_with fail
        go_ret
        exact ⟨by rw [HE.out]; rfl, HD2.out⟩
      have G8 := Lib.hid g8
      clear g8
      have HA2 := Lib.hid (show (∀ j, j < k + 1 → (0 ≤ t.old j ∧ t.old j ≤ 99) ∧ (0 ≤ t.pence j ∧ t.pence j ≤ 99)) from fun j hj => by
        rcases Nat.lt_or_ge j k with h1 | h1
        · exact HALL.out j h1
        · obtain rfl : j = k := by omega
          exact ⟨inR_iff.1 G7.out, inR_iff.1 G8.out⟩)
      go_wp2_with fail
      refine (within9_b _ _ _ _ _ G7.out).mono ?_
      rintro e w0 ⟨rfl, rfl⟩
      go_wp2_with fail
      refine (within9_b _ _ _ _ _ G8.out).mono ?_
      rintro e w0 ⟨rfl, rfl⟩
      go_wp2_with fail
      go_roundw
      case rel =>
        first
        | exact ⟨k + 1, by omega, by go_num, HA2.out, HU_k2.out⟩
        | ((repeat apply Exists.intro)
           refine ⟨⟨k + 1, by omega, ?_, HA2.out, HU_k2.out⟩, rfl⟩
           go_num)
      case measure => simp [intOf]; omega
    have he_k : k = t.no := by omega
    have HA3 := Lib.hid (show (∀ j, j < t.no → (0 ≤ t.old j ∧ t.old j ≤ 99) ∧ (0 ≤ t.pence j ∧ t.pence j ≤ 99)) from he_k ▸ HALL.out)
    have hk9 : ¬ (k : Int) < (t.no : Int) := by omega
    have hk8 : ¬ k < t.no := by omega
    clear he_k
    go_wp2_with fail
    clear hk9 hk8
    obtain ⟨wl588, hwl⟩ : ∃ y, y = wr := ⟨_, rfl⟩
    subst hwl
    clear T_0 T_1 T_2 T_3 T_4 T_5 T_6 T_7 T_8 T_l
    go_loopw [4] (fun s4 wr => ∃ i : Nat, i ≤ t.ns ∧ s4 = .int .i64 (i : Int) ∧ (∀ j, j < i → (t.spot j).Ok t.q.nw t.q.wells) ∧ Below wl588.heap.size wl588 wr) (fun s4 _ => t.ns - (intOf s4).toNat)
    case atStart => exact ⟨0, Nat.zero_le _, rfl, fun j hj => absurd hj (Nat.not_lt_zero _), Below.refl _ _⟩
    case round =>
      obtain ⟨i, hk_i, rfl, hall2, hb⟩ := hrel
      have HBi := Lib.hid hb
      have HALL2 := Lib.hid hall2
      clear hall2
      have hB3 : Below wl588.heap.size wl588 wr := bTrans (Below.refl _ _) hb
      have HD3 := Lib.hid (bTrans HD2.out hB3)
      have HT3 := Lib.hid (HT2.out.mono hB3)
      have HU_k3 := Lib.hid (HU_k2.out.mono hB3)
      have HU_i3 := Lib.hid ((show Upto wl588 wr from HBi.out))
      have T3 := Lib.hid (T2.out.mono hB3)
      clear hb hB3
      obtain ⟨T_0, T_1, T_2, T_3, T_4, T_5, T_6, T_7, T_8, T_l⟩ := T3.out.c9
      by_cases hlt_i : i < t.ns
      case pos =>
        have h1_i : (i : Int) < (t.ns : Int) := by omega
        have h0_i : (0 : Int) ≤ (i : Int) := by omega
        have HI := Lib.hid hlt_i
        obtain ⟨b, o, Ar, Af2, Ax, cr, cf2, cx, hA, hb7, hsh, hrow, s0, s1, s2, s3, s4, s5, s6⟩ := HT3.out.spots.get hlt_i
        have HSS := Lib.hid (HSM.out.spot i hlt_i)
        obtain ⟨x, hxx⟩ : ∃ x, t.spot i = x := ⟨_, rfl⟩
        rw [hxx] at s0 s1 s2 s3 s4 s5 s6 hsh hrow HSS
        have HX := Lib.hid hxx
        have HSH := Lib.hid hsh
        have HRW := Lib.hid hrow
        obtain ⟨bb, hbb⟩ : ∃ b, x.okB t.q.nw t.q.wells = b := ⟨_, rfl⟩
        have HBB := Lib.hid hbb
        subst hA
        clear hsh hrow hxx hbb
        have HIS := Lib.hid (fun (w' : World) (hb : Below wr.heap.size wr w') => (HBB.out ▸ isSpot9_any Aw Af Ao Ap (some ⟨b, o, none⟩) cw cf co cp cs t Ar Af2 Ax cr cf2 cx x w' HSS.out (HSH.out.mono hb) (HRW.out.mono hb) : Calls Tryz.prog 89 #[.agg #[.int .i64 t.q.wells, .slice Aw t.q.nw cw, .slice Af t.q.nf cf, .slice Ao t.no co, .slice Ap t.np cp, .slice (some ⟨b, o, none⟩) t.ns cs, .int .i64 t.far, .int .i64 t.harm, .int .i64 t.many], .agg #[.int .i64 x.at_, .slice Ar x.sh.nr cr, .slice Af2 x.sh.nf cf2, .int .i64 x.sh.deep, .int .i64 x.sh.haul, .int .i64 x.sh.rest, .slice Ax x.fl.n cx]] w' fun e w'' => e = .returned (.bool bb) ∧ Below w'.heap.size w' w''))
        go_wp2_with fail
        refine wp_region_quiet_below (by kernel_rfl) (by kernel_rfl) ?_
        repeat (go_big_quiet_step (((go_at_call 89; with_reducible exact Calls.regrown_of (HIS.out _ (below_regrown _ _ _))))))
        refine wpQuiet_nil ?_
        intro w4 hw9
        have hb := below_of_regrown hw9
        clear hw9
        clear s0 s1 s2 s3 s4 s5 s6 hb7
        have hB4 : Below wr.heap.size wr w4 := bTrans (Below.refl _ _) hb
        have HD4 := Lib.hid (bTrans HD3.out hB4)
        have HT4 := Lib.hid (HT3.out.mono hB4)
        have HU_k4 := Lib.hid (HU_k3.out.mono hB4)
        have HU_i4 := Lib.hid (HU_i3.out.mono hB4)
        have T4 := Lib.hid (T3.out.mono hB4)
        clear hb hB4 HD3 HT3 HU_k3 HU_i3 T3 T_0 T_1 T_2 T_3 T_4 T_5 T_6 T_7 T_8 T_l
        obtain ⟨T_0, T_1, T_2, T_3, T_4, T_5, T_6, T_7, T_8, T_l⟩ := T4.out.c9
        cases bb
        · skip
          have HE := Lib.hid (Pt.err_bad (t := t) fun h => by have := h.spot i HI.out; rw [HX.out] at this; rw [Spot.okB_t this] at HBB; exact Bool.noConfusion HBB.out)
          go_wp2_with fail
          go_ret
          exact ⟨by rw [HE.out]; rfl, HD4.out⟩
        · skip
          have HA2 := Lib.hid (show (∀ j, j < i + 1 → (t.spot j).Ok t.q.nw t.q.wells) from fun j hj => by
            rcases Nat.lt_or_ge j i with h1 | h1
            · exact HALL2.out j h1
            · obtain rfl : j = i := by omega
              rw [HX.out]; exact Spot.okB_iff.1 HBB.out)
          go_wp2_with fail
          go_roundw
          case rel =>
            first
            | exact ⟨i + 1, by omega, by go_num, HA2.out, HU_i4.out⟩
            | ((repeat apply Exists.intro)
               refine ⟨⟨i + 1, by omega, ?_, HA2.out, HU_i4.out⟩, rfl⟩
               go_num)
          case measure => simp [intOf]; omega
      have he_i : i = t.ns := by omega
      have HE := Lib.hid (Pt.err_ok (t := t) ⟨G0.out, G1.out, G2.out, G3.out, inR_iff.1 G4.out, inR_iff.1 G5.out, inR_iff.1 G6.out, fun j hj => (HA3.out j hj).1, fun j hj => (HA3.out j (by have := G1.out; have := G2.out; omega)).2, fun j hj => HALL2.out j (by omega)⟩)
      have hk9 : ¬ (i : Int) < (t.ns : Int) := by omega
      have hk8 : ¬ i < t.ns := by omega
      clear he_i
      go_wp2_with fail
      go_ret
      exact ⟨by rw [HE.out]; rfl, HD3.out⟩
end Go.Proofs.YthnojgdckkdcgaaGreatDoor

namespace Go.Proofs.YthnojgdckkdcgaaGreatDoor
open Go.RowKit Go.Sort
section
variable {P : Program} {ops : Array Oper} {md : Region.Mode}
attribute [go_sem] Oper.stirAt Oper.stirUpon
end
end Go.Proofs.YthnojgdckkdcgaaGreatDoor


namespace Go.Proofs.YthnojgdckkdcgaaGreatDoor
open Go.RowKit Go.Sort
section
variable {S : Sh} {lt : Way → Way → Bool} {μ : Way → Int} {c : Nat → Int}
end
end Go.Proofs.YthnojgdckkdcgaaGreatDoor


namespace Go.Proofs.YthnojgdckkdcgaaGreatDoor
open Go.RowKit Go.Sort
section
variable {S : Sh} {lt : Way → Way → Bool} {μ : Way → Int} {c : Nat → Int}
end
end Go.Proofs.YthnojgdckkdcgaaGreatDoor


namespace Go.Proofs.YthnojgdckkdcgaaGreatDoor
open Go.RowKit Go.Sort
/-! ### Plans -/
/-! ### The first one with the fewest -/
/-! ### What the ways with the fewest rings go on to -/
/-! ### The least cost -/
end Go.Proofs.YthnojgdckkdcgaaGreatDoor


namespace Go.Proofs.YthnojgdckkdcgaaGreatDoor
open Go.RowKit Go.Sort
end Go.Proofs.YthnojgdckkdcgaaGreatDoor


namespace Go.Proofs.YthnojgdckkdcgaaGreatDoor
open Go.RowKit Go.Sort
end Go.Proofs.YthnojgdckkdcgaaGreatDoor


namespace Go.Proofs.YthnojgdckkdcgaaGreatDoor
open Go.RowKit Go.Sort
end Go.Proofs.YthnojgdckkdcgaaGreatDoor

namespace Go.Proofs.YthnojgdckkdcgaaGreatDoor
open Go.RowKit Go.Sort
end Go.Proofs.YthnojgdckkdcgaaGreatDoor

namespace Go.Proofs.YthnojgdckkdcgaaGreatDoor
open Go.RowKit Go.Sort
end Go.Proofs.YthnojgdckkdcgaaGreatDoor

namespace Go.Proofs.YthnojgdckkdcgaaGreatDoor
open Go.RowKit Go.Sort
end Go.Proofs.YthnojgdckkdcgaaGreatDoor

