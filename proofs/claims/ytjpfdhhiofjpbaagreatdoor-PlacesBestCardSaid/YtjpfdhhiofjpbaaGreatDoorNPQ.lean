/- Parts joined. -/
import Derived.Test.YtjpfdhhiofjpbaaGreatDoorNPL
import Derived.Test.YtjpfdhhiofjpbaaGreatDoorNPF
import Derived.Test.YtjpfdhhiofjpbaaGreatDoorNPB
import Derived.Test.YtjpfdhhiofjpbaaGreatDoorNPH
import Derived.Test.YtjpfdhhiofjpbaaGreatDoorNPJ
import Derived.Test.YtjpfdhhiofjpbaaGreatDoorNPA
set_option linter.unusedSimpArgs false
set_option linter.unusedVariables false
/- Walks of the reference of places: within, IsSpot, IsWell, Distance, isSpot, Check, ask. Condition: lengths are Go's. -/
namespace Go.Proofs.YtjpfdhhiofjpbaaGreatDoor
open Go.RowKit Go.Sort
/-- a cell, and that it is there -/
def CAt (w : World) (b o : Nat) (v : Value) : Prop := b < w.heap.size ∧ w.cell? ⟨b, o, none⟩ = some v
theorem CAt.mono {w w' : World} {b o : Nat} {v : Value} (h : CAt w b o v) (hb : Below w.heap.size w w') : CAt w' b o v := ⟨Nat.lt_of_lt_of_le h.1 hb.size, (hb.cell (p := ⟨b, o, none⟩) h.1).trans h.2⟩
theorem within9_b (n lo hi : Int) (b : Bool) (w : World) (h : inR n lo hi = b) : Calls Tryz.prog 84 #[.int .i64 n, .int .i64 lo, .int .i64 hi] w fun e w' => e = .returned (.bool b) ∧ w = w' := by
  have H := Lib.hid h
  clear h
  go_enter Tryz.func84, Tryz.ntmps84
  go_wp2_with fail
  refine (within_b _ _ _ _ _ H.out).mono ?_
  rintro e w' ⟨rfl, rfl⟩
  go_wp2_with fail
  go_ret
  exact ⟨rfl, rfl⟩
theorem dist9_any (a b : Int) (w : World) (ha : 0 ≤ a ∧ a ≤ 99) (hb : 0 ≤ b ∧ b ≤ 99) : Calls Tryz.prog 58 #[.int .i64 a, .int .i64 b] w fun e w' => e = .returned (.int .i64 (dst a b)) ∧ Below w.heap.size w w' := by
  have h1 : IntKind.i64.wrap (a - b) = a - b := IntWalk.i64_in _ (by omega)
  have h2 : IntKind.i64.wrap (b - a) = b - a := IntWalk.i64_in _ (by omega)
  obtain ⟨u, hu⟩ : ∃ u, (if a - b < b - a then b - a else a - b) = u := ⟨_, rfl⟩
  have HU := Lib.hid (show dst a b = u by rw [← hu]; unfold dst; split <;> omega)
  clear ha hb
  go_enter Tryz.func58, Tryz.ntmps58
  go_wp2_with fail
  go_ret
  exact ⟨by rw [HU.out]; rfl, Below.refl _ _⟩
set_option maxHeartbeats 4000000 in
set_option maxRecDepth 100000 in
theorem isSpotN9_any (Aw Af Ao Ap As : Option Addr) (cw cf co cp cs : Nat) (t : Pt) (n : Int) (w : World) (hs : t.ns ≤ 9223372036854775807) :
    Calls Tryz.prog 40 #[.agg #[.int .i64 t.q.wells, .slice Aw t.q.nw cw, .slice Af t.q.nf cf, .slice Ao t.no co, .slice Ap t.np cp, .slice As t.ns cs, .int .i64 t.far, .int .i64 t.harm, .int .i64 t.many], .int .i64 n] w fun e w' => e = .returned (.bool (t.hasB n)) ∧ Below w.heap.size w w' := by
  have hw1 : IntKind.i64.wrap ((t.ns : Int) - 1) = (t.ns : Int) - 1 := IntWalk.i64_in _ (by omega)
  have HN := Lib.hid (show inR n 0 ((t.ns : Int) - 1) = t.hasB n from rfl)
  clear hs
  have HD0 := Lib.hid (Below.refl w.heap.size w)
  go_enter Tryz.func40, Tryz.ntmps40
  go_wp2_with fail
  refine (within9_b _ _ _ _ _ HN.out).mono ?_
  rintro e w0 ⟨rfl, rfl⟩
  go_wp2_with fail
  go_ret
  exact ⟨rfl, (bTrans HD0.out (bAlloc (Below.refl _ _) (.cells #[.int .i64 t.q.wells, .slice Aw t.q.nw cw, .slice Af t.q.nf cf, .slice Ao t.no co, .slice Ap t.np cp, .slice As t.ns cs, .int .i64 t.far, .int .i64 t.harm, .int .i64 t.many] 29)))⟩
set_option maxHeartbeats 8000000 in
set_option maxRecDepth 100000 in
theorem isSpot9_any (Aw Af Ao Ap As : Option Addr) (cw cf co cp cs : Nat) (t : Pt) (Ar Af2 Ax : Option Addr) (cr cf2 cx : Nat) (x : Spot) (w : World) (hs : x.Small) (hS : ShAt w Ar Af2 x.sh) (hR : RowsAt w Ax x.fl) :
    Calls Tryz.prog 85 #[.agg #[.int .i64 t.q.wells, .slice Aw t.q.nw cw, .slice Af t.q.nf cf, .slice Ao t.no co, .slice Ap t.np cp, .slice As t.ns cs, .int .i64 t.far, .int .i64 t.harm, .int .i64 t.many], .agg #[.int .i64 x.at_, .slice Ar x.sh.nr cr, .slice Af2 x.sh.nf cf2, .int .i64 x.sh.deep, .int .i64 x.sh.haul, .int .i64 x.sh.rest, .slice Ax x.fl.n cx]] w fun e w' => e = .returned (.bool (x.okB t.q.nw t.q.wells)) ∧ Below w.heap.size w w' := by
  have HD0 := Lib.hid (Below.refl w.heap.size w)
  have HSM := Lib.hid hs
  have HSH0 := Lib.hid hS
  have HRW0 := Lib.hid hR
  clear hs hS hR
  go_enter Tryz.func85, Tryz.ntmps85
  cases hat : inR x.at_ 0 99
  case false =>
    have HE := Lib.hid (Spot.okB_f (nw := t.q.nw) (m := t.q.wells) (x := x) fun h => by rw [inR_t ⟨h.a0, h.a1⟩] at hat; cases hat)
    have G1 := Lib.hid hat
    clear hat
    go_wp2_with fail
    refine (within9_b _ _ _ _ _ G1.out).mono ?_
    rintro e w0 ⟨rfl, rfl⟩
    go_wp2_with fail
    go_ret
    exact ⟨by rw [HE.out]; rfl, (bTrans HD0.out (bAlloc (bAlloc (Below.refl _ _) (.cells #[.int .i64 t.q.wells, .slice Aw t.q.nw cw, .slice Af t.q.nf cf, .slice Ao t.no co, .slice Ap t.np cp, .slice As t.ns cs, .int .i64 t.far, .int .i64 t.harm, .int .i64 t.many] 29)) (.cells #[.int .i64 x.at_, .slice Ar x.sh.nr cr, .slice Af2 x.sh.nf cf2, .int .i64 x.sh.deep, .int .i64 x.sh.haul, .int .i64 x.sh.rest, .slice Ax x.fl.n cx] 60)))⟩
  have G1 := Lib.hid hat
  clear hat
  by_cases hsh : x.sh.Ok
  case neg =>
    have HE := Lib.hid (Spot.okB_f (nw := t.q.nw) (m := t.q.wells) (x := x) fun h => hsh h.sh)
    have G2 := Lib.hid hsh
    clear hsh
    go_wp2_with fail
    refine (within9_b _ _ _ _ _ G1.out).mono ?_
    rintro e w0 ⟨rfl, rfl⟩
    go_wp2_with fail
    refine (refCheck_any Ar Af2 cr cf2 x.sh _ HSM.out.nr HSM.out.nf (HSH0.out.mono (bAlloc (bAlloc (Below.refl _ _) (.cells #[.int .i64 t.q.wells, .slice Aw t.q.nw cw, .slice Af t.q.nf cf, .slice Ao t.no co, .slice Ap t.np cp, .slice As t.ns cs, .int .i64 t.far, .int .i64 t.harm, .int .i64 t.many] 29)) (.cells #[.int .i64 x.at_, .slice Ar x.sh.nr cr, .slice Af2 x.sh.nf cf2, .int .i64 x.sh.deep, .int .i64 x.sh.haul, .int .i64 x.sh.rest, .slice Ax x.fl.n cx] 60)))).mono ?_
    rintro e w1 ⟨rfl, hb⟩
    have hB1 : Below w.heap.size w w1 := bTrans (bAlloc (bAlloc (Below.refl _ _) (.cells #[.int .i64 t.q.wells, .slice Aw t.q.nw cw, .slice Af t.q.nf cf, .slice Ao t.no co, .slice Ap t.np cp, .slice As t.ns cs, .int .i64 t.far, .int .i64 t.harm, .int .i64 t.many] 29)) (.cells #[.int .i64 x.at_, .slice Ar x.sh.nr cr, .slice Af2 x.sh.nf cf2, .int .i64 x.sh.deep, .int .i64 x.sh.haul, .int .i64 x.sh.rest, .slice Ax x.fl.n cx] 60)) hb
    have HD1 := Lib.hid (bTrans HD0.out hB1)
    have HSH1 := Lib.hid (HSH0.out.mono hB1)
    have HRW1 := Lib.hid (HRW0.out.mono hB1)
    have T1 := Lib.hid (show TBox w1 w.heap.size 29 #[.int .i64 t.q.wells, .slice Aw t.q.nw cw, .slice Af t.q.nf cf, .slice Ao t.no co, .slice Ap t.np cp, .slice As t.ns cs, .int .i64 t.far, .int .i64 t.harm, .int .i64 t.many] from by have := ((TBox.new w #[.int .i64 t.q.wells, .slice Aw t.q.nw cw, .slice Af t.q.nf cf, .slice Ao t.no co, .slice Ap t.np cp, .slice As t.ns cs, .int .i64 t.far, .int .i64 t.harm, .int .i64 t.many] 29).mono (bAlloc (Below.refl _ _) (.cells #[.int .i64 x.at_, .slice Ar x.sh.nr cr, .slice Af2 x.sh.nf cf2, .int .i64 x.sh.deep, .int .i64 x.sh.haul, .int .i64 x.sh.rest, .slice Ax x.fl.n cx] 60))).mono hb; simpa using this)
    have X1 := Lib.hid (show TBox w1 (w.heap.size + 1) 60 #[.int .i64 x.at_, .slice Ar x.sh.nr cr, .slice Af2 x.sh.nf cf2, .int .i64 x.sh.deep, .int .i64 x.sh.haul, .int .i64 x.sh.rest, .slice Ax x.fl.n cx] from by have := ((TBox.new (w.alloc (.cells #[.int .i64 t.q.wells, .slice Aw t.q.nw cw, .slice Af t.q.nf cf, .slice Ao t.no co, .slice Ap t.np cp, .slice As t.ns cs, .int .i64 t.far, .int .i64 t.harm, .int .i64 t.many] 29)) #[.int .i64 x.at_, .slice Ar x.sh.nr cr, .slice Af2 x.sh.nf cf2, .int .i64 x.sh.deep, .int .i64 x.sh.haul, .int .i64 x.sh.rest, .slice Ax x.fl.n cx] 60).mono (Below.refl _ _)).mono hb; simpa using this)
    clear hb hB1 HD0 HSH0 HRW0
    obtain ⟨T_0, T_1, T_2, T_3, T_4, T_5, T_6, T_7, T_8, T_l⟩ := T1.out.c9
    obtain ⟨X_0, X_1, X_2, X_3, X_4, X_5, X_6, X_l⟩ := X1.out.c7
    rw [Sh.err_bad G2.out]
    go_wp2_with fail
    go_ret
    exact ⟨by rw [HE.out]; rfl, HD1.out⟩
  have G2 := Lib.hid hsh
  clear hsh
  by_cases hnw : x.fl.n = t.q.nw
  case neg =>
    have HE := Lib.hid (Spot.okB_f (nw := t.q.nw) (m := t.q.wells) (x := x) fun h => hnw h.n)
    have g3i : ((x.fl.n : Int) != (t.q.nw : Int)) = true := by simp; omega
    have g3n : (x.fl.n != t.q.nw) = true := by simp; exact hnw
    clear hnw
    go_wp2_with fail
    refine (within9_b _ _ _ _ _ G1.out).mono ?_
    rintro e w0 ⟨rfl, rfl⟩
    go_wp2_with fail
    refine (refCheck_any Ar Af2 cr cf2 x.sh _ HSM.out.nr HSM.out.nf (HSH0.out.mono (bAlloc (bAlloc (Below.refl _ _) (.cells #[.int .i64 t.q.wells, .slice Aw t.q.nw cw, .slice Af t.q.nf cf, .slice Ao t.no co, .slice Ap t.np cp, .slice As t.ns cs, .int .i64 t.far, .int .i64 t.harm, .int .i64 t.many] 29)) (.cells #[.int .i64 x.at_, .slice Ar x.sh.nr cr, .slice Af2 x.sh.nf cf2, .int .i64 x.sh.deep, .int .i64 x.sh.haul, .int .i64 x.sh.rest, .slice Ax x.fl.n cx] 60)))).mono ?_
    rintro e w1 ⟨rfl, hb⟩
    have hB1 : Below w.heap.size w w1 := bTrans (bAlloc (bAlloc (Below.refl _ _) (.cells #[.int .i64 t.q.wells, .slice Aw t.q.nw cw, .slice Af t.q.nf cf, .slice Ao t.no co, .slice Ap t.np cp, .slice As t.ns cs, .int .i64 t.far, .int .i64 t.harm, .int .i64 t.many] 29)) (.cells #[.int .i64 x.at_, .slice Ar x.sh.nr cr, .slice Af2 x.sh.nf cf2, .int .i64 x.sh.deep, .int .i64 x.sh.haul, .int .i64 x.sh.rest, .slice Ax x.fl.n cx] 60)) hb
    have HD1 := Lib.hid (bTrans HD0.out hB1)
    have HSH1 := Lib.hid (HSH0.out.mono hB1)
    have HRW1 := Lib.hid (HRW0.out.mono hB1)
    have T1 := Lib.hid (show TBox w1 w.heap.size 29 #[.int .i64 t.q.wells, .slice Aw t.q.nw cw, .slice Af t.q.nf cf, .slice Ao t.no co, .slice Ap t.np cp, .slice As t.ns cs, .int .i64 t.far, .int .i64 t.harm, .int .i64 t.many] from by have := ((TBox.new w #[.int .i64 t.q.wells, .slice Aw t.q.nw cw, .slice Af t.q.nf cf, .slice Ao t.no co, .slice Ap t.np cp, .slice As t.ns cs, .int .i64 t.far, .int .i64 t.harm, .int .i64 t.many] 29).mono (bAlloc (Below.refl _ _) (.cells #[.int .i64 x.at_, .slice Ar x.sh.nr cr, .slice Af2 x.sh.nf cf2, .int .i64 x.sh.deep, .int .i64 x.sh.haul, .int .i64 x.sh.rest, .slice Ax x.fl.n cx] 60))).mono hb; simpa using this)
    have X1 := Lib.hid (show TBox w1 (w.heap.size + 1) 60 #[.int .i64 x.at_, .slice Ar x.sh.nr cr, .slice Af2 x.sh.nf cf2, .int .i64 x.sh.deep, .int .i64 x.sh.haul, .int .i64 x.sh.rest, .slice Ax x.fl.n cx] from by have := ((TBox.new (w.alloc (.cells #[.int .i64 t.q.wells, .slice Aw t.q.nw cw, .slice Af t.q.nf cf, .slice Ao t.no co, .slice Ap t.np cp, .slice As t.ns cs, .int .i64 t.far, .int .i64 t.harm, .int .i64 t.many] 29)) #[.int .i64 x.at_, .slice Ar x.sh.nr cr, .slice Af2 x.sh.nf cf2, .int .i64 x.sh.deep, .int .i64 x.sh.haul, .int .i64 x.sh.rest, .slice Ax x.fl.n cx] 60).mono (Below.refl _ _)).mono hb; simpa using this)
    clear hb hB1 HD0 HSH0 HRW0
    obtain ⟨T_0, T_1, T_2, T_3, T_4, T_5, T_6, T_7, T_8, T_l⟩ := T1.out.c9
    obtain ⟨X_0, X_1, X_2, X_3, X_4, X_5, X_6, X_l⟩ := X1.out.c7
    rw [Sh.err_ok G2.out]
    go_wp2_with fail
    go_ret
    exact ⟨by rw [HE.out]; rfl, HD1.out⟩
  have G3 := Lib.hid hnw
  have g3i : ((x.fl.n : Int) != (t.q.nw : Int)) = false := by rw [hnw]; simp
  have g3n : (x.fl.n != t.q.nw) = false := by rw [hnw]; simp
  have hn63 := HSM.out.n
  clear hnw
  go_wp2_with fail
  refine (within9_b _ _ _ _ _ G1.out).mono ?_
  rintro e w0 ⟨rfl, rfl⟩
  go_wp2_with fail
  refine (refCheck_any Ar Af2 cr cf2 x.sh _ HSM.out.nr HSM.out.nf (HSH0.out.mono (bAlloc (bAlloc (Below.refl _ _) (.cells #[.int .i64 t.q.wells, .slice Aw t.q.nw cw, .slice Af t.q.nf cf, .slice Ao t.no co, .slice Ap t.np cp, .slice As t.ns cs, .int .i64 t.far, .int .i64 t.harm, .int .i64 t.many] 29)) (.cells #[.int .i64 x.at_, .slice Ar x.sh.nr cr, .slice Af2 x.sh.nf cf2, .int .i64 x.sh.deep, .int .i64 x.sh.haul, .int .i64 x.sh.rest, .slice Ax x.fl.n cx] 60)))).mono ?_
  rintro e w1 ⟨rfl, hb⟩
  have hB1 : Below w.heap.size w w1 := bTrans (bAlloc (bAlloc (Below.refl _ _) (.cells #[.int .i64 t.q.wells, .slice Aw t.q.nw cw, .slice Af t.q.nf cf, .slice Ao t.no co, .slice Ap t.np cp, .slice As t.ns cs, .int .i64 t.far, .int .i64 t.harm, .int .i64 t.many] 29)) (.cells #[.int .i64 x.at_, .slice Ar x.sh.nr cr, .slice Af2 x.sh.nf cf2, .int .i64 x.sh.deep, .int .i64 x.sh.haul, .int .i64 x.sh.rest, .slice Ax x.fl.n cx] 60)) hb
  have HD1 := Lib.hid (bTrans HD0.out hB1)
  have HSH1 := Lib.hid (HSH0.out.mono hB1)
  have HRW1 := Lib.hid (HRW0.out.mono hB1)
  have T1 := Lib.hid (show TBox w1 w.heap.size 29 #[.int .i64 t.q.wells, .slice Aw t.q.nw cw, .slice Af t.q.nf cf, .slice Ao t.no co, .slice Ap t.np cp, .slice As t.ns cs, .int .i64 t.far, .int .i64 t.harm, .int .i64 t.many] from by have := ((TBox.new w #[.int .i64 t.q.wells, .slice Aw t.q.nw cw, .slice Af t.q.nf cf, .slice Ao t.no co, .slice Ap t.np cp, .slice As t.ns cs, .int .i64 t.far, .int .i64 t.harm, .int .i64 t.many] 29).mono (bAlloc (Below.refl _ _) (.cells #[.int .i64 x.at_, .slice Ar x.sh.nr cr, .slice Af2 x.sh.nf cf2, .int .i64 x.sh.deep, .int .i64 x.sh.haul, .int .i64 x.sh.rest, .slice Ax x.fl.n cx] 60))).mono hb; simpa using this)
  have X1 := Lib.hid (show TBox w1 (w.heap.size + 1) 60 #[.int .i64 x.at_, .slice Ar x.sh.nr cr, .slice Af2 x.sh.nf cf2, .int .i64 x.sh.deep, .int .i64 x.sh.haul, .int .i64 x.sh.rest, .slice Ax x.fl.n cx] from by have := ((TBox.new (w.alloc (.cells #[.int .i64 t.q.wells, .slice Aw t.q.nw cw, .slice Af t.q.nf cf, .slice Ao t.no co, .slice Ap t.np cp, .slice As t.ns cs, .int .i64 t.far, .int .i64 t.harm, .int .i64 t.many] 29)) #[.int .i64 x.at_, .slice Ar x.sh.nr cr, .slice Af2 x.sh.nf cf2, .int .i64 x.sh.deep, .int .i64 x.sh.haul, .int .i64 x.sh.rest, .slice Ax x.fl.n cx] 60).mono (Below.refl _ _)).mono hb; simpa using this)
  clear hb hB1 HD0 HSH0 HRW0
  obtain ⟨T_0, T_1, T_2, T_3, T_4, T_5, T_6, T_7, T_8, T_l⟩ := T1.out.c9
  obtain ⟨X_0, X_1, X_2, X_3, X_4, X_5, X_6, X_l⟩ := X1.out.c7
  rw [Sh.err_ok G2.out]
  go_wp2_with fail
  clear g3i g3n
  clear T_0 T_1 T_2 T_3 T_4 T_5 T_6 T_7 T_8 T_l X_0 X_1 X_2 X_3 X_4 X_5 X_6 X_l
  go_loopw [5] (fun s5 wr => ∃ k : Nat, k ≤ x.fl.n ∧ s5 = .int .i64 (k : Int) ∧ (∀ j, j < k → (x.fl.len j : Int) = t.q.wells ∧ ∀ m, m < x.fl.len j → 0 ≤ x.fl.fall j m ∧ x.fl.fall j m ≤ 9) ∧ Below w1.heap.size w1 wr) (fun s5 _ => x.fl.n - (intOf s5).toNat)
  case atStart => exact ⟨0, Nat.zero_le _, rfl, fun j hj => absurd hj (Nat.not_lt_zero _), Below.refl _ _⟩
  case round =>
    obtain ⟨k, hk_k, rfl, hall, hb⟩ := hrel
    have HBk := Lib.hid hb
    have HALL := Lib.hid hall
    clear hall
    have hB2 : Below w1.heap.size w1 wr := bTrans (Below.refl _ _) hb
    have HD2 := Lib.hid (bTrans HD1.out hB2)
    have HSH2 := Lib.hid (HSH1.out.mono hB2)
    have HRW2 := Lib.hid (HRW1.out.mono hB2)
    have HU_k2 := Lib.hid ((show Upto w1 wr from HBk.out))
    have T2 := Lib.hid (T1.out.mono hB2)
    have X2 := Lib.hid (X1.out.mono hB2)
    clear hb hB2
    obtain ⟨T_0, T_1, T_2, T_3, T_4, T_5, T_6, T_7, T_8, T_l⟩ := T2.out.c9
    obtain ⟨X_0, X_1, X_2, X_3, X_4, X_5, X_6, X_l⟩ := X2.out.c7
    by_cases hlt_k : k < x.fl.n
    case pos =>
      have h1_k : (k : Int) < (x.fl.n : Int) := by omega
      have h0_k : (0 : Int) ≤ (k : Int) := by omega
      rcases HRW2.out with h0 | ⟨b, o, hA, hb, hcell⟩
      · omega
      obtain ⟨A2, c2, c0, hrow, hlen⟩ := hcell k hlt_k
      have HRO2 := Lib.hid hrow
      obtain ⟨m, hm⟩ : ∃ m, x.fl.len k = m := ⟨_, rfl⟩
      rw [hm] at c0 hlen
      have HM := Lib.hid hm
      have HK := Lib.hid hlt_k
      subst hA
      have CC02 := Lib.hid (show CAt wr b (o + k) (.slice A2 m c2) from ⟨hb, c0⟩)
      obtain ⟨CC0_l, CC0_c⟩ := CC02.out
      clear hcell hrow hm hb c0
      by_cases hlw : (m : Int) = t.q.wells
      case neg =>
        have e1 : ((m : Int) != t.q.wells) = true := bne_iff_ne.2 hlw
        have HE := Lib.hid (Spot.okB_f (nw := t.q.nw) (m := t.q.wells) (x := x) fun h => hlw (by have := h.len k HK.out; rw [HM.out] at this; exact this))
        clear hlw
        go_wp2_with fail
        refine wp_region_quiet_below (by kernel_rfl) (by kernel_rfl) ?_
        repeat (go_big_quiet_step ((fail)))
        refine wpQuiet_nil ?_
        intro w3 hw9
        have hb := below_of_regrown hw9
        clear hw9
        have hB3 : Below wr.heap.size wr w3 := bTrans (Below.refl _ _) hb
        have HD3 := Lib.hid (bTrans HD2.out hB3)
        have HSH3 := Lib.hid (HSH2.out.mono hB3)
        have HRW3 := Lib.hid (HRW2.out.mono hB3)
        have HU_k3 := Lib.hid (HU_k2.out.mono hB3)
        have HRO3 := Lib.hid (HRO2.out.mono hB3)
        have CC03 := Lib.hid (CC02.out.mono hB3)
        have T3 := Lib.hid (T2.out.mono hB3)
        have X3 := Lib.hid (X2.out.mono hB3)
        clear hb hB3 HD2 HSH2 HRW2 HU_k2 HRO2 CC02 T2 T_0 T_1 T_2 T_3 T_4 T_5 T_6 T_7 T_8 T_l X2 X_0 X_1 X_2 X_3 X_4 X_5 X_6 X_l
        obtain ⟨T_0, T_1, T_2, T_3, T_4, T_5, T_6, T_7, T_8, T_l⟩ := T3.out.c9
        obtain ⟨X_0, X_1, X_2, X_3, X_4, X_5, X_6, X_l⟩ := X3.out.c7
        clear CC0_l CC0_c
        obtain ⟨CC0_l, CC0_c⟩ := CC03.out
        go_wp2_with fail
        go_ret
        exact ⟨by rw [HE.out]; rfl, HD3.out⟩
      have e1 : ((m : Int) != t.q.wells) = false := by rw [hlw]; simp
      have HLW := Lib.hid hlw
      clear hlw
      go_wp2_with fail
      refine wp_region_quiet_below (by kernel_rfl) (by kernel_rfl) ?_
      repeat (go_big_quiet_step ((fail)))
      refine wpQuiet_nil ?_
      intro w3 hw9
      have hb := below_of_regrown hw9
      clear hw9
      clear e1
      have hB3 : Below wr.heap.size wr w3 := bTrans (Below.refl _ _) hb
      have HD3 := Lib.hid (bTrans HD2.out hB3)
      have HSH3 := Lib.hid (HSH2.out.mono hB3)
      have HRW3 := Lib.hid (HRW2.out.mono hB3)
      have HU_k3 := Lib.hid (HU_k2.out.mono hB3)
      have HRO3 := Lib.hid (HRO2.out.mono hB3)
      have CC03 := Lib.hid (CC02.out.mono hB3)
      have T3 := Lib.hid (T2.out.mono hB3)
      have X3 := Lib.hid (X2.out.mono hB3)
      clear hb hB3 HD2 HSH2 HRW2 HU_k2 HRO2 CC02 T2 T_0 T_1 T_2 T_3 T_4 T_5 T_6 T_7 T_8 T_l X2 X_0 X_1 X_2 X_3 X_4 X_5 X_6 X_l
      obtain ⟨T_0, T_1, T_2, T_3, T_4, T_5, T_6, T_7, T_8, T_l⟩ := T3.out.c9
      obtain ⟨X_0, X_1, X_2, X_3, X_4, X_5, X_6, X_l⟩ := X3.out.c7
      clear CC0_l CC0_c
      obtain ⟨CC0_l, CC0_c⟩ := CC03.out
      have HRP3 := Lib.hid (HM.out ▸ HRO3.out)
      clear HRO3
      go_wp2_with fail
      obtain ⟨wl221, hwl⟩ : ∃ y, y = wr := ⟨_, rfl⟩
      subst hwl
      clear T_0 T_1 T_2 T_3 T_4 T_5 T_6 T_7 T_8 T_l X_0 X_1 X_2 X_3 X_4 X_5 X_6 X_l
      go_loopw [6] (fun s6 wr => ∃ q : Nat, q ≤ m ∧ s6 = .int .i64 (q : Int) ∧ (∀ j, j < q → 0 ≤ x.fl.fall k j ∧ x.fl.fall k j ≤ 9) ∧ Below w3.heap.size w3 wr) (fun s6 _ => m - (intOf s6).toNat)
      case atStart => exact ⟨0, Nat.zero_le _, rfl, fun j hj => absurd hj (Nat.not_lt_zero _), Below.refl _ _⟩
      case round =>
        obtain ⟨q, hk_q, rfl, hall2, hb⟩ := hrel
        have HBq := Lib.hid hb
        have HALL2 := Lib.hid hall2
        clear hall2
        have hB4 : Below w3.heap.size w3 wr := bTrans (Below.refl _ _) hb
        have HD4 := Lib.hid (bTrans HD3.out hB4)
        have HSH4 := Lib.hid (HSH3.out.mono hB4)
        have HRW4 := Lib.hid (HRW3.out.mono hB4)
        have HU_k4 := Lib.hid (HU_k3.out.mono hB4)
        have HRP4 := Lib.hid (HRP3.out.mono hB4)
        have CC04 := Lib.hid (CC03.out.mono hB4)
        have HU_q4 := Lib.hid ((show Upto w3 wr from HBq.out))
        have T4 := Lib.hid (T3.out.mono hB4)
        have X4 := Lib.hid (X3.out.mono hB4)
        clear hb hB4
        obtain ⟨T_0, T_1, T_2, T_3, T_4, T_5, T_6, T_7, T_8, T_l⟩ := T4.out.c9
        obtain ⟨X_0, X_1, X_2, X_3, X_4, X_5, X_6, X_l⟩ := X4.out.c7
        obtain ⟨CC0_l, CC0_c⟩ := CC04.out
        by_cases hlt_q : q < m
        case pos =>
          have h1_q : (q : Int) < (m : Int) := by omega
          have h0_q : (0 : Int) ≤ (q : Int) := by omega
          obtain ⟨b5, o5, hA5, hl5, c5⟩ := HRP4.out.get hlt_q
          have HQ := Lib.hid hlt_q
          subst hA5
          cases hin : inR (x.fl.fall k q) 0 9
          · skip
            have G4 := Lib.hid hin
            have HE := Lib.hid (Spot.okB_f (nw := t.q.nw) (m := t.q.wells) (x := x) fun h => by
              have := h.fall k HK.out q (by rw [HM.out]; exact HQ.out)
              rw [inR_t this] at hin
              cases hin)
            clear hin
            go_wp2_with fail
            refine (within9_b _ _ _ _ _ G4.out).mono ?_
            rintro e w0 ⟨rfl, rfl⟩
            go_wp2_with fail
            go_ret
            exact ⟨by rw [HE.out]; rfl, HD4.out⟩
          · skip
            have G4 := Lib.hid hin
            clear hin
            have HQ2 := Lib.hid (show ∀ j, j < q + 1 → 0 ≤ x.fl.fall k j ∧ x.fl.fall k j ≤ 9 from fun j hj => by
              rcases Nat.lt_or_ge j q with h1 | h1
              · exact HALL2.out j h1
              · obtain rfl : j = q := by omega
                exact inR_iff.1 G4.out)
            go_wp2_with fail
            refine (within9_b _ _ _ _ _ G4.out).mono ?_
            rintro e w0 ⟨rfl, rfl⟩
            go_wp2_with fail
            go_roundw
            case rel =>
              first
              | exact ⟨q + 1, by omega, by go_num, HQ2.out, HU_q4.out⟩
              | ((repeat apply Exists.intro)
                 refine ⟨⟨q + 1, by omega, ?_, HQ2.out, HU_q4.out⟩, rfl⟩
                 go_num)
            case measure => simp [intOf]; omega
        have he_q : q = m := by omega
        have HA2 := Lib.hid (show (∀ j, j < k + 1 → (x.fl.len j : Int) = t.q.wells ∧ ∀ m, m < x.fl.len j → 0 ≤ x.fl.fall j m ∧ x.fl.fall j m ≤ 9) from fun j hj => by
          rcases Nat.lt_or_ge j k with h1 | h1
          · exact HALL.out j h1
          · obtain rfl : j = k := by omega
            rw [HM.out]
            exact ⟨HLW.out, by rw [← he_q]; exact HALL2.out⟩)
        have hq9 : ¬ (q : Int) < (m : Int) := by omega
        have hq8 : ¬ q < m := by omega
        clear he_q
        go_wp2_with fail
        go_roundw
        case rel =>
          first
          | exact ⟨k + 1, by omega, by go_num, HA2.out, HU_k4.out⟩
          | ((repeat apply Exists.intro)
             refine ⟨⟨k + 1, by omega, ?_, HA2.out, HU_k4.out⟩, rfl⟩
             go_num)
        case measure => simp [intOf]; omega
    have he_k : k = x.fl.n := by omega
    have HE := Lib.hid (Spot.okB_t (nw := t.q.nw) (m := t.q.wells) (x := x) ⟨(inR_iff.1 G1.out).1, (inR_iff.1 G1.out).2, G2.out, G3.out, fun j hj => (HALL.out j (by omega)).1, fun j hj => (HALL.out j (by omega)).2⟩)
    have hk9 : ¬ (k : Int) < (x.fl.n : Int) := by omega
    have hk8 : ¬ k < x.fl.n := by omega
    clear he_k
    go_wp2_with fail
    go_ret
    exact ⟨by rw [HE.out]; rfl, HD2.out⟩
set_option maxHeartbeats 8000000 in
set_option maxRecDepth 100000 in
theorem check9_any (Aw Af Ao Ap As : Option Addr) (cw cf co cp cs : Nat) (t : Pt) (w : World) (hs : t.Small) (hT : PAt w Aw Af Ao Ap As t) :
    Calls Tryz.prog 22 #[.agg #[.int .i64 t.q.wells, .slice Aw t.q.nw cw, .slice Af t.q.nf cf, .slice Ao t.no co, .slice Ap t.np cp, .slice As t.ns cs, .int .i64 t.far, .int .i64 t.harm, .int .i64 t.many]] w fun e w' => e = .returned (.int .i64 t.err) ∧ Below w.heap.size w w' := by
  have HD0 := Lib.hid (Below.refl w.heap.size w)
  have HSM := Lib.hid hs
  have HT0 := Lib.hid hT
  clear hs hT
  go_enter Tryz.func22, Tryz.ntmps22
  by_cases g0 : t.q.Ok
  case neg =>
    have HE := Lib.hid (Pt.err_bad (t := t) fun h => g0 h.q)
    have G0 := Lib.hid g0
    clear g0
    go_wp2_with fail
    refine (refCheck5 _ _ _ _ t.q _ HSM.out.q.1 HSM.out.q.2.1 (HT0.out.mono (bAlloc (Below.refl _ _) (.cells #[.int .i64 t.q.wells, .slice Aw t.q.nw cw, .slice Af t.q.nf cf, .slice Ao t.no co, .slice Ap t.np cp, .slice As t.ns cs, .int .i64 t.far, .int .i64 t.harm, .int .i64 t.many] 29))).q).mono ?_
    rintro e w1 ⟨rfl, hb⟩
    have hB1 : Below w.heap.size w w1 := bTrans (bAlloc (Below.refl _ _) (.cells #[.int .i64 t.q.wells, .slice Aw t.q.nw cw, .slice Af t.q.nf cf, .slice Ao t.no co, .slice Ap t.np cp, .slice As t.ns cs, .int .i64 t.far, .int .i64 t.harm, .int .i64 t.many] 29)) hb
    have HD1 := Lib.hid (bTrans HD0.out hB1)
    have HT1 := Lib.hid (HT0.out.mono hB1)
    have T1 := Lib.hid (show TBox w1 w.heap.size 29 #[.int .i64 t.q.wells, .slice Aw t.q.nw cw, .slice Af t.q.nf cf, .slice Ao t.no co, .slice Ap t.np cp, .slice As t.ns cs, .int .i64 t.far, .int .i64 t.harm, .int .i64 t.many] from by have := ((TBox.new w #[.int .i64 t.q.wells, .slice Aw t.q.nw cw, .slice Af t.q.nf cf, .slice Ao t.no co, .slice Ap t.np cp, .slice As t.ns cs, .int .i64 t.far, .int .i64 t.harm, .int .i64 t.many] 29).mono (Below.refl _ _)).mono hb; simpa using this)
    clear hb hB1 HD0 HT0
    obtain ⟨T_0, T_1, T_2, T_3, T_4, T_5, T_6, T_7, T_8, T_l⟩ := T1.out.c9
    rw [Qt.err_bad G0.out]
    go_wp2_with fail
    go_ret
    exact ⟨by rw [HE.out]; rfl, HD1.out⟩
  have G0 := Lib.hid g0
  clear g0
  by_cases g1 : (t.no : Int) = t.q.wells
  case neg =>
    have HE := Lib.hid (Pt.err_bad (t := t) fun h => g1 h.no)
    have g1i : ((t.no : Int) != t.q.wells) = true := bne_iff_ne.2 g1
    clear g1
    go_wp2_with fail
    refine (refCheck5 _ _ _ _ t.q _ HSM.out.q.1 HSM.out.q.2.1 (HT0.out.mono (bAlloc (Below.refl _ _) (.cells #[.int .i64 t.q.wells, .slice Aw t.q.nw cw, .slice Af t.q.nf cf, .slice Ao t.no co, .slice Ap t.np cp, .slice As t.ns cs, .int .i64 t.far, .int .i64 t.harm, .int .i64 t.many] 29))).q).mono ?_
    rintro e w1 ⟨rfl, hb⟩
    have hB1 : Below w.heap.size w w1 := bTrans (bAlloc (Below.refl _ _) (.cells #[.int .i64 t.q.wells, .slice Aw t.q.nw cw, .slice Af t.q.nf cf, .slice Ao t.no co, .slice Ap t.np cp, .slice As t.ns cs, .int .i64 t.far, .int .i64 t.harm, .int .i64 t.many] 29)) hb
    have HD1 := Lib.hid (bTrans HD0.out hB1)
    have HT1 := Lib.hid (HT0.out.mono hB1)
    have T1 := Lib.hid (show TBox w1 w.heap.size 29 #[.int .i64 t.q.wells, .slice Aw t.q.nw cw, .slice Af t.q.nf cf, .slice Ao t.no co, .slice Ap t.np cp, .slice As t.ns cs, .int .i64 t.far, .int .i64 t.harm, .int .i64 t.many] from by have := ((TBox.new w #[.int .i64 t.q.wells, .slice Aw t.q.nw cw, .slice Af t.q.nf cf, .slice Ao t.no co, .slice Ap t.np cp, .slice As t.ns cs, .int .i64 t.far, .int .i64 t.harm, .int .i64 t.many] 29).mono (Below.refl _ _)).mono hb; simpa using this)
    clear hb hB1 HD0 HT0
    obtain ⟨T_0, T_1, T_2, T_3, T_4, T_5, T_6, T_7, T_8, T_l⟩ := T1.out.c9
    rw [Qt.err_ok G0.out]
    go_wp2_with fail
    go_ret
    exact ⟨by rw [HE.out]; rfl, HD1.out⟩
  have G1 := Lib.hid g1
  have g1i : ((t.no : Int) != t.q.wells) = false := by rw [g1]; simp
  clear g1
  by_cases g2 : (t.np : Int) = t.q.wells
  case neg =>
    have HE := Lib.hid (Pt.err_bad (t := t) fun h => g2 h.np)
    have g2i : ((t.np : Int) != t.q.wells) = true := bne_iff_ne.2 g2
    clear g2
    go_wp2_with fail
    refine (refCheck5 _ _ _ _ t.q _ HSM.out.q.1 HSM.out.q.2.1 (HT0.out.mono (bAlloc (Below.refl _ _) (.cells #[.int .i64 t.q.wells, .slice Aw t.q.nw cw, .slice Af t.q.nf cf, .slice Ao t.no co, .slice Ap t.np cp, .slice As t.ns cs, .int .i64 t.far, .int .i64 t.harm, .int .i64 t.many] 29))).q).mono ?_
    rintro e w1 ⟨rfl, hb⟩
    have hB1 : Below w.heap.size w w1 := bTrans (bAlloc (Below.refl _ _) (.cells #[.int .i64 t.q.wells, .slice Aw t.q.nw cw, .slice Af t.q.nf cf, .slice Ao t.no co, .slice Ap t.np cp, .slice As t.ns cs, .int .i64 t.far, .int .i64 t.harm, .int .i64 t.many] 29)) hb
    have HD1 := Lib.hid (bTrans HD0.out hB1)
    have HT1 := Lib.hid (HT0.out.mono hB1)
    have T1 := Lib.hid (show TBox w1 w.heap.size 29 #[.int .i64 t.q.wells, .slice Aw t.q.nw cw, .slice Af t.q.nf cf, .slice Ao t.no co, .slice Ap t.np cp, .slice As t.ns cs, .int .i64 t.far, .int .i64 t.harm, .int .i64 t.many] from by have := ((TBox.new w #[.int .i64 t.q.wells, .slice Aw t.q.nw cw, .slice Af t.q.nf cf, .slice Ao t.no co, .slice Ap t.np cp, .slice As t.ns cs, .int .i64 t.far, .int .i64 t.harm, .int .i64 t.many] 29).mono (Below.refl _ _)).mono hb; simpa using this)
    clear hb hB1 HD0 HT0
    obtain ⟨T_0, T_1, T_2, T_3, T_4, T_5, T_6, T_7, T_8, T_l⟩ := T1.out.c9
    rw [Qt.err_ok G0.out]
    go_wp2_with fail
    go_ret
    exact ⟨by rw [HE.out]; rfl, HD1.out⟩
  have G2 := Lib.hid g2
  have g2i : ((t.np : Int) != t.q.wells) = false := by rw [g2]; simp
  clear g2
  by_cases g3 : t.ns ≤ 5
  case neg =>
    have HE := Lib.hid (Pt.err_bad (t := t) fun h => g3 h.ns)
    have g3d : decide (5 < t.ns) = true := by simp; omega
    have g3f : decide ((5 : Int) < (t.ns : Int)) = true := by simp; omega
    have g3h : decide ((t.ns : Int) > 5) = true := by simp; omega
    go_wp2_with fail
    refine (refCheck5 _ _ _ _ t.q _ HSM.out.q.1 HSM.out.q.2.1 (HT0.out.mono (bAlloc (Below.refl _ _) (.cells #[.int .i64 t.q.wells, .slice Aw t.q.nw cw, .slice Af t.q.nf cf, .slice Ao t.no co, .slice Ap t.np cp, .slice As t.ns cs, .int .i64 t.far, .int .i64 t.harm, .int .i64 t.many] 29))).q).mono ?_
    rintro e w1 ⟨rfl, hb⟩
    have hB1 : Below w.heap.size w w1 := bTrans (bAlloc (Below.refl _ _) (.cells #[.int .i64 t.q.wells, .slice Aw t.q.nw cw, .slice Af t.q.nf cf, .slice Ao t.no co, .slice Ap t.np cp, .slice As t.ns cs, .int .i64 t.far, .int .i64 t.harm, .int .i64 t.many] 29)) hb
    have HD1 := Lib.hid (bTrans HD0.out hB1)
    have HT1 := Lib.hid (HT0.out.mono hB1)
    have T1 := Lib.hid (show TBox w1 w.heap.size 29 #[.int .i64 t.q.wells, .slice Aw t.q.nw cw, .slice Af t.q.nf cf, .slice Ao t.no co, .slice Ap t.np cp, .slice As t.ns cs, .int .i64 t.far, .int .i64 t.harm, .int .i64 t.many] from by have := ((TBox.new w #[.int .i64 t.q.wells, .slice Aw t.q.nw cw, .slice Af t.q.nf cf, .slice Ao t.no co, .slice Ap t.np cp, .slice As t.ns cs, .int .i64 t.far, .int .i64 t.harm, .int .i64 t.many] 29).mono (Below.refl _ _)).mono hb; simpa using this)
    clear hb hB1 HD0 HT0
    obtain ⟨T_0, T_1, T_2, T_3, T_4, T_5, T_6, T_7, T_8, T_l⟩ := T1.out.c9
    rw [Qt.err_ok G0.out]
    go_wp2_with fail
    go_ret
    exact ⟨by rw [HE.out]; rfl, HD1.out⟩
  have G3 := Lib.hid g3
  have g3d : decide (5 < t.ns) = false := by simp; omega
  have g3e : ¬ (5 : Int) < (t.ns : Int) := by omega
  have g3f : decide ((5 : Int) < (t.ns : Int)) = false := by simp; omega
  cases g4 : inR t.far 0 99
  case false =>
    have HE := Lib.hid (Pt.err_bad (t := t) fun h => by rw [inR_t h.far] at g4; cases g4)
    have G4 := Lib.hid g4
    clear g4
    go_wp2_with fail
    refine (refCheck5 _ _ _ _ t.q _ HSM.out.q.1 HSM.out.q.2.1 (HT0.out.mono (bAlloc (Below.refl _ _) (.cells #[.int .i64 t.q.wells, .slice Aw t.q.nw cw, .slice Af t.q.nf cf, .slice Ao t.no co, .slice Ap t.np cp, .slice As t.ns cs, .int .i64 t.far, .int .i64 t.harm, .int .i64 t.many] 29))).q).mono ?_
    rintro e w1 ⟨rfl, hb⟩
    have hB1 : Below w.heap.size w w1 := bTrans (bAlloc (Below.refl _ _) (.cells #[.int .i64 t.q.wells, .slice Aw t.q.nw cw, .slice Af t.q.nf cf, .slice Ao t.no co, .slice Ap t.np cp, .slice As t.ns cs, .int .i64 t.far, .int .i64 t.harm, .int .i64 t.many] 29)) hb
    have HD1 := Lib.hid (bTrans HD0.out hB1)
    have HT1 := Lib.hid (HT0.out.mono hB1)
    have T1 := Lib.hid (show TBox w1 w.heap.size 29 #[.int .i64 t.q.wells, .slice Aw t.q.nw cw, .slice Af t.q.nf cf, .slice Ao t.no co, .slice Ap t.np cp, .slice As t.ns cs, .int .i64 t.far, .int .i64 t.harm, .int .i64 t.many] from by have := ((TBox.new w #[.int .i64 t.q.wells, .slice Aw t.q.nw cw, .slice Af t.q.nf cf, .slice Ao t.no co, .slice Ap t.np cp, .slice As t.ns cs, .int .i64 t.far, .int .i64 t.harm, .int .i64 t.many] 29).mono (Below.refl _ _)).mono hb; simpa using this)
    clear hb hB1 HD0 HT0
    obtain ⟨T_0, T_1, T_2, T_3, T_4, T_5, T_6, T_7, T_8, T_l⟩ := T1.out.c9
    rw [Qt.err_ok G0.out]
    go_wp2_with fail
    refine (within9_b _ _ _ _ _ G4.out).mono ?_
    rintro e w0 ⟨rfl, rfl⟩
    go_wp2_with fail
    go_ret
    exact ⟨by rw [HE.out]; rfl, HD1.out⟩
  have G4 := Lib.hid g4
  clear g4
  cases g5 : inR t.harm 0 99
  case false =>
    have HE := Lib.hid (Pt.err_bad (t := t) fun h => by rw [inR_t h.harm] at g5; cases g5)
    have G5 := Lib.hid g5
    clear g5
    go_wp2_with fail
    refine (refCheck5 _ _ _ _ t.q _ HSM.out.q.1 HSM.out.q.2.1 (HT0.out.mono (bAlloc (Below.refl _ _) (.cells #[.int .i64 t.q.wells, .slice Aw t.q.nw cw, .slice Af t.q.nf cf, .slice Ao t.no co, .slice Ap t.np cp, .slice As t.ns cs, .int .i64 t.far, .int .i64 t.harm, .int .i64 t.many] 29))).q).mono ?_
    rintro e w1 ⟨rfl, hb⟩
    have hB1 : Below w.heap.size w w1 := bTrans (bAlloc (Below.refl _ _) (.cells #[.int .i64 t.q.wells, .slice Aw t.q.nw cw, .slice Af t.q.nf cf, .slice Ao t.no co, .slice Ap t.np cp, .slice As t.ns cs, .int .i64 t.far, .int .i64 t.harm, .int .i64 t.many] 29)) hb
    have HD1 := Lib.hid (bTrans HD0.out hB1)
    have HT1 := Lib.hid (HT0.out.mono hB1)
    have T1 := Lib.hid (show TBox w1 w.heap.size 29 #[.int .i64 t.q.wells, .slice Aw t.q.nw cw, .slice Af t.q.nf cf, .slice Ao t.no co, .slice Ap t.np cp, .slice As t.ns cs, .int .i64 t.far, .int .i64 t.harm, .int .i64 t.many] from by have := ((TBox.new w #[.int .i64 t.q.wells, .slice Aw t.q.nw cw, .slice Af t.q.nf cf, .slice Ao t.no co, .slice Ap t.np cp, .slice As t.ns cs, .int .i64 t.far, .int .i64 t.harm, .int .i64 t.many] 29).mono (Below.refl _ _)).mono hb; simpa using this)
    clear hb hB1 HD0 HT0
    obtain ⟨T_0, T_1, T_2, T_3, T_4, T_5, T_6, T_7, T_8, T_l⟩ := T1.out.c9
    rw [Qt.err_ok G0.out]
    go_wp2_with fail
    refine (within9_b _ _ _ _ _ G4.out).mono ?_
    rintro e w0 ⟨rfl, rfl⟩
    go_wp2_with fail
    refine (within9_b _ _ _ _ _ G5.out).mono ?_
    rintro e w0 ⟨rfl, rfl⟩
    go_wp2_with fail
    go_ret
    exact ⟨by rw [HE.out]; rfl, HD1.out⟩
  have G5 := Lib.hid g5
  clear g5
  cases g6 : inR t.many 0 9
  case false =>
    have HE := Lib.hid (Pt.err_bad (t := t) fun h => by rw [inR_t h.many] at g6; cases g6)
    have G6 := Lib.hid g6
    clear g6
    go_wp2_with fail
    refine (refCheck5 _ _ _ _ t.q _ HSM.out.q.1 HSM.out.q.2.1 (HT0.out.mono (bAlloc (Below.refl _ _) (.cells #[.int .i64 t.q.wells, .slice Aw t.q.nw cw, .slice Af t.q.nf cf, .slice Ao t.no co, .slice Ap t.np cp, .slice As t.ns cs, .int .i64 t.far, .int .i64 t.harm, .int .i64 t.many] 29))).q).mono ?_
    rintro e w1 ⟨rfl, hb⟩
    have hB1 : Below w.heap.size w w1 := bTrans (bAlloc (Below.refl _ _) (.cells #[.int .i64 t.q.wells, .slice Aw t.q.nw cw, .slice Af t.q.nf cf, .slice Ao t.no co, .slice Ap t.np cp, .slice As t.ns cs, .int .i64 t.far, .int .i64 t.harm, .int .i64 t.many] 29)) hb
    have HD1 := Lib.hid (bTrans HD0.out hB1)
    have HT1 := Lib.hid (HT0.out.mono hB1)
    have T1 := Lib.hid (show TBox w1 w.heap.size 29 #[.int .i64 t.q.wells, .slice Aw t.q.nw cw, .slice Af t.q.nf cf, .slice Ao t.no co, .slice Ap t.np cp, .slice As t.ns cs, .int .i64 t.far, .int .i64 t.harm, .int .i64 t.many] from by have := ((TBox.new w #[.int .i64 t.q.wells, .slice Aw t.q.nw cw, .slice Af t.q.nf cf, .slice Ao t.no co, .slice Ap t.np cp, .slice As t.ns cs, .int .i64 t.far, .int .i64 t.harm, .int .i64 t.many] 29).mono (Below.refl _ _)).mono hb; simpa using this)
    clear hb hB1 HD0 HT0
    obtain ⟨T_0, T_1, T_2, T_3, T_4, T_5, T_6, T_7, T_8, T_l⟩ := T1.out.c9
    rw [Qt.err_ok G0.out]
    go_wp2_with fail
    refine (within9_b _ _ _ _ _ G4.out).mono ?_
    rintro e w0 ⟨rfl, rfl⟩
    go_wp2_with fail
    refine (within9_b _ _ _ _ _ G5.out).mono ?_
    rintro e w0 ⟨rfl, rfl⟩
    go_wp2_with fail
    refine (within9_b _ _ _ _ _ G6.out).mono ?_
    rintro e w0 ⟨rfl, rfl⟩
    go_wp2_with fail
    go_ret
    exact ⟨by rw [HE.out]; rfl, HD1.out⟩
  have G6 := Lib.hid g6
  clear g6
  go_wp2_with fail
  refine (refCheck5 _ _ _ _ t.q _ HSM.out.q.1 HSM.out.q.2.1 (HT0.out.mono (bAlloc (Below.refl _ _) (.cells #[.int .i64 t.q.wells, .slice Aw t.q.nw cw, .slice Af t.q.nf cf, .slice Ao t.no co, .slice Ap t.np cp, .slice As t.ns cs, .int .i64 t.far, .int .i64 t.harm, .int .i64 t.many] 29))).q).mono ?_
  rintro e w1 ⟨rfl, hb⟩
  have hB1 : Below w.heap.size w w1 := bTrans (bAlloc (Below.refl _ _) (.cells #[.int .i64 t.q.wells, .slice Aw t.q.nw cw, .slice Af t.q.nf cf, .slice Ao t.no co, .slice Ap t.np cp, .slice As t.ns cs, .int .i64 t.far, .int .i64 t.harm, .int .i64 t.many] 29)) hb
  have HD1 := Lib.hid (bTrans HD0.out hB1)
  have HT1 := Lib.hid (HT0.out.mono hB1)
  have T1 := Lib.hid (show TBox w1 w.heap.size 29 #[.int .i64 t.q.wells, .slice Aw t.q.nw cw, .slice Af t.q.nf cf, .slice Ao t.no co, .slice Ap t.np cp, .slice As t.ns cs, .int .i64 t.far, .int .i64 t.harm, .int .i64 t.many] from by have := ((TBox.new w #[.int .i64 t.q.wells, .slice Aw t.q.nw cw, .slice Af t.q.nf cf, .slice Ao t.no co, .slice Ap t.np cp, .slice As t.ns cs, .int .i64 t.far, .int .i64 t.harm, .int .i64 t.many] 29).mono (Below.refl _ _)).mono hb; simpa using this)
  clear hb hB1 HD0 HT0
  obtain ⟨T_0, T_1, T_2, T_3, T_4, T_5, T_6, T_7, T_8, T_l⟩ := T1.out.c9
  rw [Qt.err_ok G0.out]
  go_wp2_with fail
  refine (within9_b _ _ _ _ _ G4.out).mono ?_
  rintro e w0 ⟨rfl, rfl⟩
  go_wp2_with fail
  refine (within9_b _ _ _ _ _ G5.out).mono ?_
  rintro e w0 ⟨rfl, rfl⟩
  go_wp2_with fail
  refine (within9_b _ _ _ _ _ G6.out).mono ?_
  rintro e w0 ⟨rfl, rfl⟩
  go_wp2_with fail
  clear g1i g2i g3d g3e g3f
  have g9 : t.no ≤ 4 := by have := G1.out; have := G0.out.w1; omega
  clear T_0 T_1 T_2 T_3 T_4 T_5 T_6 T_7 T_8 T_l
  go_loopw [3] (fun s3 wr => ∃ k : Nat, k ≤ t.no ∧ s3 = .int .i64 (k : Int) ∧ (∀ j, j < k → (0 ≤ t.old j ∧ t.old j ≤ 99) ∧ (0 ≤ t.pence j ∧ t.pence j ≤ 99)) ∧ Below w1.heap.size w1 wr) (fun s3 _ => t.no - (intOf s3).toNat)
  case atStart => exact ⟨0, Nat.zero_le _, rfl, fun j hj => absurd hj (Nat.not_lt_zero _), Below.refl _ _⟩
  case round =>
    obtain ⟨k, hk_k, rfl, hall, hb⟩ := hrel
    have HBk := Lib.hid hb
    have HALL := Lib.hid hall
    clear hall
    have hB2 : Below w1.heap.size w1 wr := bTrans (Below.refl _ _) hb
    have HD2 := Lib.hid (bTrans HD1.out hB2)
    have HT2 := Lib.hid (HT1.out.mono hB2)
    have HU_k2 := Lib.hid ((show Upto w1 wr from HBk.out))
    have T2 := Lib.hid (T1.out.mono hB2)
    clear hb hB2
    obtain ⟨T_0, T_1, T_2, T_3, T_4, T_5, T_6, T_7, T_8, T_l⟩ := T2.out.c9
    by_cases hlt_k : k < t.no
    case pos =>
      have h1_k : (k : Int) < (t.no : Int) := by omega
      have h0_k : (0 : Int) ≤ (k : Int) := by omega
      have hkp : k < t.np := by have := G1.out; have := G2.out; omega
      have h2_k : (k : Int) < (t.np : Int) := by omega
      have HK := Lib.hid hlt_k
      have HKP := Lib.hid hkp
      obtain ⟨bo, oo, hO, hbo, co0⟩ := HT2.out.old.get hlt_k
      obtain ⟨bp, op, hP, hbp, cp0⟩ := HT2.out.pence.get hkp
      subst hO hP
      cases g7 : inR (t.old k) 0 99
      case false =>
        have HE := Lib.hid (Pt.err_bad (t := t) fun h => by have := h.old k HK.out; rw [inR_t this] at g7; cases g7)
        have G7 := Lib.hid g7
        clear g7
        go_wp2_with fail
        refine (within9_b _ _ _ _ _ G7.out).mono ?_
        rintro e w0 ⟨rfl, rfl⟩
        go_wp2_with fail
        go_ret
        exact ⟨by rw [HE.out]; rfl, HD2.out⟩
      have G7 := Lib.hid g7
      clear g7
      cases g8 : inR (t.pence k) 0 99
      case false =>
        have HE := Lib.hid (Pt.err_bad (t := t) fun h => by have := h.pence k HKP.out; rw [inR_t this] at g8; cases g8)
        have G8 := Lib.hid g8
        clear g8
        go_wp2_with fail
        refine (within9_b _ _ _ _ _ G7.out).mono ?_
        rintro e w0 ⟨rfl, rfl⟩
        go_wp2_with fail
        refine (within9_b _ _ _ _ _ G8.out).mono ?_
        rintro e w0 ⟨rfl, rfl⟩
        go_wp2_with fail
        go_ret
        exact ⟨by rw [HE.out]; rfl, HD2.out⟩
      have G8 := Lib.hid g8
      clear g8
      have HA2 := Lib.hid (show (∀ j, j < k + 1 → (0 ≤ t.old j ∧ t.old j ≤ 99) ∧ (0 ≤ t.pence j ∧ t.pence j ≤ 99)) from fun j hj => by
        rcases Nat.lt_or_ge j k with h1 | h1
        · exact HALL.out j h1
        · obtain rfl : j = k := by omega
          exact ⟨inR_iff.1 G7.out, inR_iff.1 G8.out⟩)
      go_wp2_with fail
      refine (within9_b _ _ _ _ _ G7.out).mono ?_
      rintro e w0 ⟨rfl, rfl⟩
      go_wp2_with fail
      refine (within9_b _ _ _ _ _ G8.out).mono ?_
      rintro e w0 ⟨rfl, rfl⟩
      go_wp2_with fail
      go_roundw
      case rel =>
        first
        | exact ⟨k + 1, by omega, by go_num, HA2.out, HU_k2.out⟩
        | ((repeat apply Exists.intro)
           refine ⟨⟨k + 1, by omega, ?_, HA2.out, HU_k2.out⟩, rfl⟩
           go_num)
      case measure => simp [intOf]; omega
    have he_k : k = t.no := by omega
    have HA3 := Lib.hid (show (∀ j, j < t.no → (0 ≤ t.old j ∧ t.old j ≤ 99) ∧ (0 ≤ t.pence j ∧ t.pence j ≤ 99)) from he_k ▸ HALL.out)
    have hk9 : ¬ (k : Int) < (t.no : Int) := by omega
    have hk8 : ¬ k < t.no := by omega
    clear he_k
    go_wp2_with fail
    clear hk9 hk8
    obtain ⟨wl588, hwl⟩ : ∃ y, y = wr := ⟨_, rfl⟩
    subst hwl
    clear T_0 T_1 T_2 T_3 T_4 T_5 T_6 T_7 T_8 T_l
    go_loopw [4] (fun s4 wr => ∃ i : Nat, i ≤ t.ns ∧ s4 = .int .i64 (i : Int) ∧ (∀ j, j < i → (t.spot j).Ok t.q.nw t.q.wells) ∧ Below wl588.heap.size wl588 wr) (fun s4 _ => t.ns - (intOf s4).toNat)
    case atStart => exact ⟨0, Nat.zero_le _, rfl, fun j hj => absurd hj (Nat.not_lt_zero _), Below.refl _ _⟩
    case round =>
      obtain ⟨i, hk_i, rfl, hall2, hb⟩ := hrel
      have HBi := Lib.hid hb
      have HALL2 := Lib.hid hall2
      clear hall2
      have hB3 : Below wl588.heap.size wl588 wr := bTrans (Below.refl _ _) hb
      have HD3 := Lib.hid (bTrans HD2.out hB3)
      have HT3 := Lib.hid (HT2.out.mono hB3)
      have HU_k3 := Lib.hid (HU_k2.out.mono hB3)
      have HU_i3 := Lib.hid ((show Upto wl588 wr from HBi.out))
      have T3 := Lib.hid (T2.out.mono hB3)
      clear hb hB3
      obtain ⟨T_0, T_1, T_2, T_3, T_4, T_5, T_6, T_7, T_8, T_l⟩ := T3.out.c9
      by_cases hlt_i : i < t.ns
      case pos =>
        have h1_i : (i : Int) < (t.ns : Int) := by omega
        have h0_i : (0 : Int) ≤ (i : Int) := by omega
        have HI := Lib.hid hlt_i
        obtain ⟨b, o, Ar, Af2, Ax, cr, cf2, cx, hA, hb7, hsh, hrow, s0, s1, s2, s3, s4, s5, s6⟩ := HT3.out.spots.get hlt_i
        have HSS := Lib.hid (HSM.out.spot i hlt_i)
        obtain ⟨x, hxx⟩ : ∃ x, t.spot i = x := ⟨_, rfl⟩
        rw [hxx] at s0 s1 s2 s3 s4 s5 s6 hsh hrow HSS
        have HX := Lib.hid hxx
        have HSH := Lib.hid hsh
        have HRW := Lib.hid hrow
        obtain ⟨bb, hbb⟩ : ∃ b, x.okB t.q.nw t.q.wells = b := ⟨_, rfl⟩
        have HBB := Lib.hid hbb
        subst hA
        clear hsh hrow hxx hbb
        have HIS := Lib.hid (fun (w' : World) (hb : Below wr.heap.size wr w') => (HBB.out ▸ isSpot9_any Aw Af Ao Ap (some ⟨b, o, none⟩) cw cf co cp cs t Ar Af2 Ax cr cf2 cx x w' HSS.out (HSH.out.mono hb) (HRW.out.mono hb) : Calls Tryz.prog 85 #[.agg #[.int .i64 t.q.wells, .slice Aw t.q.nw cw, .slice Af t.q.nf cf, .slice Ao t.no co, .slice Ap t.np cp, .slice (some ⟨b, o, none⟩) t.ns cs, .int .i64 t.far, .int .i64 t.harm, .int .i64 t.many], .agg #[.int .i64 x.at_, .slice Ar x.sh.nr cr, .slice Af2 x.sh.nf cf2, .int .i64 x.sh.deep, .int .i64 x.sh.haul, .int .i64 x.sh.rest, .slice Ax x.fl.n cx]] w' fun e w'' => e = .returned (.bool bb) ∧ Below w'.heap.size w' w''))
        go_wp2_with fail
        refine wp_region_quiet_below (by kernel_rfl) (by kernel_rfl) ?_
        repeat (go_big_quiet_step (((go_at_call 85; with_reducible exact Calls.regrown_of (HIS.out _ (below_regrown _ _ _))))))
        refine wpQuiet_nil ?_
        intro w4 hw9
        have hb := below_of_regrown hw9
        clear hw9
        clear s0 s1 s2 s3 s4 s5 s6 hb7
        have hB4 : Below wr.heap.size wr w4 := bTrans (Below.refl _ _) hb
        have HD4 := Lib.hid (bTrans HD3.out hB4)
        have HT4 := Lib.hid (HT3.out.mono hB4)
        have HU_k4 := Lib.hid (HU_k3.out.mono hB4)
        have HU_i4 := Lib.hid (HU_i3.out.mono hB4)
        have T4 := Lib.hid (T3.out.mono hB4)
        clear hb hB4 HD3 HT3 HU_k3 HU_i3 T3 T_0 T_1 T_2 T_3 T_4 T_5 T_6 T_7 T_8 T_l
        obtain ⟨T_0, T_1, T_2, T_3, T_4, T_5, T_6, T_7, T_8, T_l⟩ := T4.out.c9
        cases bb
        · skip
          have HE := Lib.hid (Pt.err_bad (t := t) fun h => by have := h.spot i HI.out; rw [HX.out] at this; rw [Spot.okB_t this] at HBB; exact Bool.noConfusion HBB.out)
          go_wp2_with fail
          go_ret
          exact ⟨by rw [HE.out]; rfl, HD4.out⟩
        · skip
          have HA2 := Lib.hid (show (∀ j, j < i + 1 → (t.spot j).Ok t.q.nw t.q.wells) from fun j hj => by
            rcases Nat.lt_or_ge j i with h1 | h1
            · exact HALL2.out j h1
            · obtain rfl : j = i := by omega
              rw [HX.out]; exact Spot.okB_iff.1 HBB.out)
          go_wp2_with fail
          go_roundw
          case rel =>
            first
            | exact ⟨i + 1, by omega, by go_num, HA2.out, HU_i4.out⟩
            | ((repeat apply Exists.intro)
               refine ⟨⟨i + 1, by omega, ?_, HA2.out, HU_i4.out⟩, rfl⟩
               go_num)
          case measure => simp [intOf]; omega
      have he_i : i = t.ns := by omega
      have HE := Lib.hid (Pt.err_ok (t := t) ⟨G0.out, G1.out, G2.out, G3.out, inR_iff.1 G4.out, inR_iff.1 G5.out, inR_iff.1 G6.out, fun j hj => (HA3.out j hj).1, fun j hj => (HA3.out j (by have := G1.out; have := G2.out; omega)).2, fun j hj => HALL2.out j (by omega)⟩)
      have hk9 : ¬ (i : Int) < (t.ns : Int) := by omega
      have hk8 : ¬ i < t.ns := by omega
      clear he_i
      go_wp2_with fail
      go_ret
      exact ⟨by rw [HE.out]; rfl, HD3.out⟩
end Go.Proofs.YtjpfdhhiofjpbaaGreatDoor
/- Shafts (from the texts of the shafts). -/
namespace Go.Proofs.YtjpfdhhiofjpbaaGreatDoor
open Go.RowKit Go.Sort
theorem Fresh.ne {w : World} {base : Nat} {A : Option Addr} {n c : Nat} (h : Fresh w base A n c) : A ≠ none := by
  obtain ⟨_, _, ⟨p, e, _⟩, _⟩ := h
  rw [e]; exact fun h => by cases h
theorem Fresh.at_ {base : Nat} {w : World} {A : Option Addr} {n c : Nat} (h : Fresh w base A n c) : ∀ p, A = some p → base ≤ p.block := fun p e => by
  obtain ⟨q, e3, hp⟩ := h.2.2.1
  rw [e] at e3; injection e3 with e3; subst e3; exact hp
end Go.Proofs.YtjpfdhhiofjpbaaGreatDoor

/- Shafts (from the texts of the shafts). -/
namespace Go.Proofs.YtjpfdhhiofjpbaaGreatDoor
open Go.RowKit Go.Sort
section
variable {P : Program} {ops : Array Oper} {md : Region.Mode}
attribute [go_sem] Oper.stirAt Oper.stirUpon
end
theorem AtHand.mono {N : Nat} {e : TypeId} {size n : Nat} {xs : List Value} {w w' : World} {v : Value} (hb : Below w.heap.size w w') (h : AtHand N e size n xs w v) : AtHand N e size n xs w' v :=
  h.imp id fun h => ⟨h.1, owns_below h.2 hb⟩
end Go.Proofs.YtjpfdhhiofjpbaaGreatDoor

/- Shafts (from the texts of the shafts). -/
namespace Go.Proofs.YtjpfdhhiofjpbaaGreatDoor
open Go.RowKit Go.Sort
end Go.Proofs.YtjpfdhhiofjpbaaGreatDoor

/- Shafts (from the texts of the shafts). -/
namespace Go.Proofs.YtjpfdhhiofjpbaaGreatDoor
open Go.RowKit Go.Sort
/-- from the depth a the next ring can be at d -/
def Sh.okStep (S : Sh) (a d : Nat) : Prop := a < d ∧ d ≤ S.falls a ∧ S.restsB d = true
/-- stops from the depth a on to the bottom -/
def Sh.Chain (S : Sh) : Nat → List Nat → Prop
  | a, [] => a = S.nf
  | a, d :: l => S.okStep a d ∧ S.Chain d l
def costL (c : Nat → Int) : List Nat → Int
  | [] => 0
  | d :: l => c d + costL c l
theorem costL_one (l : List Nat) : costL (fun _ => 1) l = l.length := by
  induction l with
  | nil => rfl
  | cons d l ih => simp only [costL, ih, List.length_cons]; omega
theorem Sh.Chain.len {S : Sh} : ∀ {l : List Nat} {a : Nat}, S.Chain a l → a + l.length ≤ S.nf
  | [], a, h => by simp only [Sh.Chain] at h; simp; omega
  | d :: l, a, h => by have := Sh.Chain.len h.2; have := h.1.1; simp; omega
/-- what a comparison goes by -/
structure Meas (S : Sh) (lt : Way → Way → Bool) (μ : Way → Int) (c : Nat → Int) : Prop where
  iff : ∀ x y, lt x y = true ↔ μ x < μ y
  to : ∀ x d, μ (S.wayTo x d) = μ x + c d
  zero : μ ⟨0, 0, 0⟩ = 0
theorem measR (S : Sh) : Meas S ltR Way.rings (fun _ => 1) := ⟨fun x y => by simp [ltR], fun x d => rfl, rfl⟩
theorem measP (S : Sh) : Meas S ltP Way.pence S.ringc := ⟨fun x y => by simp [ltP], fun x d => rfl, rfl⟩
theorem wayTo_ne {S : Sh} {x : Way} {d : Nat} (h : 0 < d) : S.wayTo x d ≠ noWay := fun e => by
  have : (S.wayTo x d).next = noWay.next := by rw [e]
  simp only [Sh.wayTo, noWay] at this
  omega
/-- a depth that can be gone to -/
def Sh.cand (S : Sh) (prev : Nat → Way) (n : Nat) : Prop := prev n ≠ noWay ∧ S.restsB n = true
theorem look_no {S : Sh} {lt : Way → Way → Bool} {prev : Nat → Way} {cur : Way} {n : Nat} (h : ¬ S.cand prev n) : S.look lt prev cur n = cur := by
  unfold Sh.look
  rw [if_pos]
  unfold Sh.cand at h
  by_cases h1 : prev n = noWay
  · exact .inl h1
  · refine .inr ?_
    cases e : S.restsB n
    · rfl
    · exact absurd ⟨h1, e⟩ h
theorem look_yes {S : Sh} {lt : Way → Way → Bool} {μ : Way → Int} {c : Nat → Int} (M : Meas S lt μ c) {prev : Nat → Way} {cur : Way} {n : Nat} (h : S.cand prev n) :
    (S.look lt prev cur n = S.wayTo (prev n) n ∧ (cur = noWay ∨ μ (prev n) + c n < μ cur)) ∨ (S.look lt prev cur n = cur ∧ cur ≠ noWay ∧ ¬ μ (prev n) + c n < μ cur) := by
  unfold Sh.look
  rw [if_neg (by rintro (h1 | h1); exact h.1 h1; rw [h.2] at h1; cases h1)]
  by_cases h2 : cur = noWay
  · exact .inl ⟨if_pos (.inl h2), .inl h2⟩
  · by_cases h3 : μ (prev n) + c n < μ cur
    · exact .inl ⟨if_pos (.inr ((M.iff _ _).2 (by rw [M.to]; exact h3))), .inr h3⟩
    · exact .inr ⟨if_neg (by rintro (h4 | h4); exact h2 h4; exact h3 (by rw [← M.to]; exact (M.iff _ _).1 h4)), h2, h3⟩
structure LookSpec (S : Sh) (μ : Way → Int) (c : Nat → Int) (prev : Nat → Way) (d m : Nat) (r : Way) : Prop where
  from_ : r = prev d ∨ ∃ j, j < m ∧ S.cand prev (d + 1 + j) ∧ r = S.wayTo (prev (d + 1 + j)) (d + 1 + j)
  keep : prev d ≠ noWay → r ≠ noWay ∧ μ r ≤ μ (prev d)
  best : ∀ j, j < m → S.cand prev (d + 1 + j) → r ≠ noWay ∧ μ r ≤ μ (prev (d + 1 + j)) + c (d + 1 + j)
  first : prev d = noWay → ∀ j, j < m → S.cand prev (d + 1 + j) → μ r = μ (prev (d + 1 + j)) + c (d + 1 + j) → r.next ≤ (d + 1 + j : Nat)
  stay : prev d ≠ noWay → (∀ j, j < m → S.cand prev (d + 1 + j) → ¬ μ (prev (d + 1 + j)) + c (d + 1 + j) < μ (prev d)) → r = prev d
theorem lookTo_spec {S : Sh} {lt : Way → Way → Bool} {μ : Way → Int} {c : Nat → Int} (M : Meas S lt μ c) (prev : Nat → Way) (d : Nat) : ∀ m, LookSpec S μ c prev d m (S.lookTo lt prev d m)
  | 0 => ⟨.inl rfl, fun h => ⟨h, Int.le_refl _⟩, fun j hj => by omega, fun _ j hj => by omega, fun _ _ => rfl⟩
  | m + 1 => by
    obtain ⟨h1, h2, h3, h4, h5⟩ := lookTo_spec M prev d m
    show LookSpec S μ c prev d (m + 1) (S.look lt prev (S.lookTo lt prev d m) (d + 1 + m))
    generalize S.lookTo lt prev d m = cur at h1 h2 h3 h4 h5
    by_cases hc : S.cand prev (d + 1 + m)
    · rcases look_yes M (cur := cur) hc with ⟨e, hlt⟩ | ⟨e, hne, hnl⟩
      · rw [e]
        have hμ : μ (S.wayTo (prev (d + 1 + m)) (d + 1 + m)) = μ (prev (d + 1 + m)) + c (d + 1 + m) := M.to _ _
        have hne : S.wayTo (prev (d + 1 + m)) (d + 1 + m) ≠ noWay := wayTo_ne (by omega)
        refine ⟨.inr ⟨m, by omega, hc, rfl⟩, fun h => ⟨hne, ?_⟩, fun j hj hcj => ⟨hne, ?_⟩, fun h0 j hj hcj he => ?_, fun h h' => ?_⟩
        · obtain ⟨g1, g2⟩ := h2 h
          rcases hlt with hlt | hlt
          · exact absurd hlt g1
          · omega
        · rcases Nat.lt_or_ge j m with hj2 | hj2
          · obtain ⟨g1, g2⟩ := h3 j hj2 hcj
            rcases hlt with hlt | hlt
            · exact absurd hlt g1
            · omega
          · obtain rfl : j = m := by omega
            omega
        · rcases Nat.lt_or_ge j m with hj2 | hj2
          · obtain ⟨g1, g2⟩ := h3 j hj2 hcj
            rcases hlt with hlt | hlt
            · exact absurd hlt g1
            · omega
          · simp only [Sh.wayTo]; omega
        · obtain ⟨g1, g2⟩ := h2 h
          rcases hlt with hlt | hlt
          · exact absurd hlt g1
          · have h6 := h5 h (fun j hj => h' j (by omega))
            rw [h6] at hlt
            exact absurd hlt (h' m (by omega) hc)
      · rw [e]
        refine ⟨h1.imp id (fun ⟨j, hj, h⟩ => ⟨j, by omega, h⟩), h2, fun j hj hcj => ?_, fun h0 j hj hcj he => ?_, fun h h' => h5 h (fun j hj => h' j (by omega))⟩
        · rcases Nat.lt_or_ge j m with hj2 | hj2
          · exact h3 j hj2 hcj
          · obtain rfl : j = m := by omega
            exact ⟨hne, by omega⟩
        · rcases Nat.lt_or_ge j m with hj2 | hj2
          · exact h4 h0 j hj2 hcj he
          · rcases h1 with h1 | ⟨i, hi, hci, hr⟩
            · exact absurd (h1.trans h0) hne
            · rw [hr]; simp only [Sh.wayTo]; omega
    · rw [look_no hc]
      refine ⟨h1.imp id (fun ⟨j, hj, h⟩ => ⟨j, by omega, h⟩), h2, fun j hj hcj => ?_, fun h0 j hj hcj he => ?_, fun h h' => h5 h (fun j hj => h' j (by omega))⟩
      · rcases Nat.lt_or_ge j m with hj2 | hj2
        · exact h3 j hj2 hcj
        · obtain rfl : j = m := by omega
          exact absurd hcj hc
      · rcases Nat.lt_or_ge j m with hj2 | hj2
        · exact h4 h0 j hj2 hcj he
        · obtain rfl : j = m := by omega
          exact absurd hcj hc
section
variable {S : Sh} {lt : Way → Way → Bool} {μ : Way → Int} {c : Nat → Int}
theorem waysOf_end (k : Nat) : S.waysOf lt k S.nf = ⟨0, 0, 0⟩ := by
  induction k with
  | zero => unfold Sh.waysOf; rw [if_pos rfl]
  | succ k ih => show S.moreWays lt _ _ = _; unfold Sh.moreWays; rw [if_neg (by omega)]; exact ih
theorem waysOf_step (M : Meas S lt μ c) (k : Nat) {d : Nat} (hd : d < S.nf) : LookSpec S μ c (S.waysOf lt k) d (S.falls d - d) (S.waysOf lt (k + 1) d) := by
  have := lookTo_spec M (S.waysOf lt k) d (S.falls d - d)
  show LookSpec S μ c (S.waysOf lt k) d (S.falls d - d) (S.moreWays lt (S.waysOf lt k) d)
  unfold Sh.moreWays
  rwa [if_pos hd]
/-- where a way that is kept comes from -/
theorem waysOf_from (M : Meas S lt μ c) : ∀ k d, d < S.nf → S.waysOf lt k d ≠ noWay → ∃ j n, j < k ∧ S.okStep d n ∧ S.waysOf lt j n ≠ noWay ∧ S.waysOf lt k d = S.wayTo (S.waysOf lt j n) n
  | 0, d, hd, h => by
    unfold Sh.waysOf at h
    rw [if_neg (by omega)] at h
    exact absurd rfl h
  | k + 1, d, hd, h => by
    have hf := S.falls_bd (Nat.le_of_lt hd)
    rcases (waysOf_step M k hd).from_ with h1 | ⟨j, hj, hc, h1⟩
    · rw [h1] at h
      obtain ⟨j, n, g1, g2, g3, g4⟩ := waysOf_from M k d hd h
      exact ⟨j, n, by omega, g2, g3, h1.trans g4⟩
    · exact ⟨k, d + 1 + j, by omega, ⟨by omega, by omega, hc.2⟩, hc.1, h1⟩
theorem waysOf_sound (M : Meas S lt μ c) : ∀ k d, d ≤ S.nf → S.waysOf lt k d ≠ noWay → ∃ l, S.Chain d l ∧ l.length ≤ k ∧ (S.waysOf lt k d).rings = l.length ∧ μ (S.waysOf lt k d) = costL c l := by
  intro k
  induction k using Nat.strongRecOn with
  | _ k ih =>
    intro d hd h
    rcases Nat.eq_or_lt_of_le hd with e | e
    · subst e
      exact ⟨[], rfl, Nat.zero_le _, by rw [waysOf_end]; rfl, by rw [waysOf_end, M.zero]; rfl⟩
    · obtain ⟨j, n, h1, h2, h3, h4⟩ := waysOf_from M k d e h
      have hf := S.falls_bd hd
      obtain ⟨l, g1, g2, g3, g4⟩ := ih j h1 n (by have := h2.2.1; omega) h3
      refine ⟨n :: l, ⟨h2, g1⟩, by simp; omega, by rw [h4]; simp only [Sh.wayTo, List.length_cons, g3]; omega, ?_⟩
      rw [h4, M.to, g4]; simp only [costL]; omega
theorem waysOf_best (M : Meas S lt μ c) : ∀ k d l, S.Chain d l → l.length ≤ k → S.waysOf lt k d ≠ noWay ∧ μ (S.waysOf lt k d) ≤ costL c l
  | k, d, [], h, _ => by
    simp only [Sh.Chain] at h
    subst h
    rw [waysOf_end, M.zero]
    exact ⟨by decide, Int.le_refl _⟩
  | 0, d, n :: l, _, hl => by simp at hl
  | k + 1, d, n :: l, h, hl => by
    obtain ⟨⟨h1, h2, h3⟩, h4⟩ := h
    have hn := h4.len
    simp only [List.length_cons] at hl
    obtain ⟨g1, g2⟩ := waysOf_best M k n l h4 (by omega)
    have hb := (waysOf_step M k (d := d) (by omega)).best (n - (d + 1)) (by omega)
    rw [show d + 1 + (n - (d + 1)) = n from by omega] at hb
    obtain ⟨b1, b2⟩ := hb ⟨g1, h3⟩
    refine ⟨b1, ?_⟩
    simp only [costL]; omega
end
end Go.Proofs.YtjpfdhhiofjpbaaGreatDoor

