/- Parts joined: what all claims of this seat need. -/
import Derived.Test.YthnojgdckkdcgaaGreatDoorNSJ
import Derived.Test.YthnojgdckkdcgaaGreatDoorNSF
import Derived.Test.YthnojgdckkdcgaaGreatDoorNSC
set_option linter.unusedSimpArgs false
set_option linter.unusedVariables false
namespace Go.Proofs.YthnojgdckkdcgaaGreatDoor
open Go.RowKit Go.Sort
theorem withinP_b (n lo hi : Int) (b : Bool) (w : World) (h : inR n lo hi = b) : Calls Tryz.prog 131 #[.int .i64 n, .int .i64 lo, .int .i64 hi] w fun e w' => e = .returned (.bool b) ∧ Below w.heap.size w w' := by
  have H := Lib.hid h
  clear h
  go_enter Tryz.func131, Tryz.ntmps131
  go_wp2
  all_goals
    go_ret
    exact ⟨ret_bool (by rw [← H.out]; unfold inR; simp; omega), Below.refl _ _⟩
theorem areC_any (n most : Int) (a : Nat) (w : World) (ha : a < w.heap.size) (hc : w.cell? ⟨a, 0, none⟩ = some (.int .i64 most)) : Calls Tryz.prog 190 #[.int .i64 n, .pointer (some ⟨a, 0, none⟩)] w fun e w' => e = .returned (.bool (!inR n 0 most)) ∧ Below w.heap.size w w' := by
  go_enter Tryz.func190, Tryz.ntmps190
  go_wp2_with fail
  refine (withinP_b _ _ _ _ _ rfl).mono ?_
  rintro e w' ⟨rfl, hb⟩
  have HB := Lib.hid hb
  clear hb
  go_wp2_with fail
  go_ret
  exact ⟨rfl, HB.out⟩
/-- whether there are so many numbers, each from 0 to a greatest one -/
def areB (many most : Int) (n : Nat) (g : Nat → Int) : Bool := decide ((n : Int) = many) && !anyB (fun i => !inR (g i) 0 most) n
theorem areB_iff {many most : Int} {n : Nat} {g : Nat → Int} : areB many most n g = true ↔ (n : Int) = many ∧ ∀ i, i < n → 0 ≤ g i ∧ g i ≤ most := by
  unfold areB
  simp only [Bool.and_eq_true, decide_eq_true_eq, Bool.not_eq_true', anyB_false, Bool.not_eq_false', inR_iff]
set_option maxHeartbeats 1000000 in
set_option maxRecDepth 100000 in
theorem areP_any (A : Option Addr) (n c : Nat) (g : Nat → Int) (many most : Int) (w : World) (hn : n ≤ 9223372036854775807) (hr : IntsAt w A n g) :
    Calls Tryz.prog 163 #[.int .i64 many, .int .i64 most, .slice A n c] w fun e w' => e = .returned (.bool (areB many most n g)) ∧ Below w.heap.size w w' := by
  have HB := Lib.hid (bAlloc (Below.refl w.heap.size w) (.cells #[.int .i64 most] 3))
  by_cases hnm : (n : Int) = many
  · have g1 : ((n : Int) == many) = true := by rw [hnm]; simp
    obtain ⟨bk, hbk⟩ : ∃ bk, anyB (fun i => !inR (g i) 0 most) n = bk := ⟨_, rfl⟩
    have HE := Lib.hid (show areB many most n g = !bk by unfold areB; simp [hnm, hbk])
    have HC := Lib.hid (hbk ▸ contains_int A n c 190 #[.pointer (some ⟨w.heap.size, 0, none⟩)] g (fun i => !inR (g i) 0 most) (w.alloc (.cells #[.int .i64 most] 3)) hn (hr.mono HB.out) (enters_of Tryz.func190 (by kernel_rfl)) (fun i _ w' hb => areC_any (g i) most w.heap.size w' (Nat.lt_of_lt_of_le (by simp) hb.size) ((hb.cell (p := ⟨w.heap.size, 0, none⟩) (by simp)).trans (by simp [go_sem]))) : Calls Tryz.prog 173 #[.slice A n c, .func (.func 190) #[] #[.pointer (some ⟨w.heap.size, 0, none⟩)]] (w.alloc (.cells #[.int .i64 most] 3)) fun e w' => e = .returned (.bool bk) ∧ Below (w.alloc (.cells #[.int .i64 most] 3)).heap.size (w.alloc (.cells #[.int .i64 most] 3)) w')
    clear hnm hbk hr
    go_enter Tryz.func163, Tryz.ntmps163
    go_wp2_with fail
    refine HC.out.mono ?_
    rintro e w1 ⟨rfl, hb1⟩
    have HB1 := Lib.hid (bTrans HB.out hb1)
    clear hb1
    go_wp2_with fail
    go_ret
    exact ⟨by rw [HE.out]; rfl, HB1.out⟩
  · have g1 : ((n : Int) == many) = false := beq_eq_false_iff_ne.2 hnm
    have HE := Lib.hid (show areB many most n g = false by unfold areB; simp [hnm])
    clear hnm hr
    go_enter Tryz.func163, Tryz.ntmps163
    go_wp2_with fail
    go_ret
    exact ⟨by rw [HE.out]; rfl, HB.out⟩
theorem spotC_any (A : Option Addr) (n c a : Nat) (g : Nat → Int) (m : Int) (w : World) (hn : n ≤ 9223372036854775807) (hr : IntsAt w A n g) (ha : a < w.heap.size) (hc : w.cell? ⟨a, 0, none⟩ = some (.int .i64 m)) :
    Calls Tryz.prog 192 #[.slice A n c, .pointer (some ⟨a, 0, none⟩)] w fun e w' => e = .returned (.bool (!areB m 9 n g)) ∧ Below w.heap.size w w' := by
  have HC := Lib.hid (areP_any A n c g m 9 w hn hr)
  clear hr
  go_enter Tryz.func192, Tryz.ntmps192
  go_wp2_with fail
  refine HC.out.mono ?_
  rintro e w' ⟨rfl, hb⟩
  have HB := Lib.hid hb
  clear hb
  go_wp2_with fail
  go_ret
  exact ⟨rfl, HB.out⟩
theorem spotP_cases (nw : Nat) (m : Int) (x : Spot) : (x.Ok nw m ∧ inR x.at_ 0 99 = true ∧ x.sh.Ok ∧ x.fl.n = nw ∧ anyB (fun k => !areB m 9 (x.fl.len k) (x.fl.fall k)) x.fl.n = false) ∨ (¬ x.Ok nw m ∧ (inR x.at_ 0 99 = false ∨ (inR x.at_ 0 99 = true ∧ ¬ x.sh.Ok) ∨ (inR x.at_ 0 99 = true ∧ x.sh.Ok ∧ x.fl.n ≠ nw) ∨ (inR x.at_ 0 99 = true ∧ x.sh.Ok ∧ x.fl.n = nw ∧ anyB (fun k => !areB m 9 (x.fl.len k) (x.fl.fall k)) x.fl.n = true))) := by
  cases h1 : inR x.at_ 0 99
  · exact .inr ⟨(fun h => by rw [inR_t ⟨h.a0, h.a1⟩] at h1; cases h1), .inl rfl⟩
  · by_cases h2 : x.sh.Ok
    · by_cases h3 : x.fl.n = nw
      · cases h4 : anyB (fun k => !areB m 9 (x.fl.len k) (x.fl.fall k)) x.fl.n
        · have h5 := anyB_false.1 h4
          have h6 : ∀ k, k < x.fl.n → areB m 9 (x.fl.len k) (x.fl.fall k) = true := fun k hk => by have := h5 k hk; simpa using this
          exact .inl ⟨⟨(inR_iff.1 h1).1, (inR_iff.1 h1).2, h2, h3, fun k hk => (areB_iff.1 (h6 k hk)).1, fun k hk => (areB_iff.1 (h6 k hk)).2⟩, rfl, h2, h3, rfl⟩
        · refine .inr ⟨fun h => ?_, .inr (.inr (.inr ⟨rfl, h2, h3, rfl⟩))⟩
          have h5 : anyB (fun k => !areB m 9 (x.fl.len k) (x.fl.fall k)) x.fl.n = false := anyB_false.2 fun k hk => by rw [areB_iff.2 ⟨h.len k hk, h.fall k hk⟩]; rfl
          rw [h5] at h4
          cases h4
      · exact .inr ⟨fun h => h3 h.n, .inr (.inr (.inl ⟨rfl, h2, h3⟩))⟩
    · exact .inr ⟨fun h => h2 h.sh, .inr (.inl ⟨rfl, h2⟩)⟩
set_option maxHeartbeats 4000000 in
set_option maxRecDepth 100000 in
theorem isSpotP_any (Aw Af Ao Ap As : Option Addr) (cw cf co cp cs : Nat) (t : Pt) (Ar Af2 Ax : Option Addr) (cr cf2 cx : Nat) (x : Spot) (w : World) (hs : x.Small) (hS : ShAt w Ar Af2 x.sh) (hR : RowsAt w Ax x.fl) :
    Calls Tryz.prog 166 #[.agg #[.int .i64 t.q.wells, .slice Aw t.q.nw cw, .slice Af t.q.nf cf, .slice Ao t.no co, .slice Ap t.np cp, .slice As t.ns cs, .int .i64 t.far, .int .i64 t.harm, .int .i64 t.many], .agg #[.int .i64 x.at_, .slice Ar x.sh.nr cr, .slice Af2 x.sh.nf cf2, .int .i64 x.sh.deep, .int .i64 x.sh.haul, .int .i64 x.sh.rest, .slice Ax x.fl.n cx]] w fun e w' => e = .returned (.bool (x.okB t.q.nw t.q.wells)) ∧ Below w.heap.size w w' := by
  have HD0 := Lib.hid (Below.refl w.heap.size w)
  have HSM := Lib.hid hs
  have HSH0 := Lib.hid hS
  have HRW0 := Lib.hid hR
  clear hs hS hR
  go_enter Tryz.func166, Tryz.ntmps166
  rcases spotP_cases t.q.nw t.q.wells x with ⟨hok, g1, g2, g3, g4⟩ | ⟨hno, hcase⟩
  · skip
    have HE := Lib.hid (Spot.okB_t hok)
    have G1 := Lib.hid g1
    have G2 := Lib.hid g2
    have G4 := Lib.hid g4
    have g3i : ((x.fl.n : Int) == (t.q.nw : Int)) = true := by rw [g3]; simp
    have g3n : (x.fl.n == t.q.nw) = true := by rw [g3]; simp
    clear hok g1 g2 g3 g4
    go_wp2_with fail
    refine (withinP_b _ _ _ _ _ G1.out).mono ?_
    rintro e w1 ⟨rfl, hb⟩
    have hB1 : Below w.heap.size w w1 := bTrans (bAlloc (bAlloc (Below.refl _ _) (.cells #[.int .i64 t.q.wells, .slice Aw t.q.nw cw, .slice Af t.q.nf cf, .slice Ao t.no co, .slice Ap t.np cp, .slice As t.ns cs, .int .i64 t.far, .int .i64 t.harm, .int .i64 t.many] 62)) (.cells #[.int .i64 x.at_, .slice Ar x.sh.nr cr, .slice Af2 x.sh.nf cf2, .int .i64 x.sh.deep, .int .i64 x.sh.haul, .int .i64 x.sh.rest, .slice Ax x.fl.n cx] 71)) hb
    have HD1 := Lib.hid (bTrans HD0.out hB1)
    have HSH1 := Lib.hid (HSH0.out.mono hB1)
    have HRW1 := Lib.hid (HRW0.out.mono hB1)
    have T1 := Lib.hid (show TBox w1 w.heap.size 62 #[.int .i64 t.q.wells, .slice Aw t.q.nw cw, .slice Af t.q.nf cf, .slice Ao t.no co, .slice Ap t.np cp, .slice As t.ns cs, .int .i64 t.far, .int .i64 t.harm, .int .i64 t.many] from by have := ((TBox.new w #[.int .i64 t.q.wells, .slice Aw t.q.nw cw, .slice Af t.q.nf cf, .slice Ao t.no co, .slice Ap t.np cp, .slice As t.ns cs, .int .i64 t.far, .int .i64 t.harm, .int .i64 t.many] 62).mono (bAlloc (Below.refl _ _) (.cells #[.int .i64 x.at_, .slice Ar x.sh.nr cr, .slice Af2 x.sh.nf cf2, .int .i64 x.sh.deep, .int .i64 x.sh.haul, .int .i64 x.sh.rest, .slice Ax x.fl.n cx] 71))).mono hb; simpa using this)
    have X1 := Lib.hid (show TBox w1 (w.heap.size + 1) 71 #[.int .i64 x.at_, .slice Ar x.sh.nr cr, .slice Af2 x.sh.nf cf2, .int .i64 x.sh.deep, .int .i64 x.sh.haul, .int .i64 x.sh.rest, .slice Ax x.fl.n cx] from by have := ((TBox.new (w.alloc (.cells #[.int .i64 t.q.wells, .slice Aw t.q.nw cw, .slice Af t.q.nf cf, .slice Ao t.no co, .slice Ap t.np cp, .slice As t.ns cs, .int .i64 t.far, .int .i64 t.harm, .int .i64 t.many] 62)) #[.int .i64 x.at_, .slice Ar x.sh.nr cr, .slice Af2 x.sh.nf cf2, .int .i64 x.sh.deep, .int .i64 x.sh.haul, .int .i64 x.sh.rest, .slice Ax x.fl.n cx] 71).mono (Below.refl _ _)).mono hb; simpa using this)
    clear hb hB1 HD0 HSH0 HRW0
    obtain ⟨T_0, T_1, T_2, T_3, T_4, T_5, T_6, T_7, T_8, T_l⟩ := T1.out.c9
    obtain ⟨X_0, X_1, X_2, X_3, X_4, X_5, X_6, X_l⟩ := X1.out.c7
    go_wp2_with fail
    refine (check_any Ar Af2 cr cf2 x.sh _ HSM.out.nr HSM.out.nf HSH1.out).mono ?_
    rintro e w2 ⟨rfl, hb⟩
    have hB2 : Below w1.heap.size w1 w2 := bTrans (Below.refl _ _) hb
    have HD2 := Lib.hid (bTrans HD1.out hB2)
    have HSH2 := Lib.hid (HSH1.out.mono hB2)
    have HRW2 := Lib.hid (HRW1.out.mono hB2)
    have T2 := Lib.hid (T1.out.mono hB2)
    have X2 := Lib.hid (X1.out.mono hB2)
    clear hb hB2 HD1 HSH1 HRW1 T1 T_0 T_1 T_2 T_3 T_4 T_5 T_6 T_7 T_8 T_l X1 X_0 X_1 X_2 X_3 X_4 X_5 X_6 X_l
    obtain ⟨T_0, T_1, T_2, T_3, T_4, T_5, T_6, T_7, T_8, T_l⟩ := T2.out.c9
    obtain ⟨X_0, X_1, X_2, X_3, X_4, X_5, X_6, X_l⟩ := X2.out.c7
    rw [Sh.err_ok G2.out]
    go_wp2_with fail
    refine (contains_row Ax cx 192 #[.pointer (some ⟨w.heap.size, 0, none⟩)] x.fl (fun k => !areB t.q.wells 9 (x.fl.len k) (x.fl.fall k)) _ HSM.out.n HRW2.out (enters_of Tryz.func192 (by kernel_rfl)) (fun i hi w' hb A' c' hi' => spotC_any A' (x.fl.len i) c' w.heap.size (x.fl.fall i) t.q.wells w' (HSM.out.len i hi) hi' (Nat.lt_of_lt_of_le T2.out.lt hb.size) ((T2.out.mono hb).cell 0))).mono ?_
    rintro e w3 ⟨rfl, hb⟩
    rw [G4.out]
    have hB3 : Below w2.heap.size w2 w3 := bTrans (Below.refl _ _) hb
    have HD3 := Lib.hid (bTrans HD2.out hB3)
    have HSH3 := Lib.hid (HSH2.out.mono hB3)
    have HRW3 := Lib.hid (HRW2.out.mono hB3)
    have T3 := Lib.hid (T2.out.mono hB3)
    have X3 := Lib.hid (X2.out.mono hB3)
    clear hb hB3 HD2 HSH2 HRW2 T2 T_0 T_1 T_2 T_3 T_4 T_5 T_6 T_7 T_8 T_l X2 X_0 X_1 X_2 X_3 X_4 X_5 X_6 X_l
    obtain ⟨T_0, T_1, T_2, T_3, T_4, T_5, T_6, T_7, T_8, T_l⟩ := T3.out.c9
    obtain ⟨X_0, X_1, X_2, X_3, X_4, X_5, X_6, X_l⟩ := X3.out.c7
    go_wp2_with fail
    go_ret
    exact ⟨by rw [HE.out]; rfl, HD3.out⟩
  · skip
    have HE := Lib.hid (Spot.okB_f hno)
    clear hno
    rcases hcase with g1 | ⟨g1, g2⟩ | ⟨g1, g2, g3⟩ | ⟨g1, g2, g3, g4⟩
    · skip
      have G1 := Lib.hid g1
      clear g1
      go_wp2_with fail
      refine (withinP_b _ _ _ _ _ G1.out).mono ?_
      rintro e w1 ⟨rfl, hb⟩
      have hB1 : Below w.heap.size w w1 := bTrans (bAlloc (bAlloc (Below.refl _ _) (.cells #[.int .i64 t.q.wells, .slice Aw t.q.nw cw, .slice Af t.q.nf cf, .slice Ao t.no co, .slice Ap t.np cp, .slice As t.ns cs, .int .i64 t.far, .int .i64 t.harm, .int .i64 t.many] 62)) (.cells #[.int .i64 x.at_, .slice Ar x.sh.nr cr, .slice Af2 x.sh.nf cf2, .int .i64 x.sh.deep, .int .i64 x.sh.haul, .int .i64 x.sh.rest, .slice Ax x.fl.n cx] 71)) hb
      have HD1 := Lib.hid (bTrans HD0.out hB1)
      have HSH1 := Lib.hid (HSH0.out.mono hB1)
      have HRW1 := Lib.hid (HRW0.out.mono hB1)
      have T1 := Lib.hid (show TBox w1 w.heap.size 62 #[.int .i64 t.q.wells, .slice Aw t.q.nw cw, .slice Af t.q.nf cf, .slice Ao t.no co, .slice Ap t.np cp, .slice As t.ns cs, .int .i64 t.far, .int .i64 t.harm, .int .i64 t.many] from by have := ((TBox.new w #[.int .i64 t.q.wells, .slice Aw t.q.nw cw, .slice Af t.q.nf cf, .slice Ao t.no co, .slice Ap t.np cp, .slice As t.ns cs, .int .i64 t.far, .int .i64 t.harm, .int .i64 t.many] 62).mono (bAlloc (Below.refl _ _) (.cells #[.int .i64 x.at_, .slice Ar x.sh.nr cr, .slice Af2 x.sh.nf cf2, .int .i64 x.sh.deep, .int .i64 x.sh.haul, .int .i64 x.sh.rest, .slice Ax x.fl.n cx] 71))).mono hb; simpa using this)
      have X1 := Lib.hid (show TBox w1 (w.heap.size + 1) 71 #[.int .i64 x.at_, .slice Ar x.sh.nr cr, .slice Af2 x.sh.nf cf2, .int .i64 x.sh.deep, .int .i64 x.sh.haul, .int .i64 x.sh.rest, .slice Ax x.fl.n cx] from by have := ((TBox.new (w.alloc (.cells #[.int .i64 t.q.wells, .slice Aw t.q.nw cw, .slice Af t.q.nf cf, .slice Ao t.no co, .slice Ap t.np cp, .slice As t.ns cs, .int .i64 t.far, .int .i64 t.harm, .int .i64 t.many] 62)) #[.int .i64 x.at_, .slice Ar x.sh.nr cr, .slice Af2 x.sh.nf cf2, .int .i64 x.sh.deep, .int .i64 x.sh.haul, .int .i64 x.sh.rest, .slice Ax x.fl.n cx] 71).mono (Below.refl _ _)).mono hb; simpa using this)
      clear hb hB1 HD0 HSH0 HRW0
      obtain ⟨T_0, T_1, T_2, T_3, T_4, T_5, T_6, T_7, T_8, T_l⟩ := T1.out.c9
      obtain ⟨X_0, X_1, X_2, X_3, X_4, X_5, X_6, X_l⟩ := X1.out.c7
      go_wp2_with fail
      go_ret
      exact ⟨by rw [HE.out]; rfl, HD1.out⟩
    · skip
      have G1 := Lib.hid g1
      clear g1
      have G2 := Lib.hid g2
      clear g2
      go_wp2_with fail
      refine (withinP_b _ _ _ _ _ G1.out).mono ?_
      rintro e w1 ⟨rfl, hb⟩
      have hB1 : Below w.heap.size w w1 := bTrans (bAlloc (bAlloc (Below.refl _ _) (.cells #[.int .i64 t.q.wells, .slice Aw t.q.nw cw, .slice Af t.q.nf cf, .slice Ao t.no co, .slice Ap t.np cp, .slice As t.ns cs, .int .i64 t.far, .int .i64 t.harm, .int .i64 t.many] 62)) (.cells #[.int .i64 x.at_, .slice Ar x.sh.nr cr, .slice Af2 x.sh.nf cf2, .int .i64 x.sh.deep, .int .i64 x.sh.haul, .int .i64 x.sh.rest, .slice Ax x.fl.n cx] 71)) hb
      have HD1 := Lib.hid (bTrans HD0.out hB1)
      have HSH1 := Lib.hid (HSH0.out.mono hB1)
      have HRW1 := Lib.hid (HRW0.out.mono hB1)
      have T1 := Lib.hid (show TBox w1 w.heap.size 62 #[.int .i64 t.q.wells, .slice Aw t.q.nw cw, .slice Af t.q.nf cf, .slice Ao t.no co, .slice Ap t.np cp, .slice As t.ns cs, .int .i64 t.far, .int .i64 t.harm, .int .i64 t.many] from by have := ((TBox.new w #[.int .i64 t.q.wells, .slice Aw t.q.nw cw, .slice Af t.q.nf cf, .slice Ao t.no co, .slice Ap t.np cp, .slice As t.ns cs, .int .i64 t.far, .int .i64 t.harm, .int .i64 t.many] 62).mono (bAlloc (Below.refl _ _) (.cells #[.int .i64 x.at_, .slice Ar x.sh.nr cr, .slice Af2 x.sh.nf cf2, .int .i64 x.sh.deep, .int .i64 x.sh.haul, .int .i64 x.sh.rest, .slice Ax x.fl.n cx] 71))).mono hb; simpa using this)
      have X1 := Lib.hid (show TBox w1 (w.heap.size + 1) 71 #[.int .i64 x.at_, .slice Ar x.sh.nr cr, .slice Af2 x.sh.nf cf2, .int .i64 x.sh.deep, .int .i64 x.sh.haul, .int .i64 x.sh.rest, .slice Ax x.fl.n cx] from by have := ((TBox.new (w.alloc (.cells #[.int .i64 t.q.wells, .slice Aw t.q.nw cw, .slice Af t.q.nf cf, .slice Ao t.no co, .slice Ap t.np cp, .slice As t.ns cs, .int .i64 t.far, .int .i64 t.harm, .int .i64 t.many] 62)) #[.int .i64 x.at_, .slice Ar x.sh.nr cr, .slice Af2 x.sh.nf cf2, .int .i64 x.sh.deep, .int .i64 x.sh.haul, .int .i64 x.sh.rest, .slice Ax x.fl.n cx] 71).mono (Below.refl _ _)).mono hb; simpa using this)
      clear hb hB1 HD0 HSH0 HRW0
      obtain ⟨T_0, T_1, T_2, T_3, T_4, T_5, T_6, T_7, T_8, T_l⟩ := T1.out.c9
      obtain ⟨X_0, X_1, X_2, X_3, X_4, X_5, X_6, X_l⟩ := X1.out.c7
      go_wp2_with fail
      refine (check_any Ar Af2 cr cf2 x.sh _ HSM.out.nr HSM.out.nf HSH1.out).mono ?_
      rintro e w2 ⟨rfl, hb⟩
      have hB2 : Below w1.heap.size w1 w2 := bTrans (Below.refl _ _) hb
      have HD2 := Lib.hid (bTrans HD1.out hB2)
      have HSH2 := Lib.hid (HSH1.out.mono hB2)
      have HRW2 := Lib.hid (HRW1.out.mono hB2)
      have T2 := Lib.hid (T1.out.mono hB2)
      have X2 := Lib.hid (X1.out.mono hB2)
      clear hb hB2 HD1 HSH1 HRW1 T1 T_0 T_1 T_2 T_3 T_4 T_5 T_6 T_7 T_8 T_l X1 X_0 X_1 X_2 X_3 X_4 X_5 X_6 X_l
      obtain ⟨T_0, T_1, T_2, T_3, T_4, T_5, T_6, T_7, T_8, T_l⟩ := T2.out.c9
      obtain ⟨X_0, X_1, X_2, X_3, X_4, X_5, X_6, X_l⟩ := X2.out.c7
      rw [Sh.err_bad G2.out]
      go_wp2_with fail
      go_ret
      exact ⟨by rw [HE.out]; rfl, HD2.out⟩
    · skip
      have G1 := Lib.hid g1
      clear g1
      have G2 := Lib.hid g2
      clear g2
      have g3i : ((x.fl.n : Int) == (t.q.nw : Int)) = false := by simp; omega
      have g3n : (x.fl.n == t.q.nw) = false := by simp; exact g3
      clear g3
      go_wp2_with fail
      refine (withinP_b _ _ _ _ _ G1.out).mono ?_
      rintro e w1 ⟨rfl, hb⟩
      have hB1 : Below w.heap.size w w1 := bTrans (bAlloc (bAlloc (Below.refl _ _) (.cells #[.int .i64 t.q.wells, .slice Aw t.q.nw cw, .slice Af t.q.nf cf, .slice Ao t.no co, .slice Ap t.np cp, .slice As t.ns cs, .int .i64 t.far, .int .i64 t.harm, .int .i64 t.many] 62)) (.cells #[.int .i64 x.at_, .slice Ar x.sh.nr cr, .slice Af2 x.sh.nf cf2, .int .i64 x.sh.deep, .int .i64 x.sh.haul, .int .i64 x.sh.rest, .slice Ax x.fl.n cx] 71)) hb
      have HD1 := Lib.hid (bTrans HD0.out hB1)
      have HSH1 := Lib.hid (HSH0.out.mono hB1)
      have HRW1 := Lib.hid (HRW0.out.mono hB1)
      have T1 := Lib.hid (show TBox w1 w.heap.size 62 #[.int .i64 t.q.wells, .slice Aw t.q.nw cw, .slice Af t.q.nf cf, .slice Ao t.no co, .slice Ap t.np cp, .slice As t.ns cs, .int .i64 t.far, .int .i64 t.harm, .int .i64 t.many] from by have := ((TBox.new w #[.int .i64 t.q.wells, .slice Aw t.q.nw cw, .slice Af t.q.nf cf, .slice Ao t.no co, .slice Ap t.np cp, .slice As t.ns cs, .int .i64 t.far, .int .i64 t.harm, .int .i64 t.many] 62).mono (bAlloc (Below.refl _ _) (.cells #[.int .i64 x.at_, .slice Ar x.sh.nr cr, .slice Af2 x.sh.nf cf2, .int .i64 x.sh.deep, .int .i64 x.sh.haul, .int .i64 x.sh.rest, .slice Ax x.fl.n cx] 71))).mono hb; simpa using this)
      have X1 := Lib.hid (show TBox w1 (w.heap.size + 1) 71 #[.int .i64 x.at_, .slice Ar x.sh.nr cr, .slice Af2 x.sh.nf cf2, .int .i64 x.sh.deep, .int .i64 x.sh.haul, .int .i64 x.sh.rest, .slice Ax x.fl.n cx] from by have := ((TBox.new (w.alloc (.cells #[.int .i64 t.q.wells, .slice Aw t.q.nw cw, .slice Af t.q.nf cf, .slice Ao t.no co, .slice Ap t.np cp, .slice As t.ns cs, .int .i64 t.far, .int .i64 t.harm, .int .i64 t.many] 62)) #[.int .i64 x.at_, .slice Ar x.sh.nr cr, .slice Af2 x.sh.nf cf2, .int .i64 x.sh.deep, .int .i64 x.sh.haul, .int .i64 x.sh.rest, .slice Ax x.fl.n cx] 71).mono (Below.refl _ _)).mono hb; simpa using this)
      clear hb hB1 HD0 HSH0 HRW0
      obtain ⟨T_0, T_1, T_2, T_3, T_4, T_5, T_6, T_7, T_8, T_l⟩ := T1.out.c9
      obtain ⟨X_0, X_1, X_2, X_3, X_4, X_5, X_6, X_l⟩ := X1.out.c7
      go_wp2_with fail
      refine (check_any Ar Af2 cr cf2 x.sh _ HSM.out.nr HSM.out.nf HSH1.out).mono ?_
      rintro e w2 ⟨rfl, hb⟩
      have hB2 : Below w1.heap.size w1 w2 := bTrans (Below.refl _ _) hb
      have HD2 := Lib.hid (bTrans HD1.out hB2)
      have HSH2 := Lib.hid (HSH1.out.mono hB2)
      have HRW2 := Lib.hid (HRW1.out.mono hB2)
      have T2 := Lib.hid (T1.out.mono hB2)
      have X2 := Lib.hid (X1.out.mono hB2)
      clear hb hB2 HD1 HSH1 HRW1 T1 T_0 T_1 T_2 T_3 T_4 T_5 T_6 T_7 T_8 T_l X1 X_0 X_1 X_2 X_3 X_4 X_5 X_6 X_l
      obtain ⟨T_0, T_1, T_2, T_3, T_4, T_5, T_6, T_7, T_8, T_l⟩ := T2.out.c9
      obtain ⟨X_0, X_1, X_2, X_3, X_4, X_5, X_6, X_l⟩ := X2.out.c7
      rw [Sh.err_ok G2.out]
      go_wp2_with fail
      go_ret
      exact ⟨by rw [HE.out]; rfl, HD2.out⟩
    · skip
      have G1 := Lib.hid g1
      clear g1
      have G2 := Lib.hid g2
      clear g2
      have G4 := Lib.hid g4
      have g3i : ((x.fl.n : Int) == (t.q.nw : Int)) = true := by rw [g3]; simp
      have g3n : (x.fl.n == t.q.nw) = true := by rw [g3]; simp
      clear g3 g4
      go_wp2_with fail
      refine (withinP_b _ _ _ _ _ G1.out).mono ?_
      rintro e w1 ⟨rfl, hb⟩
      have hB1 : Below w.heap.size w w1 := bTrans (bAlloc (bAlloc (Below.refl _ _) (.cells #[.int .i64 t.q.wells, .slice Aw t.q.nw cw, .slice Af t.q.nf cf, .slice Ao t.no co, .slice Ap t.np cp, .slice As t.ns cs, .int .i64 t.far, .int .i64 t.harm, .int .i64 t.many] 62)) (.cells #[.int .i64 x.at_, .slice Ar x.sh.nr cr, .slice Af2 x.sh.nf cf2, .int .i64 x.sh.deep, .int .i64 x.sh.haul, .int .i64 x.sh.rest, .slice Ax x.fl.n cx] 71)) hb
      have HD1 := Lib.hid (bTrans HD0.out hB1)
      have HSH1 := Lib.hid (HSH0.out.mono hB1)
      have HRW1 := Lib.hid (HRW0.out.mono hB1)
      have T1 := Lib.hid (show TBox w1 w.heap.size 62 #[.int .i64 t.q.wells, .slice Aw t.q.nw cw, .slice Af t.q.nf cf, .slice Ao t.no co, .slice Ap t.np cp, .slice As t.ns cs, .int .i64 t.far, .int .i64 t.harm, .int .i64 t.many] from by have := ((TBox.new w #[.int .i64 t.q.wells, .slice Aw t.q.nw cw, .slice Af t.q.nf cf, .slice Ao t.no co, .slice Ap t.np cp, .slice As t.ns cs, .int .i64 t.far, .int .i64 t.harm, .int .i64 t.many] 62).mono (bAlloc (Below.refl _ _) (.cells #[.int .i64 x.at_, .slice Ar x.sh.nr cr, .slice Af2 x.sh.nf cf2, .int .i64 x.sh.deep, .int .i64 x.sh.haul, .int .i64 x.sh.rest, .slice Ax x.fl.n cx] 71))).mono hb; simpa using this)
      have X1 := Lib.hid (show TBox w1 (w.heap.size + 1) 71 #[.int .i64 x.at_, .slice Ar x.sh.nr cr, .slice Af2 x.sh.nf cf2, .int .i64 x.sh.deep, .int .i64 x.sh.haul, .int .i64 x.sh.rest, .slice Ax x.fl.n cx] from by have := ((TBox.new (w.alloc (.cells #[.int .i64 t.q.wells, .slice Aw t.q.nw cw, .slice Af t.q.nf cf, .slice Ao t.no co, .slice Ap t.np cp, .slice As t.ns cs, .int .i64 t.far, .int .i64 t.harm, .int .i64 t.many] 62)) #[.int .i64 x.at_, .slice Ar x.sh.nr cr, .slice Af2 x.sh.nf cf2, .int .i64 x.sh.deep, .int .i64 x.sh.haul, .int .i64 x.sh.rest, .slice Ax x.fl.n cx] 71).mono (Below.refl _ _)).mono hb; simpa using this)
      clear hb hB1 HD0 HSH0 HRW0
      obtain ⟨T_0, T_1, T_2, T_3, T_4, T_5, T_6, T_7, T_8, T_l⟩ := T1.out.c9
      obtain ⟨X_0, X_1, X_2, X_3, X_4, X_5, X_6, X_l⟩ := X1.out.c7
      go_wp2_with fail
      refine (check_any Ar Af2 cr cf2 x.sh _ HSM.out.nr HSM.out.nf HSH1.out).mono ?_
      rintro e w2 ⟨rfl, hb⟩
      have hB2 : Below w1.heap.size w1 w2 := bTrans (Below.refl _ _) hb
      have HD2 := Lib.hid (bTrans HD1.out hB2)
      have HSH2 := Lib.hid (HSH1.out.mono hB2)
      have HRW2 := Lib.hid (HRW1.out.mono hB2)
      have T2 := Lib.hid (T1.out.mono hB2)
      have X2 := Lib.hid (X1.out.mono hB2)
      clear hb hB2 HD1 HSH1 HRW1 T1 T_0 T_1 T_2 T_3 T_4 T_5 T_6 T_7 T_8 T_l X1 X_0 X_1 X_2 X_3 X_4 X_5 X_6 X_l
      obtain ⟨T_0, T_1, T_2, T_3, T_4, T_5, T_6, T_7, T_8, T_l⟩ := T2.out.c9
      obtain ⟨X_0, X_1, X_2, X_3, X_4, X_5, X_6, X_l⟩ := X2.out.c7
      rw [Sh.err_ok G2.out]
      go_wp2_with fail
      refine (contains_row Ax cx 192 #[.pointer (some ⟨w.heap.size, 0, none⟩)] x.fl (fun k => !areB t.q.wells 9 (x.fl.len k) (x.fl.fall k)) _ HSM.out.n HRW2.out (enters_of Tryz.func192 (by kernel_rfl)) (fun i hi w' hb A' c' hi' => spotC_any A' (x.fl.len i) c' w.heap.size (x.fl.fall i) t.q.wells w' (HSM.out.len i hi) hi' (Nat.lt_of_lt_of_le T2.out.lt hb.size) ((T2.out.mono hb).cell 0))).mono ?_
      rintro e w3 ⟨rfl, hb⟩
      rw [G4.out]
      have hB3 : Below w2.heap.size w2 w3 := bTrans (Below.refl _ _) hb
      have HD3 := Lib.hid (bTrans HD2.out hB3)
      have HSH3 := Lib.hid (HSH2.out.mono hB3)
      have HRW3 := Lib.hid (HRW2.out.mono hB3)
      have T3 := Lib.hid (T2.out.mono hB3)
      have X3 := Lib.hid (X2.out.mono hB3)
      clear hb hB3 HD2 HSH2 HRW2 T2 T_0 T_1 T_2 T_3 T_4 T_5 T_6 T_7 T_8 T_l X2 X_0 X_1 X_2 X_3 X_4 X_5 X_6 X_l
      obtain ⟨T_0, T_1, T_2, T_3, T_4, T_5, T_6, T_7, T_8, T_l⟩ := T3.out.c9
      obtain ⟨X_0, X_1, X_2, X_3, X_4, X_5, X_6, X_l⟩ := X3.out.c7
      go_wp2_with fail
      go_ret
      exact ⟨by rw [HE.out]; rfl, HD3.out⟩
theorem checkP_cases (t : Pt) : (t.Ok ∧ t.q.Ok ∧ areB t.q.wells 99 t.no t.old = true ∧ areB t.q.wells 99 t.np t.pence = true ∧ t.ns ≤ 5 ∧ inR t.far 0 99 = true ∧ inR t.harm 0 99 = true ∧ inR t.many 0 9 = true ∧ anyB (fun i => !(t.spot i).okB t.q.nw t.q.wells) t.ns = false) ∨ (¬ t.Ok ∧ ((¬ t.q.Ok) ∨ (t.q.Ok ∧ areB t.q.wells 99 t.no t.old = false) ∨ (t.q.Ok ∧ areB t.q.wells 99 t.no t.old = true ∧ areB t.q.wells 99 t.np t.pence = false) ∨ (t.q.Ok ∧ areB t.q.wells 99 t.no t.old = true ∧ areB t.q.wells 99 t.np t.pence = true ∧ 5 < t.ns) ∨ (t.q.Ok ∧ areB t.q.wells 99 t.no t.old = true ∧ areB t.q.wells 99 t.np t.pence = true ∧ t.ns ≤ 5 ∧ inR t.far 0 99 = false) ∨ (t.q.Ok ∧ areB t.q.wells 99 t.no t.old = true ∧ areB t.q.wells 99 t.np t.pence = true ∧ t.ns ≤ 5 ∧ inR t.far 0 99 = true ∧ inR t.harm 0 99 = false) ∨ (t.q.Ok ∧ areB t.q.wells 99 t.no t.old = true ∧ areB t.q.wells 99 t.np t.pence = true ∧ t.ns ≤ 5 ∧ inR t.far 0 99 = true ∧ inR t.harm 0 99 = true ∧ inR t.many 0 9 = false) ∨ (t.q.Ok ∧ areB t.q.wells 99 t.no t.old = true ∧ areB t.q.wells 99 t.np t.pence = true ∧ t.ns ≤ 5 ∧ inR t.far 0 99 = true ∧ inR t.harm 0 99 = true ∧ inR t.many 0 9 = true ∧ anyB (fun i => !(t.spot i).okB t.q.nw t.q.wells) t.ns = true))) := by
  have hall : t.Ok → t.q.Ok ∧ areB t.q.wells 99 t.no t.old = true ∧ areB t.q.wells 99 t.np t.pence = true ∧ t.ns ≤ 5 ∧ inR t.far 0 99 = true ∧ inR t.harm 0 99 = true ∧ inR t.many 0 9 = true ∧ anyB (fun i => !(t.spot i).okB t.q.nw t.q.wells) t.ns = false := fun h => ⟨h.q, areB_iff.2 ⟨h.no, h.old⟩, areB_iff.2 ⟨h.np, h.pence⟩, h.ns, inR_t h.far, inR_t h.harm, inR_t h.many, anyB_false.2 fun i hi => by rw [Spot.okB_t (h.spot i hi)]; rfl⟩
  have hok : t.q.Ok ∧ areB t.q.wells 99 t.no t.old = true ∧ areB t.q.wells 99 t.np t.pence = true ∧ t.ns ≤ 5 ∧ inR t.far 0 99 = true ∧ inR t.harm 0 99 = true ∧ inR t.many 0 9 = true ∧ anyB (fun i => !(t.spot i).okB t.q.nw t.q.wells) t.ns = false → t.Ok := fun ⟨a, b, c, d, e, f, h, k⟩ => ⟨a, (areB_iff.1 b).1, (areB_iff.1 c).1, d, inR_iff.1 e, inR_iff.1 f, inR_iff.1 h, (areB_iff.1 b).2, (areB_iff.1 c).2, fun i hi => Spot.okB_iff.1 (by have := anyB_false.1 k i hi; simpa using this)⟩
  by_cases ht : t.Ok
  · exact .inl ⟨ht, hall ht⟩
  · refine .inr ⟨ht, ?_⟩
    by_cases h0 : t.q.Ok
    case neg => exact .inl h0
    cases h1 : areB t.q.wells 99 t.no t.old
    case false => exact .inr (.inl ⟨h0, rfl⟩)
    cases h2 : areB t.q.wells 99 t.np t.pence
    case false => exact .inr (.inr (.inl ⟨h0, rfl, rfl⟩))
    by_cases h3 : t.ns ≤ 5
    case neg => exact .inr (.inr (.inr (.inl ⟨h0, rfl, rfl, by omega⟩)))
    cases h4 : inR t.far 0 99
    case false => exact .inr (.inr (.inr (.inr (.inl ⟨h0, rfl, rfl, h3, rfl⟩))))
    cases h5 : inR t.harm 0 99
    case false => exact .inr (.inr (.inr (.inr (.inr (.inl ⟨h0, rfl, rfl, h3, rfl, rfl⟩)))))
    cases h6 : inR t.many 0 9
    case false => exact .inr (.inr (.inr (.inr (.inr (.inr (.inl ⟨h0, rfl, rfl, h3, rfl, rfl, rfl⟩))))))
    cases h7 : anyB (fun i => !(t.spot i).okB t.q.nw t.q.wells) t.ns
    case true => exact .inr (.inr (.inr (.inr (.inr (.inr (.inr ⟨h0, rfl, rfl, h3, rfl, rfl, rfl, rfl⟩))))))
    exact absurd (hok ⟨h0, h1, h2, h3, h4, h5, h6, h7⟩) ht
set_option maxHeartbeats 4000000 in
set_option maxRecDepth 100000 in
theorem spotCl_any (Aw Af Ao Ap As : Option Addr) (cw cf co cp cs : Nat) (t : Pt) (Ar Af2 Ax : Option Addr) (cr cf2 cx : Nat) (x : Spot) (a : Nat) (w : World) (hs : x.Small) (hS : ShAt w Ar Af2 x.sh) (hR : RowsAt w Ax x.fl) (hT : TBox w a 62 #[.int .i64 t.q.wells, .slice Aw t.q.nw cw, .slice Af t.q.nf cf, .slice Ao t.no co, .slice Ap t.np cp, .slice As t.ns cs, .int .i64 t.far, .int .i64 t.harm, .int .i64 t.many]) :
    Calls Tryz.prog 165 #[.agg #[.int .i64 x.at_, .slice Ar x.sh.nr cr, .slice Af2 x.sh.nf cf2, .int .i64 x.sh.deep, .int .i64 x.sh.haul, .int .i64 x.sh.rest, .slice Ax x.fl.n cx], .pointer (some ⟨a, 0, none⟩)] w fun e w' => e = .returned (.bool (!x.okB t.q.nw t.q.wells)) ∧ Below w.heap.size w w' := by
  have HD0 := Lib.hid (Below.refl w.heap.size w)
  have HSM := Lib.hid hs
  have HSH0 := Lib.hid hS
  have HRW0 := Lib.hid hR
  have HTT0 := Lib.hid hT
  clear hs hS hR hT
  go_enter Tryz.func165, Tryz.ntmps165
  have ha := HTT0.out.lt
  have T_0 := HTT0.out.cell 0
  have T_1 := HTT0.out.cell 1
  have T_2 := HTT0.out.cell 2
  have T_3 := HTT0.out.cell 3
  have T_4 := HTT0.out.cell 4
  have T_5 := HTT0.out.cell 5
  have T_6 := HTT0.out.cell 6
  have T_7 := HTT0.out.cell 7
  have T_8 := HTT0.out.cell 8
  go_wp2_with fail
  refine (isSpotP_any Aw Af Ao Ap As cw cf co cp cs t Ar Af2 Ax cr cf2 cx x _ HSM.out (HSH0.out.mono (bAlloc (Below.refl _ _) (.cells #[.int .i64 x.at_, .slice Ar x.sh.nr cr, .slice Af2 x.sh.nf cf2, .int .i64 x.sh.deep, .int .i64 x.sh.haul, .int .i64 x.sh.rest, .slice Ax x.fl.n cx] 71))) (HRW0.out.mono (bAlloc (Below.refl _ _) (.cells #[.int .i64 x.at_, .slice Ar x.sh.nr cr, .slice Af2 x.sh.nf cf2, .int .i64 x.sh.deep, .int .i64 x.sh.haul, .int .i64 x.sh.rest, .slice Ax x.fl.n cx] 71)))).mono ?_
  rintro e w1 ⟨rfl, hb⟩
  have hB1 : Below w.heap.size w w1 := bTrans (bAlloc (Below.refl _ _) (.cells #[.int .i64 x.at_, .slice Ar x.sh.nr cr, .slice Af2 x.sh.nf cf2, .int .i64 x.sh.deep, .int .i64 x.sh.haul, .int .i64 x.sh.rest, .slice Ax x.fl.n cx] 71)) hb
  have HD1 := Lib.hid (bTrans HD0.out hB1)
  have HSH1 := Lib.hid (HSH0.out.mono hB1)
  have HRW1 := Lib.hid (HRW0.out.mono hB1)
  have HTT1 := Lib.hid (HTT0.out.mono hB1)
  have X1 := Lib.hid (show TBox w1 w.heap.size 71 #[.int .i64 x.at_, .slice Ar x.sh.nr cr, .slice Af2 x.sh.nf cf2, .int .i64 x.sh.deep, .int .i64 x.sh.haul, .int .i64 x.sh.rest, .slice Ax x.fl.n cx] from by have := ((TBox.new w #[.int .i64 x.at_, .slice Ar x.sh.nr cr, .slice Af2 x.sh.nf cf2, .int .i64 x.sh.deep, .int .i64 x.sh.haul, .int .i64 x.sh.rest, .slice Ax x.fl.n cx] 71).mono (Below.refl _ _)).mono hb; simpa using this)
  clear hb hB1 HD0 HSH0 HRW0 HTT0
  obtain ⟨X_0, X_1, X_2, X_3, X_4, X_5, X_6, X_l⟩ := X1.out.c7
  go_wp2_with fail
  go_ret
  exact ⟨rfl, HD1.out⟩
set_option maxHeartbeats 8000000 in
set_option maxRecDepth 100000 in
theorem checkP_any (Aw Af Ao Ap As : Option Addr) (cw cf co cp cs : Nat) (t : Pt) (w : World) (hs : t.Small) (hT : PAt w Aw Af Ao Ap As t) :
    Calls Tryz.prog 129 #[.agg #[.int .i64 t.q.wells, .slice Aw t.q.nw cw, .slice Af t.q.nf cf, .slice Ao t.no co, .slice Ap t.np cp, .slice As t.ns cs, .int .i64 t.far, .int .i64 t.harm, .int .i64 t.many]] w fun e w' => e = .returned (.int .i64 t.err) ∧ Below w.heap.size w w' := by
  have HD0 := Lib.hid (Below.refl w.heap.size w)
  have HSM := Lib.hid hs
  have HT0 := Lib.hid hT
  clear hs hT
  go_enter Tryz.func129, Tryz.ntmps129
  rcases checkP_cases t with ⟨hok, g0, g1, g2, g3, g4, g5, g6, g7⟩ | ⟨hno, hcase⟩
  · skip
    have HE := Lib.hid (Pt.err_ok hok)
    clear hok
    have G0 := Lib.hid g0
    clear g0
    have G1 := Lib.hid g1
    clear g1
    have G2 := Lib.hid g2
    clear g2
    have g3d : decide (5 < t.ns) = false := by simp; omega
    have g3e : ¬ (5 : Int) < (t.ns : Int) := by omega
    have g3f : decide ((5 : Int) < (t.ns : Int)) = false := by simp; omega
    have G4 := Lib.hid g4
    clear g4
    have G5 := Lib.hid g5
    clear g5
    have G6 := Lib.hid g6
    clear g6
    have G7 := Lib.hid g7
    clear g7
    go_wp2_with fail
    refine (checkQ_any _ _ _ _ t.q _ HSM.out.q.1 HSM.out.q.2.1 HSM.out.q.2.2 (HT0.out.mono (bAlloc (Below.refl _ _) (.cells #[.int .i64 t.q.wells, .slice Aw t.q.nw cw, .slice Af t.q.nf cf, .slice Ao t.no co, .slice Ap t.np cp, .slice As t.ns cs, .int .i64 t.far, .int .i64 t.harm, .int .i64 t.many] 62))).q).mono ?_
    rintro e w1 ⟨rfl, hb⟩
    have hB1 : Below w.heap.size w w1 := bTrans (bAlloc (Below.refl _ _) (.cells #[.int .i64 t.q.wells, .slice Aw t.q.nw cw, .slice Af t.q.nf cf, .slice Ao t.no co, .slice Ap t.np cp, .slice As t.ns cs, .int .i64 t.far, .int .i64 t.harm, .int .i64 t.many] 62)) hb
    have HD1 := Lib.hid (bTrans HD0.out hB1)
    have HT1 := Lib.hid (HT0.out.mono hB1)
    have T1 := Lib.hid (show TBox w1 w.heap.size 62 #[.int .i64 t.q.wells, .slice Aw t.q.nw cw, .slice Af t.q.nf cf, .slice Ao t.no co, .slice Ap t.np cp, .slice As t.ns cs, .int .i64 t.far, .int .i64 t.harm, .int .i64 t.many] from by have := ((TBox.new w #[.int .i64 t.q.wells, .slice Aw t.q.nw cw, .slice Af t.q.nf cf, .slice Ao t.no co, .slice Ap t.np cp, .slice As t.ns cs, .int .i64 t.far, .int .i64 t.harm, .int .i64 t.many] 62).mono (Below.refl _ _)).mono hb; simpa using this)
    clear hb hB1 HD0 HT0
    obtain ⟨T_0, T_1, T_2, T_3, T_4, T_5, T_6, T_7, T_8, T_l⟩ := T1.out.c9
    rw [Qt.err_ok G0.out]
    go_wp2_with fail
    refine (areP_any Ao t.no co t.old t.q.wells 99 _ HSM.out.no HT1.out.old).mono ?_
    rintro e w2 ⟨rfl, hb⟩
    rw [G1.out]
    have hB2 : Below w1.heap.size w1 w2 := bTrans (Below.refl _ _) hb
    have HD2 := Lib.hid (bTrans HD1.out hB2)
    have HT2 := Lib.hid (HT1.out.mono hB2)
    have T2 := Lib.hid (T1.out.mono hB2)
    clear hb hB2 HD1 HT1 T1 T_0 T_1 T_2 T_3 T_4 T_5 T_6 T_7 T_8 T_l
    obtain ⟨T_0, T_1, T_2, T_3, T_4, T_5, T_6, T_7, T_8, T_l⟩ := T2.out.c9
    go_wp2_with fail
    refine (areP_any Ap t.np cp t.pence t.q.wells 99 _ HSM.out.np HT2.out.pence).mono ?_
    rintro e w3 ⟨rfl, hb⟩
    rw [G2.out]
    have hB3 : Below w2.heap.size w2 w3 := bTrans (Below.refl _ _) hb
    have HD3 := Lib.hid (bTrans HD2.out hB3)
    have HT3 := Lib.hid (HT2.out.mono hB3)
    have T3 := Lib.hid (T2.out.mono hB3)
    clear hb hB3 HD2 HT2 T2 T_0 T_1 T_2 T_3 T_4 T_5 T_6 T_7 T_8 T_l
    obtain ⟨T_0, T_1, T_2, T_3, T_4, T_5, T_6, T_7, T_8, T_l⟩ := T3.out.c9
    go_wp2_with fail
    refine (withinP_b _ _ _ _ _ G4.out).mono ?_
    rintro e w4 ⟨rfl, hb⟩
    have hB4 : Below w3.heap.size w3 w4 := bTrans (Below.refl _ _) hb
    have HD4 := Lib.hid (bTrans HD3.out hB4)
    have HT4 := Lib.hid (HT3.out.mono hB4)
    have T4 := Lib.hid (T3.out.mono hB4)
    clear hb hB4 HD3 HT3 T3 T_0 T_1 T_2 T_3 T_4 T_5 T_6 T_7 T_8 T_l
    obtain ⟨T_0, T_1, T_2, T_3, T_4, T_5, T_6, T_7, T_8, T_l⟩ := T4.out.c9
    go_wp2_with fail
    refine (withinP_b _ _ _ _ _ G5.out).mono ?_
    rintro e w5 ⟨rfl, hb⟩
    have hB5 : Below w4.heap.size w4 w5 := bTrans (Below.refl _ _) hb
    have HD5 := Lib.hid (bTrans HD4.out hB5)
    have HT5 := Lib.hid (HT4.out.mono hB5)
    have T5 := Lib.hid (T4.out.mono hB5)
    clear hb hB5 HD4 HT4 T4 T_0 T_1 T_2 T_3 T_4 T_5 T_6 T_7 T_8 T_l
    obtain ⟨T_0, T_1, T_2, T_3, T_4, T_5, T_6, T_7, T_8, T_l⟩ := T5.out.c9
    go_wp2_with fail
    refine (withinP_b _ _ _ _ _ G6.out).mono ?_
    rintro e w6 ⟨rfl, hb⟩
    have hB6 : Below w5.heap.size w5 w6 := bTrans (Below.refl _ _) hb
    have HD6 := Lib.hid (bTrans HD5.out hB6)
    have HT6 := Lib.hid (HT5.out.mono hB6)
    have T6 := Lib.hid (T5.out.mono hB6)
    clear hb hB6 HD5 HT5 T5 T_0 T_1 T_2 T_3 T_4 T_5 T_6 T_7 T_8 T_l
    obtain ⟨T_0, T_1, T_2, T_3, T_4, T_5, T_6, T_7, T_8, T_l⟩ := T6.out.c9
    go_wp2_with fail
    refine (contains_spot As t.ns cs 165 #[.pointer (some ⟨w.heap.size, 0, none⟩)] t.spot (fun i => !(t.spot i).okB t.q.nw t.q.wells) _ HSM.out.ns HT6.out.spots (enters_of Tryz.func165 (by kernel_rfl)) (fun i hi w' hb Ar Af2 Ax cr cf2 cx hsh hfl => spotCl_any Aw Af Ao Ap As cw cf co cp cs t Ar Af2 Ax cr cf2 cx (t.spot i) w.heap.size w' (HSM.out.spot i hi) hsh hfl (T6.out.mono hb))).mono ?_
    rintro e w7 ⟨rfl, hb⟩
    rw [G7.out]
    have hB7 : Below w6.heap.size w6 w7 := bTrans (Below.refl _ _) hb
    have HD7 := Lib.hid (bTrans HD6.out hB7)
    have HT7 := Lib.hid (HT6.out.mono hB7)
    have T7 := Lib.hid (T6.out.mono hB7)
    clear hb hB7 HD6 HT6 T6 T_0 T_1 T_2 T_3 T_4 T_5 T_6 T_7 T_8 T_l
    obtain ⟨T_0, T_1, T_2, T_3, T_4, T_5, T_6, T_7, T_8, T_l⟩ := T7.out.c9
    go_wp2_with fail
    go_ret
    exact ⟨by rw [HE.out]; rfl, HD7.out⟩
  · skip
    have HE := Lib.hid (Pt.err_bad hno)
    clear hno
    rcases hcase with g0 | ⟨g0, g1⟩ | ⟨g0, g1, g2⟩ | ⟨g0, g1, g2, g3⟩ | ⟨g0, g1, g2, g3, g4⟩ | ⟨g0, g1, g2, g3, g4, g5⟩ | ⟨g0, g1, g2, g3, g4, g5, g6⟩ | ⟨g0, g1, g2, g3, g4, g5, g6, g7⟩
    · skip
      have G0 := Lib.hid g0
      clear g0
      go_wp2_with fail
      refine (checkQ_any _ _ _ _ t.q _ HSM.out.q.1 HSM.out.q.2.1 HSM.out.q.2.2 (HT0.out.mono (bAlloc (Below.refl _ _) (.cells #[.int .i64 t.q.wells, .slice Aw t.q.nw cw, .slice Af t.q.nf cf, .slice Ao t.no co, .slice Ap t.np cp, .slice As t.ns cs, .int .i64 t.far, .int .i64 t.harm, .int .i64 t.many] 62))).q).mono ?_
      rintro e w1 ⟨rfl, hb⟩
      have hB1 : Below w.heap.size w w1 := bTrans (bAlloc (Below.refl _ _) (.cells #[.int .i64 t.q.wells, .slice Aw t.q.nw cw, .slice Af t.q.nf cf, .slice Ao t.no co, .slice Ap t.np cp, .slice As t.ns cs, .int .i64 t.far, .int .i64 t.harm, .int .i64 t.many] 62)) hb
      have HD1 := Lib.hid (bTrans HD0.out hB1)
      have HT1 := Lib.hid (HT0.out.mono hB1)
      have T1 := Lib.hid (show TBox w1 w.heap.size 62 #[.int .i64 t.q.wells, .slice Aw t.q.nw cw, .slice Af t.q.nf cf, .slice Ao t.no co, .slice Ap t.np cp, .slice As t.ns cs, .int .i64 t.far, .int .i64 t.harm, .int .i64 t.many] from by have := ((TBox.new w #[.int .i64 t.q.wells, .slice Aw t.q.nw cw, .slice Af t.q.nf cf, .slice Ao t.no co, .slice Ap t.np cp, .slice As t.ns cs, .int .i64 t.far, .int .i64 t.harm, .int .i64 t.many] 62).mono (Below.refl _ _)).mono hb; simpa using this)
      clear hb hB1 HD0 HT0
      obtain ⟨T_0, T_1, T_2, T_3, T_4, T_5, T_6, T_7, T_8, T_l⟩ := T1.out.c9
      rw [Qt.err_bad G0.out]
      go_wp2_with fail
      go_ret
      exact ⟨by rw [HE.out]; rfl, HD1.out⟩
    · skip
      have G0 := Lib.hid g0
      clear g0
      have G1 := Lib.hid g1
      clear g1
      go_wp2_with fail
      refine (checkQ_any _ _ _ _ t.q _ HSM.out.q.1 HSM.out.q.2.1 HSM.out.q.2.2 (HT0.out.mono (bAlloc (Below.refl _ _) (.cells #[.int .i64 t.q.wells, .slice Aw t.q.nw cw, .slice Af t.q.nf cf, .slice Ao t.no co, .slice Ap t.np cp, .slice As t.ns cs, .int .i64 t.far, .int .i64 t.harm, .int .i64 t.many] 62))).q).mono ?_
      rintro e w1 ⟨rfl, hb⟩
      have hB1 : Below w.heap.size w w1 := bTrans (bAlloc (Below.refl _ _) (.cells #[.int .i64 t.q.wells, .slice Aw t.q.nw cw, .slice Af t.q.nf cf, .slice Ao t.no co, .slice Ap t.np cp, .slice As t.ns cs, .int .i64 t.far, .int .i64 t.harm, .int .i64 t.many] 62)) hb
      have HD1 := Lib.hid (bTrans HD0.out hB1)
      have HT1 := Lib.hid (HT0.out.mono hB1)
      have T1 := Lib.hid (show TBox w1 w.heap.size 62 #[.int .i64 t.q.wells, .slice Aw t.q.nw cw, .slice Af t.q.nf cf, .slice Ao t.no co, .slice Ap t.np cp, .slice As t.ns cs, .int .i64 t.far, .int .i64 t.harm, .int .i64 t.many] from by have := ((TBox.new w #[.int .i64 t.q.wells, .slice Aw t.q.nw cw, .slice Af t.q.nf cf, .slice Ao t.no co, .slice Ap t.np cp, .slice As t.ns cs, .int .i64 t.far, .int .i64 t.harm, .int .i64 t.many] 62).mono (Below.refl _ _)).mono hb; simpa using this)
      clear hb hB1 HD0 HT0
      obtain ⟨T_0, T_1, T_2, T_3, T_4, T_5, T_6, T_7, T_8, T_l⟩ := T1.out.c9
      rw [Qt.err_ok G0.out]
      go_wp2_with fail
      refine (areP_any Ao t.no co t.old t.q.wells 99 _ HSM.out.no HT1.out.old).mono ?_
      rintro e w2 ⟨rfl, hb⟩
      rw [G1.out]
      have hB2 : Below w1.heap.size w1 w2 := bTrans (Below.refl _ _) hb
      have HD2 := Lib.hid (bTrans HD1.out hB2)
      have HT2 := Lib.hid (HT1.out.mono hB2)
      have T2 := Lib.hid (T1.out.mono hB2)
      clear hb hB2 HD1 HT1 T1 T_0 T_1 T_2 T_3 T_4 T_5 T_6 T_7 T_8 T_l
      obtain ⟨T_0, T_1, T_2, T_3, T_4, T_5, T_6, T_7, T_8, T_l⟩ := T2.out.c9
      go_wp2_with fail
      go_ret
      exact ⟨by rw [HE.out]; rfl, HD2.out⟩
    · skip
      have G0 := Lib.hid g0
      clear g0
      have G1 := Lib.hid g1
      clear g1
      have G2 := Lib.hid g2
      clear g2
      go_wp2_with fail
      refine (checkQ_any _ _ _ _ t.q _ HSM.out.q.1 HSM.out.q.2.1 HSM.out.q.2.2 (HT0.out.mono (bAlloc (Below.refl _ _) (.cells #[.int .i64 t.q.wells, .slice Aw t.q.nw cw, .slice Af t.q.nf cf, .slice Ao t.no co, .slice Ap t.np cp, .slice As t.ns cs, .int .i64 t.far, .int .i64 t.harm, .int .i64 t.many] 62))).q).mono ?_
      rintro e w1 ⟨rfl, hb⟩
      have hB1 : Below w.heap.size w w1 := bTrans (bAlloc (Below.refl _ _) (.cells #[.int .i64 t.q.wells, .slice Aw t.q.nw cw, .slice Af t.q.nf cf, .slice Ao t.no co, .slice Ap t.np cp, .slice As t.ns cs, .int .i64 t.far, .int .i64 t.harm, .int .i64 t.many] 62)) hb
      have HD1 := Lib.hid (bTrans HD0.out hB1)
      have HT1 := Lib.hid (HT0.out.mono hB1)
      have T1 := Lib.hid (show TBox w1 w.heap.size 62 #[.int .i64 t.q.wells, .slice Aw t.q.nw cw, .slice Af t.q.nf cf, .slice Ao t.no co, .slice Ap t.np cp, .slice As t.ns cs, .int .i64 t.far, .int .i64 t.harm, .int .i64 t.many] from by have := ((TBox.new w #[.int .i64 t.q.wells, .slice Aw t.q.nw cw, .slice Af t.q.nf cf, .slice Ao t.no co, .slice Ap t.np cp, .slice As t.ns cs, .int .i64 t.far, .int .i64 t.harm, .int .i64 t.many] 62).mono (Below.refl _ _)).mono hb; simpa using this)
      clear hb hB1 HD0 HT0
      obtain ⟨T_0, T_1, T_2, T_3, T_4, T_5, T_6, T_7, T_8, T_l⟩ := T1.out.c9
      rw [Qt.err_ok G0.out]
      go_wp2_with fail
      refine (areP_any Ao t.no co t.old t.q.wells 99 _ HSM.out.no HT1.out.old).mono ?_
      rintro e w2 ⟨rfl, hb⟩
      rw [G1.out]
      have hB2 : Below w1.heap.size w1 w2 := bTrans (Below.refl _ _) hb
      have HD2 := Lib.hid (bTrans HD1.out hB2)
      have HT2 := Lib.hid (HT1.out.mono hB2)
      have T2 := Lib.hid (T1.out.mono hB2)
      clear hb hB2 HD1 HT1 T1 T_0 T_1 T_2 T_3 T_4 T_5 T_6 T_7 T_8 T_l
      obtain ⟨T_0, T_1, T_2, T_3, T_4, T_5, T_6, T_7, T_8, T_l⟩ := T2.out.c9
      go_wp2_with fail
      refine (areP_any Ap t.np cp t.pence t.q.wells 99 _ HSM.out.np HT2.out.pence).mono ?_
      rintro e w3 ⟨rfl, hb⟩
      rw [G2.out]
      have hB3 : Below w2.heap.size w2 w3 := bTrans (Below.refl _ _) hb
      have HD3 := Lib.hid (bTrans HD2.out hB3)
      have HT3 := Lib.hid (HT2.out.mono hB3)
      have T3 := Lib.hid (T2.out.mono hB3)
      clear hb hB3 HD2 HT2 T2 T_0 T_1 T_2 T_3 T_4 T_5 T_6 T_7 T_8 T_l
      obtain ⟨T_0, T_1, T_2, T_3, T_4, T_5, T_6, T_7, T_8, T_l⟩ := T3.out.c9
      go_wp2_with fail
      go_ret
      exact ⟨by rw [HE.out]; rfl, HD3.out⟩
    · skip
      have G0 := Lib.hid g0
      clear g0
      have G1 := Lib.hid g1
      clear g1
      have G2 := Lib.hid g2
      clear g2
      have g3d : decide (5 < t.ns) = true := by simp; omega
      have g3f : decide ((5 : Int) < (t.ns : Int)) = true := by simp; omega
      go_wp2_with fail
      refine (checkQ_any _ _ _ _ t.q _ HSM.out.q.1 HSM.out.q.2.1 HSM.out.q.2.2 (HT0.out.mono (bAlloc (Below.refl _ _) (.cells #[.int .i64 t.q.wells, .slice Aw t.q.nw cw, .slice Af t.q.nf cf, .slice Ao t.no co, .slice Ap t.np cp, .slice As t.ns cs, .int .i64 t.far, .int .i64 t.harm, .int .i64 t.many] 62))).q).mono ?_
      rintro e w1 ⟨rfl, hb⟩
      have hB1 : Below w.heap.size w w1 := bTrans (bAlloc (Below.refl _ _) (.cells #[.int .i64 t.q.wells, .slice Aw t.q.nw cw, .slice Af t.q.nf cf, .slice Ao t.no co, .slice Ap t.np cp, .slice As t.ns cs, .int .i64 t.far, .int .i64 t.harm, .int .i64 t.many] 62)) hb
      have HD1 := Lib.hid (bTrans HD0.out hB1)
      have HT1 := Lib.hid (HT0.out.mono hB1)
      have T1 := Lib.hid (show TBox w1 w.heap.size 62 #[.int .i64 t.q.wells, .slice Aw t.q.nw cw, .slice Af t.q.nf cf, .slice Ao t.no co, .slice Ap t.np cp, .slice As t.ns cs, .int .i64 t.far, .int .i64 t.harm, .int .i64 t.many] from by have := ((TBox.new w #[.int .i64 t.q.wells, .slice Aw t.q.nw cw, .slice Af t.q.nf cf, .slice Ao t.no co, .slice Ap t.np cp, .slice As t.ns cs, .int .i64 t.far, .int .i64 t.harm, .int .i64 t.many] 62).mono (Below.refl _ _)).mono hb; simpa using this)
      clear hb hB1 HD0 HT0
      obtain ⟨T_0, T_1, T_2, T_3, T_4, T_5, T_6, T_7, T_8, T_l⟩ := T1.out.c9
      rw [Qt.err_ok G0.out]
      go_wp2_with fail
      refine (areP_any Ao t.no co t.old t.q.wells 99 _ HSM.out.no HT1.out.old).mono ?_
      rintro e w2 ⟨rfl, hb⟩
      rw [G1.out]
      have hB2 : Below w1.heap.size w1 w2 := bTrans (Below.refl _ _) hb
      have HD2 := Lib.hid (bTrans HD1.out hB2)
      have HT2 := Lib.hid (HT1.out.mono hB2)
      have T2 := Lib.hid (T1.out.mono hB2)
      clear hb hB2 HD1 HT1 T1 T_0 T_1 T_2 T_3 T_4 T_5 T_6 T_7 T_8 T_l
      obtain ⟨T_0, T_1, T_2, T_3, T_4, T_5, T_6, T_7, T_8, T_l⟩ := T2.out.c9
      go_wp2_with fail
      refine (areP_any Ap t.np cp t.pence t.q.wells 99 _ HSM.out.np HT2.out.pence).mono ?_
      rintro e w3 ⟨rfl, hb⟩
      rw [G2.out]
      have hB3 : Below w2.heap.size w2 w3 := bTrans (Below.refl _ _) hb
      have HD3 := Lib.hid (bTrans HD2.out hB3)
      have HT3 := Lib.hid (HT2.out.mono hB3)
      have T3 := Lib.hid (T2.out.mono hB3)
      clear hb hB3 HD2 HT2 T2 T_0 T_1 T_2 T_3 T_4 T_5 T_6 T_7 T_8 T_l
      obtain ⟨T_0, T_1, T_2, T_3, T_4, T_5, T_6, T_7, T_8, T_l⟩ := T3.out.c9
      go_wp2_with fail
      go_ret
      exact ⟨by rw [HE.out]; rfl, HD3.out⟩
    · skip
      have G0 := Lib.hid g0
      clear g0
      have G1 := Lib.hid g1
      clear g1
      have G2 := Lib.hid g2
      clear g2
      have g3d : decide (5 < t.ns) = false := by simp; omega
      have g3e : ¬ (5 : Int) < (t.ns : Int) := by omega
      have g3f : decide ((5 : Int) < (t.ns : Int)) = false := by simp; omega
      have G4 := Lib.hid g4
      clear g4
      go_wp2_with fail
      refine (checkQ_any _ _ _ _ t.q _ HSM.out.q.1 HSM.out.q.2.1 HSM.out.q.2.2 (HT0.out.mono (bAlloc (Below.refl _ _) (.cells #[.int .i64 t.q.wells, .slice Aw t.q.nw cw, .slice Af t.q.nf cf, .slice Ao t.no co, .slice Ap t.np cp, .slice As t.ns cs, .int .i64 t.far, .int .i64 t.harm, .int .i64 t.many] 62))).q).mono ?_
      rintro e w1 ⟨rfl, hb⟩
      have hB1 : Below w.heap.size w w1 := bTrans (bAlloc (Below.refl _ _) (.cells #[.int .i64 t.q.wells, .slice Aw t.q.nw cw, .slice Af t.q.nf cf, .slice Ao t.no co, .slice Ap t.np cp, .slice As t.ns cs, .int .i64 t.far, .int .i64 t.harm, .int .i64 t.many] 62)) hb
      have HD1 := Lib.hid (bTrans HD0.out hB1)
      have HT1 := Lib.hid (HT0.out.mono hB1)
      have T1 := Lib.hid (show TBox w1 w.heap.size 62 #[.int .i64 t.q.wells, .slice Aw t.q.nw cw, .slice Af t.q.nf cf, .slice Ao t.no co, .slice Ap t.np cp, .slice As t.ns cs, .int .i64 t.far, .int .i64 t.harm, .int .i64 t.many] from by have := ((TBox.new w #[.int .i64 t.q.wells, .slice Aw t.q.nw cw, .slice Af t.q.nf cf, .slice Ao t.no co, .slice Ap t.np cp, .slice As t.ns cs, .int .i64 t.far, .int .i64 t.harm, .int .i64 t.many] 62).mono (Below.refl _ _)).mono hb; simpa using this)
      clear hb hB1 HD0 HT0
      obtain ⟨T_0, T_1, T_2, T_3, T_4, T_5, T_6, T_7, T_8, T_l⟩ := T1.out.c9
      rw [Qt.err_ok G0.out]
      go_wp2_with fail
      refine (areP_any Ao t.no co t.old t.q.wells 99 _ HSM.out.no HT1.out.old).mono ?_
      rintro e w2 ⟨rfl, hb⟩
      rw [G1.out]
      have hB2 : Below w1.heap.size w1 w2 := bTrans (Below.refl _ _) hb
      have HD2 := Lib.hid (bTrans HD1.out hB2)
      have HT2 := Lib.hid (HT1.out.mono hB2)
      have T2 := Lib.hid (T1.out.mono hB2)
      clear hb hB2 HD1 HT1 T1 T_0 T_1 T_2 T_3 T_4 T_5 T_6 T_7 T_8 T_l
      obtain ⟨T_0, T_1, T_2, T_3, T_4, T_5, T_6, T_7, T_8, T_l⟩ := T2.out.c9
      go_wp2_with fail
      refine (areP_any Ap t.np cp t.pence t.q.wells 99 _ HSM.out.np HT2.out.pence).mono ?_
      rintro e w3 ⟨rfl, hb⟩
      rw [G2.out]
      have hB3 : Below w2.heap.size w2 w3 := bTrans (Below.refl _ _) hb
      have HD3 := Lib.hid (bTrans HD2.out hB3)
      have HT3 := Lib.hid (HT2.out.mono hB3)
      have T3 := Lib.hid (T2.out.mono hB3)
      clear hb hB3 HD2 HT2 T2 T_0 T_1 T_2 T_3 T_4 T_5 T_6 T_7 T_8 T_l
      obtain ⟨T_0, T_1, T_2, T_3, T_4, T_5, T_6, T_7, T_8, T_l⟩ := T3.out.c9
      go_wp2_with fail
      refine (withinP_b _ _ _ _ _ G4.out).mono ?_
      rintro e w4 ⟨rfl, hb⟩
      have hB4 : Below w3.heap.size w3 w4 := bTrans (Below.refl _ _) hb
      have HD4 := Lib.hid (bTrans HD3.out hB4)
      have HT4 := Lib.hid (HT3.out.mono hB4)
      have T4 := Lib.hid (T3.out.mono hB4)
      clear hb hB4 HD3 HT3 T3 T_0 T_1 T_2 T_3 T_4 T_5 T_6 T_7 T_8 T_l
      obtain ⟨T_0, T_1, T_2, T_3, T_4, T_5, T_6, T_7, T_8, T_l⟩ := T4.out.c9
      go_wp2_with fail
      go_ret
      exact ⟨by rw [HE.out]; rfl, HD4.out⟩
    · skip
      have G0 := Lib.hid g0
      clear g0
      have G1 := Lib.hid g1
      clear g1
      have G2 := Lib.hid g2
      clear g2
      have g3d : decide (5 < t.ns) = false := by simp; omega
      have g3e : ¬ (5 : Int) < (t.ns : Int) := by omega
      have g3f : decide ((5 : Int) < (t.ns : Int)) = false := by simp; omega
      have G4 := Lib.hid g4
      clear g4
      have G5 := Lib.hid g5
      clear g5
      go_wp2_with fail
      refine (checkQ_any _ _ _ _ t.q _ HSM.out.q.1 HSM.out.q.2.1 HSM.out.q.2.2 (HT0.out.mono (bAlloc (Below.refl _ _) (.cells #[.int .i64 t.q.wells, .slice Aw t.q.nw cw, .slice Af t.q.nf cf, .slice Ao t.no co, .slice Ap t.np cp, .slice As t.ns cs, .int .i64 t.far, .int .i64 t.harm, .int .i64 t.many] 62))).q).mono ?_
      rintro e w1 ⟨rfl, hb⟩
      have hB1 : Below w.heap.size w w1 := bTrans (bAlloc (Below.refl _ _) (.cells #[.int .i64 t.q.wells, .slice Aw t.q.nw cw, .slice Af t.q.nf cf, .slice Ao t.no co, .slice Ap t.np cp, .slice As t.ns cs, .int .i64 t.far, .int .i64 t.harm, .int .i64 t.many] 62)) hb
      have HD1 := Lib.hid (bTrans HD0.out hB1)
      have HT1 := Lib.hid (HT0.out.mono hB1)
      have T1 := Lib.hid (show TBox w1 w.heap.size 62 #[.int .i64 t.q.wells, .slice Aw t.q.nw cw, .slice Af t.q.nf cf, .slice Ao t.no co, .slice Ap t.np cp, .slice As t.ns cs, .int .i64 t.far, .int .i64 t.harm, .int .i64 t.many] from by have := ((TBox.new w #[.int .i64 t.q.wells, .slice Aw t.q.nw cw, .slice Af t.q.nf cf, .slice Ao t.no co, .slice Ap t.np cp, .slice As t.ns cs, .int .i64 t.far, .int .i64 t.harm, .int .i64 t.many] 62).mono (Below.refl _ _)).mono hb; simpa using this)
      clear hb hB1 HD0 HT0
      obtain ⟨T_0, T_1, T_2, T_3, T_4, T_5, T_6, T_7, T_8, T_l⟩ := T1.out.c9
      rw [Qt.err_ok G0.out]
      go_wp2_with fail
      refine (areP_any Ao t.no co t.old t.q.wells 99 _ HSM.out.no HT1.out.old).mono ?_
      rintro e w2 ⟨rfl, hb⟩
      rw [G1.out]
      have hB2 : Below w1.heap.size w1 w2 := bTrans (Below.refl _ _) hb
      have HD2 := Lib.hid (bTrans HD1.out hB2)
      have HT2 := Lib.hid (HT1.out.mono hB2)
      have T2 := Lib.hid (T1.out.mono hB2)
      clear hb hB2 HD1 HT1 T1 T_0 T_1 T_2 T_3 T_4 T_5 T_6 T_7 T_8 T_l
      obtain ⟨T_0, T_1, T_2, T_3, T_4, T_5, T_6, T_7, T_8, T_l⟩ := T2.out.c9
      go_wp2_with fail
      refine (areP_any Ap t.np cp t.pence t.q.wells 99 _ HSM.out.np HT2.out.pence).mono ?_
      rintro e w3 ⟨rfl, hb⟩
      rw [G2.out]
      have hB3 : Below w2.heap.size w2 w3 := bTrans (Below.refl _ _) hb
      have HD3 := Lib.hid (bTrans HD2.out hB3)
      have HT3 := Lib.hid (HT2.out.mono hB3)
      have T3 := Lib.hid (T2.out.mono hB3)
      clear hb hB3 HD2 HT2 T2 T_0 T_1 T_2 T_3 T_4 T_5 T_6 T_7 T_8 T_l
      obtain ⟨T_0, T_1, T_2, T_3, T_4, T_5, T_6, T_7, T_8, T_l⟩ := T3.out.c9
      go_wp2_with fail
      refine (withinP_b _ _ _ _ _ G4.out).mono ?_
      rintro e w4 ⟨rfl, hb⟩
      have hB4 : Below w3.heap.size w3 w4 := bTrans (Below.refl _ _) hb
      have HD4 := Lib.hid (bTrans HD3.out hB4)
      have HT4 := Lib.hid (HT3.out.mono hB4)
      have T4 := Lib.hid (T3.out.mono hB4)
      clear hb hB4 HD3 HT3 T3 T_0 T_1 T_2 T_3 T_4 T_5 T_6 T_7 T_8 T_l
      obtain ⟨T_0, T_1, T_2, T_3, T_4, T_5, T_6, T_7, T_8, T_l⟩ := T4.out.c9
      go_wp2_with fail
      refine (withinP_b _ _ _ _ _ G5.out).mono ?_
      rintro e w5 ⟨rfl, hb⟩
      have hB5 : Below w4.heap.size w4 w5 := bTrans (Below.refl _ _) hb
      have HD5 := Lib.hid (bTrans HD4.out hB5)
      have HT5 := Lib.hid (HT4.out.mono hB5)
      have T5 := Lib.hid (T4.out.mono hB5)
      clear hb hB5 HD4 HT4 T4 T_0 T_1 T_2 T_3 T_4 T_5 T_6 T_7 T_8 T_l
      obtain ⟨T_0, T_1, T_2, T_3, T_4, T_5, T_6, T_7, T_8, T_l⟩ := T5.out.c9
      go_wp2_with fail
      go_ret
      exact ⟨by rw [HE.out]; rfl, HD5.out⟩
    · skip
      have G0 := Lib.hid g0
      clear g0
      have G1 := Lib.hid g1
      clear g1
      have G2 := Lib.hid g2
      clear g2
      have g3d : decide (5 < t.ns) = false := by simp; omega
      have g3e : ¬ (5 : Int) < (t.ns : Int) := by omega
      have g3f : decide ((5 : Int) < (t.ns : Int)) = false := by simp; omega
      have G4 := Lib.hid g4
      clear g4
      have G5 := Lib.hid g5
      clear g5
      have G6 := Lib.hid g6
      clear g6
      go_wp2_with fail
      refine (checkQ_any _ _ _ _ t.q _ HSM.out.q.1 HSM.out.q.2.1 HSM.out.q.2.2 (HT0.out.mono (bAlloc (Below.refl _ _) (.cells #[.int .i64 t.q.wells, .slice Aw t.q.nw cw, .slice Af t.q.nf cf, .slice Ao t.no co, .slice Ap t.np cp, .slice As t.ns cs, .int .i64 t.far, .int .i64 t.harm, .int .i64 t.many] 62))).q).mono ?_
      rintro e w1 ⟨rfl, hb⟩
      have hB1 : Below w.heap.size w w1 := bTrans (bAlloc (Below.refl _ _) (.cells #[.int .i64 t.q.wells, .slice Aw t.q.nw cw, .slice Af t.q.nf cf, .slice Ao t.no co, .slice Ap t.np cp, .slice As t.ns cs, .int .i64 t.far, .int .i64 t.harm, .int .i64 t.many] 62)) hb
      have HD1 := Lib.hid (bTrans HD0.out hB1)
      have HT1 := Lib.hid (HT0.out.mono hB1)
      have T1 := Lib.hid (show TBox w1 w.heap.size 62 #[.int .i64 t.q.wells, .slice Aw t.q.nw cw, .slice Af t.q.nf cf, .slice Ao t.no co, .slice Ap t.np cp, .slice As t.ns cs, .int .i64 t.far, .int .i64 t.harm, .int .i64 t.many] from by have := ((TBox.new w #[.int .i64 t.q.wells, .slice Aw t.q.nw cw, .slice Af t.q.nf cf, .slice Ao t.no co, .slice Ap t.np cp, .slice As t.ns cs, .int .i64 t.far, .int .i64 t.harm, .int .i64 t.many] 62).mono (Below.refl _ _)).mono hb; simpa using this)
      clear hb hB1 HD0 HT0
      obtain ⟨T_0, T_1, T_2, T_3, T_4, T_5, T_6, T_7, T_8, T_l⟩ := T1.out.c9
      rw [Qt.err_ok G0.out]
      go_wp2_with fail
      refine (areP_any Ao t.no co t.old t.q.wells 99 _ HSM.out.no HT1.out.old).mono ?_
      rintro e w2 ⟨rfl, hb⟩
      rw [G1.out]
      have hB2 : Below w1.heap.size w1 w2 := bTrans (Below.refl _ _) hb
      have HD2 := Lib.hid (bTrans HD1.out hB2)
      have HT2 := Lib.hid (HT1.out.mono hB2)
      have T2 := Lib.hid (T1.out.mono hB2)
      clear hb hB2 HD1 HT1 T1 T_0 T_1 T_2 T_3 T_4 T_5 T_6 T_7 T_8 T_l
      obtain ⟨T_0, T_1, T_2, T_3, T_4, T_5, T_6, T_7, T_8, T_l⟩ := T2.out.c9
      go_wp2_with fail
      refine (areP_any Ap t.np cp t.pence t.q.wells 99 _ HSM.out.np HT2.out.pence).mono ?_
      rintro e w3 ⟨rfl, hb⟩
      rw [G2.out]
      have hB3 : Below w2.heap.size w2 w3 := bTrans (Below.refl _ _) hb
      have HD3 := Lib.hid (bTrans HD2.out hB3)
      have HT3 := Lib.hid (HT2.out.mono hB3)
      have T3 := Lib.hid (T2.out.mono hB3)
      clear hb hB3 HD2 HT2 T2 T_0 T_1 T_2 T_3 T_4 T_5 T_6 T_7 T_8 T_l
      obtain ⟨T_0, T_1, T_2, T_3, T_4, T_5, T_6, T_7, T_8, T_l⟩ := T3.out.c9
      go_wp2_with fail
      refine (withinP_b _ _ _ _ _ G4.out).mono ?_
      rintro e w4 ⟨rfl, hb⟩
      have hB4 : Below w3.heap.size w3 w4 := bTrans (Below.refl _ _) hb
      have HD4 := Lib.hid (bTrans HD3.out hB4)
      have HT4 := Lib.hid (HT3.out.mono hB4)
      have T4 := Lib.hid (T3.out.mono hB4)
      clear hb hB4 HD3 HT3 T3 T_0 T_1 T_2 T_3 T_4 T_5 T_6 T_7 T_8 T_l
      obtain ⟨T_0, T_1, T_2, T_3, T_4, T_5, T_6, T_7, T_8, T_l⟩ := T4.out.c9
      go_wp2_with fail
      refine (withinP_b _ _ _ _ _ G5.out).mono ?_
      rintro e w5 ⟨rfl, hb⟩
      have hB5 : Below w4.heap.size w4 w5 := bTrans (Below.refl _ _) hb
      have HD5 := Lib.hid (bTrans HD4.out hB5)
      have HT5 := Lib.hid (HT4.out.mono hB5)
      have T5 := Lib.hid (T4.out.mono hB5)
      clear hb hB5 HD4 HT4 T4 T_0 T_1 T_2 T_3 T_4 T_5 T_6 T_7 T_8 T_l
      obtain ⟨T_0, T_1, T_2, T_3, T_4, T_5, T_6, T_7, T_8, T_l⟩ := T5.out.c9
      go_wp2_with fail
      refine (withinP_b _ _ _ _ _ G6.out).mono ?_
      rintro e w6 ⟨rfl, hb⟩
      have hB6 : Below w5.heap.size w5 w6 := bTrans (Below.refl _ _) hb
      have HD6 := Lib.hid (bTrans HD5.out hB6)
      have HT6 := Lib.hid (HT5.out.mono hB6)
      have T6 := Lib.hid (T5.out.mono hB6)
      clear hb hB6 HD5 HT5 T5 T_0 T_1 T_2 T_3 T_4 T_5 T_6 T_7 T_8 T_l
      obtain ⟨T_0, T_1, T_2, T_3, T_4, T_5, T_6, T_7, T_8, T_l⟩ := T6.out.c9
      go_wp2_with fail
      go_ret
      exact ⟨by rw [HE.out]; rfl, HD6.out⟩
    · skip
      have G0 := Lib.hid g0
      clear g0
      have G1 := Lib.hid g1
      clear g1
      have G2 := Lib.hid g2
      clear g2
      have g3d : decide (5 < t.ns) = false := by simp; omega
      have g3e : ¬ (5 : Int) < (t.ns : Int) := by omega
      have g3f : decide ((5 : Int) < (t.ns : Int)) = false := by simp; omega
      have G4 := Lib.hid g4
      clear g4
      have G5 := Lib.hid g5
      clear g5
      have G6 := Lib.hid g6
      clear g6
      have G7 := Lib.hid g7
      clear g7
      go_wp2_with fail
      refine (checkQ_any _ _ _ _ t.q _ HSM.out.q.1 HSM.out.q.2.1 HSM.out.q.2.2 (HT0.out.mono (bAlloc (Below.refl _ _) (.cells #[.int .i64 t.q.wells, .slice Aw t.q.nw cw, .slice Af t.q.nf cf, .slice Ao t.no co, .slice Ap t.np cp, .slice As t.ns cs, .int .i64 t.far, .int .i64 t.harm, .int .i64 t.many] 62))).q).mono ?_
      rintro e w1 ⟨rfl, hb⟩
      have hB1 : Below w.heap.size w w1 := bTrans (bAlloc (Below.refl _ _) (.cells #[.int .i64 t.q.wells, .slice Aw t.q.nw cw, .slice Af t.q.nf cf, .slice Ao t.no co, .slice Ap t.np cp, .slice As t.ns cs, .int .i64 t.far, .int .i64 t.harm, .int .i64 t.many] 62)) hb
      have HD1 := Lib.hid (bTrans HD0.out hB1)
      have HT1 := Lib.hid (HT0.out.mono hB1)
      have T1 := Lib.hid (show TBox w1 w.heap.size 62 #[.int .i64 t.q.wells, .slice Aw t.q.nw cw, .slice Af t.q.nf cf, .slice Ao t.no co, .slice Ap t.np cp, .slice As t.ns cs, .int .i64 t.far, .int .i64 t.harm, .int .i64 t.many] from by have := ((TBox.new w #[.int .i64 t.q.wells, .slice Aw t.q.nw cw, .slice Af t.q.nf cf, .slice Ao t.no co, .slice Ap t.np cp, .slice As t.ns cs, .int .i64 t.far, .int .i64 t.harm, .int .i64 t.many] 62).mono (Below.refl _ _)).mono hb; simpa using this)
      clear hb hB1 HD0 HT0
      obtain ⟨T_0, T_1, T_2, T_3, T_4, T_5, T_6, T_7, T_8, T_l⟩ := T1.out.c9
      rw [Qt.err_ok G0.out]
      go_wp2_with fail
      refine (areP_any Ao t.no co t.old t.q.wells 99 _ HSM.out.no HT1.out.old).mono ?_
      rintro e w2 ⟨rfl, hb⟩
      rw [G1.out]
      have hB2 : Below w1.heap.size w1 w2 := bTrans (Below.refl _ _) hb
      have HD2 := Lib.hid (bTrans HD1.out hB2)
      have HT2 := Lib.hid (HT1.out.mono hB2)
      have T2 := Lib.hid (T1.out.mono hB2)
      clear hb hB2 HD1 HT1 T1 T_0 T_1 T_2 T_3 T_4 T_5 T_6 T_7 T_8 T_l
      obtain ⟨T_0, T_1, T_2, T_3, T_4, T_5, T_6, T_7, T_8, T_l⟩ := T2.out.c9
      go_wp2_with fail
      refine (areP_any Ap t.np cp t.pence t.q.wells 99 _ HSM.out.np HT2.out.pence).mono ?_
      rintro e w3 ⟨rfl, hb⟩
      rw [G2.out]
      have hB3 : Below w2.heap.size w2 w3 := bTrans (Below.refl _ _) hb
      have HD3 := Lib.hid (bTrans HD2.out hB3)
      have HT3 := Lib.hid (HT2.out.mono hB3)
      have T3 := Lib.hid (T2.out.mono hB3)
      clear hb hB3 HD2 HT2 T2 T_0 T_1 T_2 T_3 T_4 T_5 T_6 T_7 T_8 T_l
      obtain ⟨T_0, T_1, T_2, T_3, T_4, T_5, T_6, T_7, T_8, T_l⟩ := T3.out.c9
      go_wp2_with fail
      refine (withinP_b _ _ _ _ _ G4.out).mono ?_
      rintro e w4 ⟨rfl, hb⟩
      have hB4 : Below w3.heap.size w3 w4 := bTrans (Below.refl _ _) hb
      have HD4 := Lib.hid (bTrans HD3.out hB4)
      have HT4 := Lib.hid (HT3.out.mono hB4)
      have T4 := Lib.hid (T3.out.mono hB4)
      clear hb hB4 HD3 HT3 T3 T_0 T_1 T_2 T_3 T_4 T_5 T_6 T_7 T_8 T_l
      obtain ⟨T_0, T_1, T_2, T_3, T_4, T_5, T_6, T_7, T_8, T_l⟩ := T4.out.c9
      go_wp2_with fail
      refine (withinP_b _ _ _ _ _ G5.out).mono ?_
      rintro e w5 ⟨rfl, hb⟩
      have hB5 : Below w4.heap.size w4 w5 := bTrans (Below.refl _ _) hb
      have HD5 := Lib.hid (bTrans HD4.out hB5)
      have HT5 := Lib.hid (HT4.out.mono hB5)
      have T5 := Lib.hid (T4.out.mono hB5)
      clear hb hB5 HD4 HT4 T4 T_0 T_1 T_2 T_3 T_4 T_5 T_6 T_7 T_8 T_l
      obtain ⟨T_0, T_1, T_2, T_3, T_4, T_5, T_6, T_7, T_8, T_l⟩ := T5.out.c9
      go_wp2_with fail
      refine (withinP_b _ _ _ _ _ G6.out).mono ?_
      rintro e w6 ⟨rfl, hb⟩
      have hB6 : Below w5.heap.size w5 w6 := bTrans (Below.refl _ _) hb
      have HD6 := Lib.hid (bTrans HD5.out hB6)
      have HT6 := Lib.hid (HT5.out.mono hB6)
      have T6 := Lib.hid (T5.out.mono hB6)
      clear hb hB6 HD5 HT5 T5 T_0 T_1 T_2 T_3 T_4 T_5 T_6 T_7 T_8 T_l
      obtain ⟨T_0, T_1, T_2, T_3, T_4, T_5, T_6, T_7, T_8, T_l⟩ := T6.out.c9
      go_wp2_with fail
      refine (contains_spot As t.ns cs 165 #[.pointer (some ⟨w.heap.size, 0, none⟩)] t.spot (fun i => !(t.spot i).okB t.q.nw t.q.wells) _ HSM.out.ns HT6.out.spots (enters_of Tryz.func165 (by kernel_rfl)) (fun i hi w' hb Ar Af2 Ax cr cf2 cx hsh hfl => spotCl_any Aw Af Ao Ap As cw cf co cp cs t Ar Af2 Ax cr cf2 cx (t.spot i) w.heap.size w' (HSM.out.spot i hi) hsh hfl (T6.out.mono hb))).mono ?_
      rintro e w7 ⟨rfl, hb⟩
      rw [G7.out]
      have hB7 : Below w6.heap.size w6 w7 := bTrans (Below.refl _ _) hb
      have HD7 := Lib.hid (bTrans HD6.out hB7)
      have HT7 := Lib.hid (HT6.out.mono hB7)
      have T7 := Lib.hid (T6.out.mono hB7)
      clear hb hB7 HD6 HT6 T6 T_0 T_1 T_2 T_3 T_4 T_5 T_6 T_7 T_8 T_l
      obtain ⟨T_0, T_1, T_2, T_3, T_4, T_5, T_6, T_7, T_8, T_l⟩ := T7.out.c9
      go_wp2_with fail
      go_ret
      exact ⟨by rw [HE.out]; rfl, HD7.out⟩
end Go.Proofs.YthnojgdckkdcgaaGreatDoor

