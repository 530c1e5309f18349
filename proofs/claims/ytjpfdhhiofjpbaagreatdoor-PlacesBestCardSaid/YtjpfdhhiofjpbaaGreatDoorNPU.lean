/- Parts joined. -/
import Derived.Test.YtjpfdhhiofjpbaaGreatDoorNPT
import Derived.Test.YtjpfdhhiofjpbaaGreatDoorNPD
import Derived.Test.YtjpfdhhiofjpbaaGreatDoorNPP
set_option linter.unusedSimpArgs false
set_option linter.unusedVariables false
/- Walks of the law 09: Far, ready. Condition: lengths are Go's. -/
namespace Go.Proofs.YtjpfdhhiofjpbaaGreatDoor
open Go.RowKit Go.Sort
/-- some Bool -/
def SomeB (e : Ending) : Prop := ∃ b, e = .returned (.bool b)
/-- some Bool, that says that a town is valid -/
def ReadyB (t : Pt) (e : Ending) : Prop := ∃ b, e = .returned (.bool b) ∧ (b = true → t.Ok)
set_option maxHeartbeats 8000000 in
set_option maxRecDepth 100000 in
theorem far9_any (Aw Af Ao Ap As : Option Addr) (cw cf co cp cs : Nat) (t : Pt) (w : World) (hs : t.Small) (hT : PAt w Aw Af Ao Ap As t) :
    Calls Tryz.prog 18 #[.agg #[.int .i64 t.q.wells, .slice Aw t.q.nw cw, .slice Af t.q.nf cf, .slice Ao t.no co, .slice Ap t.np cp, .slice As t.ns cs, .int .i64 t.far, .int .i64 t.harm, .int .i64 t.many]] w fun e w' => SomeB e ∧ Below w.heap.size w w' := by
  have HD0 := Lib.hid (Below.refl w.heap.size w)
  have HSM := Lib.hid hs
  have HT0 := Lib.hid hT
  clear hs hT
  go_enter Tryz.func18, Tryz.ntmps18
  go_wp2_with fail
  refine (huge_any Aw Af cw cf t.q _ HSM.out.q (HT0.out.mono (bAlloc (Below.refl _ _) (.cells #[.int .i64 t.q.wells, .slice Aw t.q.nw cw, .slice Af t.q.nf cf, .slice Ao t.no co, .slice Ap t.np cp, .slice As t.ns cs, .int .i64 t.far, .int .i64 t.harm, .int .i64 t.many] 29))).q).mono ?_
  rintro e w1 ⟨rfl, hb⟩
  have hB1 : Below w.heap.size w w1 := bTrans (bAlloc (Below.refl _ _) (.cells #[.int .i64 t.q.wells, .slice Aw t.q.nw cw, .slice Af t.q.nf cf, .slice Ao t.no co, .slice Ap t.np cp, .slice As t.ns cs, .int .i64 t.far, .int .i64 t.harm, .int .i64 t.many] 29)) hb
  have HD1 := Lib.hid (bTrans HD0.out hB1)
  have HT1 := Lib.hid (HT0.out.mono hB1)
  have T1 := Lib.hid (show TBox w1 w.heap.size 29 #[.int .i64 t.q.wells, .slice Aw t.q.nw cw, .slice Af t.q.nf cf, .slice Ao t.no co, .slice Ap t.np cp, .slice As t.ns cs, .int .i64 t.far, .int .i64 t.harm, .int .i64 t.many] from by have := ((TBox.new w #[.int .i64 t.q.wells, .slice Aw t.q.nw cw, .slice Af t.q.nf cf, .slice Ao t.no co, .slice Ap t.np cp, .slice As t.ns cs, .int .i64 t.far, .int .i64 t.harm, .int .i64 t.many] 29).mono (Below.refl _ _)).mono hb; simpa using this)
  clear hb hB1 HD0 HT0
  obtain ⟨T_0, T_1, T_2, T_3, T_4, T_5, T_6, T_7, T_8, T_l⟩ := T1.out.c9
  cases t.q.huge
  case true =>
    go_wp2_with fail
    go_ret
    exact ⟨⟨_, rfl⟩, HD1.out⟩
  by_cases h1 : 40 < t.no
  case pos =>
    have p1 : (40 : Int) < (t.no : Int) := by omega
    have q1 : decide ((t.no : Int) > 40) = true := by simp; omega
    go_wp2_with fail
    go_ret
    exact ⟨⟨_, rfl⟩, HD1.out⟩
  have p1 : ¬ (40 : Int) < (t.no : Int) := by omega
  have q1 : decide ((t.no : Int) > 40) = false := by simp; omega
  have r1 : decide ((40 : Int) < (t.no : Int)) = false := by simp; omega
  have m1 : t.no ≤ 40 := by omega
  by_cases h2 : 40 < t.np
  case pos =>
    have p2 : (40 : Int) < (t.np : Int) := by omega
    have q2 : decide ((t.np : Int) > 40) = true := by simp; omega
    go_wp2_with fail
    go_ret
    exact ⟨⟨_, rfl⟩, HD1.out⟩
  have p2 : ¬ (40 : Int) < (t.np : Int) := by omega
  have q2 : decide ((t.np : Int) > 40) = false := by simp; omega
  have r2 : decide ((40 : Int) < (t.np : Int)) = false := by simp; omega
  have m2 : t.np ≤ 40 := by omega
  by_cases h3 : 40 < t.ns
  case pos =>
    have p3 : (40 : Int) < (t.ns : Int) := by omega
    have q3 : decide ((t.ns : Int) > 40) = true := by simp; omega
    go_wp2_with fail
    go_ret
    exact ⟨⟨_, rfl⟩, HD1.out⟩
  have p3 : ¬ (40 : Int) < (t.ns : Int) := by omega
  have q3 : decide ((t.ns : Int) > 40) = false := by simp; omega
  have r3 : decide ((40 : Int) < (t.ns : Int)) = false := by simp; omega
  have m3 : t.ns ≤ 40 := by omega
  go_wp2_with fail
  clear p1 q1 r1 p2 q2 r2 p3 q3 r3 h1 h2 h3
  clear T_0 T_1 T_2 T_3 T_4 T_5 T_6 T_7 T_8 T_l
  go_loopw [3, 4] (fun s3 s4 wr => ∃ k : Nat, k ≤ t.ns ∧ s4 = .int .i64 (k : Int) ∧ (∃ d, s3 = Value.bool d) ∧ Below w1.heap.size w1 wr) (fun _ s4 _ => t.ns - (intOf s4).toNat)
  case atStart => exact ⟨0, Nat.zero_le _, rfl, ⟨_, rfl⟩, Below.refl _ _⟩
  case round =>
    obtain ⟨k, hk_k, rfl, hd3, hb⟩ := hrel
    have HBk := Lib.hid hb
    have HD3 := Lib.hid hd3
    clear hd3
    have hB2 : Below w1.heap.size w1 wr := bTrans (Below.refl _ _) hb
    have HD2 := Lib.hid (bTrans HD1.out hB2)
    have HT2 := Lib.hid (HT1.out.mono hB2)
    have HU_k2 := Lib.hid ((show Upto w1 wr from HBk.out))
    have T2 := Lib.hid (T1.out.mono hB2)
    clear hb hB2
    obtain ⟨T_0, T_1, T_2, T_3, T_4, T_5, T_6, T_7, T_8, T_l⟩ := T2.out.c9
    obtain ⟨d, rfl⟩ := HD3.out
    clear HD3
    by_cases hlt_k : k < t.ns
    case pos =>
      have h1_k : (k : Int) < (t.ns : Int) := by omega
      have h0_k : (0 : Int) ≤ (k : Int) := by omega
      obtain ⟨b, o, Ar, Af2, Ax, cr, cf2, cx, hA, hb7, hsh, hrow, s0, s1, s2, s3, s4, s5, s6⟩ := HT2.out.spots.get hlt_k
      have HXS := Lib.hid (HSM.out.spot k hlt_k)
      obtain ⟨x, hxx⟩ : ∃ x, t.spot k = x := ⟨_, rfl⟩
      rw [hxx] at s0 s1 s2 s3 s4 s5 s6 hsh hrow HXS
      have HSH2 := Lib.hid hsh
      have HRW2 := Lib.hid hrow
      have hnr := HXS.out.nr
      have hnf := HXS.out.nf
      have hnn := HXS.out.n
      subst hA
      clear hsh hrow hxx
      by_cases h4 : 40 < x.sh.nr
      case pos =>
        have p4 : (40 : Int) < (x.sh.nr : Int) := by omega
        have q4 : decide ((x.sh.nr : Int) > 40) = true := by simp; omega
        go_wp2_with fail
        go_ret
        exact ⟨⟨_, rfl⟩, (bTrans HD2.out (bAlloc (Below.refl _ _) (.cells #[.int .i64 x.at_, .slice Ar x.sh.nr cr, .slice Af2 x.sh.nf cf2, .int .i64 x.sh.deep, .int .i64 x.sh.haul, .int .i64 x.sh.rest, .slice Ax x.fl.n cx] 60)))⟩
      have p4 : ¬ (40 : Int) < (x.sh.nr : Int) := by omega
      have q4 : decide ((x.sh.nr : Int) > 40) = false := by simp; omega
      have r4 : decide ((40 : Int) < (x.sh.nr : Int)) = false := by simp; omega
      have m4 : x.sh.nr ≤ 40 := by omega
      by_cases h5 : 40 < x.sh.nf
      case pos =>
        have p5 : (40 : Int) < (x.sh.nf : Int) := by omega
        have q5 : decide ((x.sh.nf : Int) > 40) = true := by simp; omega
        go_wp2_with fail
        go_ret
        exact ⟨⟨_, rfl⟩, (bTrans HD2.out (bAlloc (Below.refl _ _) (.cells #[.int .i64 x.at_, .slice Ar x.sh.nr cr, .slice Af2 x.sh.nf cf2, .int .i64 x.sh.deep, .int .i64 x.sh.haul, .int .i64 x.sh.rest, .slice Ax x.fl.n cx] 60)))⟩
      have p5 : ¬ (40 : Int) < (x.sh.nf : Int) := by omega
      have q5 : decide ((x.sh.nf : Int) > 40) = false := by simp; omega
      have r5 : decide ((40 : Int) < (x.sh.nf : Int)) = false := by simp; omega
      have m5 : x.sh.nf ≤ 40 := by omega
      by_cases h6 : 40 < x.fl.n
      case pos =>
        have p6 : (40 : Int) < (x.fl.n : Int) := by omega
        have q6 : decide ((x.fl.n : Int) > 40) = true := by simp; omega
        go_wp2_with fail
        go_ret
        exact ⟨⟨_, rfl⟩, (bTrans HD2.out (bAlloc (Below.refl _ _) (.cells #[.int .i64 x.at_, .slice Ar x.sh.nr cr, .slice Af2 x.sh.nf cf2, .int .i64 x.sh.deep, .int .i64 x.sh.haul, .int .i64 x.sh.rest, .slice Ax x.fl.n cx] 60)))⟩
      have p6 : ¬ (40 : Int) < (x.fl.n : Int) := by omega
      have q6 : decide ((x.fl.n : Int) > 40) = false := by simp; omega
      have r6 : decide ((40 : Int) < (x.fl.n : Int)) = false := by simp; omega
      have m6 : x.fl.n ≤ 40 := by omega
      go_wp2_with fail
      clear s0 s1 s2 s3 s4 s5 s6 hb7 p4 q4 r4 p5 q5 r5 p6 q6 r6 h4 h5 h6
      obtain ⟨wl130, hwl⟩ : ∃ y, y = wr := ⟨_, rfl⟩
      subst hwl
      clear T_0 T_1 T_2 T_3 T_4 T_5 T_6 T_7 T_8 T_l
      go_loopw [6] (fun s6 wr => ∃ j : Nat, j ≤ x.fl.n ∧ s6 = .int .i64 (j : Int) ∧ Below (wl130.alloc (.cells #[.int .i64 x.at_, .slice Ar x.sh.nr cr, .slice Af2 x.sh.nf cf2, .int .i64 x.sh.deep, .int .i64 x.sh.haul, .int .i64 x.sh.rest, .slice Ax x.fl.n cx] 60)).heap.size (wl130.alloc (.cells #[.int .i64 x.at_, .slice Ar x.sh.nr cr, .slice Af2 x.sh.nf cf2, .int .i64 x.sh.deep, .int .i64 x.sh.haul, .int .i64 x.sh.rest, .slice Ax x.fl.n cx] 60)) wr) (fun s6 _ => x.fl.n - (intOf s6).toNat)
      case atStart => exact ⟨0, Nat.zero_le _, rfl, Below.refl _ _⟩
      case round =>
        obtain ⟨j, hk_j, rfl, hb⟩ := hrel
        have HBj := Lib.hid hb
        have hB3 : Below wl130.heap.size wl130 wr := bTrans (bAlloc (Below.refl _ _) (.cells #[.int .i64 x.at_, .slice Ar x.sh.nr cr, .slice Af2 x.sh.nf cf2, .int .i64 x.sh.deep, .int .i64 x.sh.haul, .int .i64 x.sh.rest, .slice Ax x.fl.n cx] 60)) hb
        have HD3 := Lib.hid (bTrans HD2.out hB3)
        have HT3 := Lib.hid (HT2.out.mono hB3)
        have HU_k3 := Lib.hid (HU_k2.out.mono hB3)
        have HSH3 := Lib.hid (HSH2.out.mono hB3)
        have HRW3 := Lib.hid (HRW2.out.mono hB3)
        have HU_j3 := Lib.hid ((show Upto (wl130.alloc (.cells #[.int .i64 x.at_, .slice Ar x.sh.nr cr, .slice Af2 x.sh.nf cf2, .int .i64 x.sh.deep, .int .i64 x.sh.haul, .int .i64 x.sh.rest, .slice Ax x.fl.n cx] 60)) wr from HBj.out))
        have T3 := Lib.hid (T2.out.mono hB3)
        have S3 := Lib.hid (show TBox wr wl130.heap.size 60 #[.int .i64 x.at_, .slice Ar x.sh.nr cr, .slice Af2 x.sh.nf cf2, .int .i64 x.sh.deep, .int .i64 x.sh.haul, .int .i64 x.sh.rest, .slice Ax x.fl.n cx] from by have := ((TBox.new wl130 #[.int .i64 x.at_, .slice Ar x.sh.nr cr, .slice Af2 x.sh.nf cf2, .int .i64 x.sh.deep, .int .i64 x.sh.haul, .int .i64 x.sh.rest, .slice Ax x.fl.n cx] 60).mono (Below.refl _ _)).mono hb; simpa using this)
        clear hb hB3
        obtain ⟨T_0, T_1, T_2, T_3, T_4, T_5, T_6, T_7, T_8, T_l⟩ := T3.out.c9
        obtain ⟨S_0, S_1, S_2, S_3, S_4, S_5, S_6, S_l⟩ := S3.out.c7
        by_cases hlt_j : j < x.fl.n
        case pos =>
          have h1_j : (j : Int) < (x.fl.n : Int) := by omega
          have h0_j : (0 : Int) ≤ (j : Int) := by omega
          rcases HRW3.out with h0 | ⟨b9, o9, hA, hb9, hcell⟩
          · omega
          obtain ⟨A2, c2, c0, _, hlen⟩ := hcell j hlt_j
          obtain ⟨m, hm⟩ : ∃ m, x.fl.len j = m := ⟨_, rfl⟩
          rw [hm] at c0 hlen
          subst hA
          clear hcell hm
          by_cases h7 : 40 < m
          case pos =>
            have p7 : (40 : Int) < (m : Int) := by omega
            have q7 : decide ((m : Int) > 40) = true := by simp; omega
            go_wp2_with fail
            go_ret
            exact ⟨⟨_, rfl⟩, HD3.out⟩
          have p7 : ¬ (40 : Int) < (m : Int) := by omega
          have q7 : decide ((m : Int) > 40) = false := by simp; omega
          have r7 : decide ((40 : Int) < (m : Int)) = false := by simp; omega
          have m7 : m ≤ 40 := by omega
          go_wp2_with fail
          go_roundw
          case rel =>
            first
            | exact ⟨j + 1, by omega, by go_num, HU_j3.out⟩
            | ((repeat apply Exists.intro)
               refine ⟨⟨j + 1, by omega, ?_, HU_j3.out⟩, rfl⟩
               go_num)
          case measure => simp [intOf]; omega
        have he_j : j = x.fl.n := by omega
        have hj9 : ¬ (j : Int) < (x.fl.n : Int) := by omega
        have hj8 : ¬ j < x.fl.n := by omega
        clear he_j
        cases d
        · skip
          by_cases h8 : 6 < x.sh.nf
          case neg =>
            have p8 : ¬ (6 : Int) < (x.sh.nf : Int) := by omega
            have q8 : decide ((x.sh.nf : Int) > 6) = false := by simp; omega
            go_wp2_with fail
            go_roundw
            case rel =>
              first
              | exact ⟨k + 1, by omega, by go_num, ⟨_, rfl⟩, HU_k3.out⟩
              | ((repeat apply Exists.intro)
                 refine ⟨⟨k + 1, by omega, ?_, ⟨_, rfl⟩, HU_k3.out⟩, rfl⟩
                 go_num)
            case measure => simp [intOf]; omega
          have p8 : (6 : Int) < (x.sh.nf : Int) := by omega
          have q8 : decide ((x.sh.nf : Int) > 6) = true := by simp; omega
          go_wp2_with fail
          refine (refCheck_any Ar Af2 cr cf2 x.sh _ HXS.out.nr HXS.out.nf HSH3.out).mono ?_
          rintro e w4 ⟨rfl, hb⟩
          have hB4 : Below wr.heap.size wr w4 := bTrans (Below.refl _ _) hb
          have HD4 := Lib.hid (bTrans HD3.out hB4)
          have HT4 := Lib.hid (HT3.out.mono hB4)
          have HU_k4 := Lib.hid (HU_k3.out.mono hB4)
          have HSH4 := Lib.hid (HSH3.out.mono hB4)
          have HRW4 := Lib.hid (HRW3.out.mono hB4)
          have HU_j4 := Lib.hid (HU_j3.out.mono hB4)
          have T4 := Lib.hid (T3.out.mono hB4)
          have S4 := Lib.hid (S3.out.mono hB4)
          clear hb hB4 HD3 HT3 HU_k3 HSH3 HRW3 HU_j3 T3 T_0 T_1 T_2 T_3 T_4 T_5 T_6 T_7 T_8 T_l S3 S_0 S_1 S_2 S_3 S_4 S_5 S_6 S_l
          obtain ⟨T_0, T_1, T_2, T_3, T_4, T_5, T_6, T_7, T_8, T_l⟩ := T4.out.c9
          obtain ⟨S_0, S_1, S_2, S_3, S_4, S_5, S_6, S_l⟩ := S4.out.c7
          go_wp2_with fail
          go_roundw
          case rel =>
            first
            | exact ⟨k + 1, by omega, by go_num, ⟨_, rfl⟩, HU_k4.out⟩
            | ((repeat apply Exists.intro)
               refine ⟨⟨k + 1, by omega, ?_, ⟨_, rfl⟩, HU_k4.out⟩, rfl⟩
               go_num)
          case measure => simp [intOf]; omega
        · skip
          go_wp2_with fail
          go_roundw
          case rel =>
            first
            | exact ⟨k + 1, by omega, by go_num, ⟨_, rfl⟩, HU_k3.out⟩
            | ((repeat apply Exists.intro)
               refine ⟨⟨k + 1, by omega, ?_, ⟨_, rfl⟩, HU_k3.out⟩, rfl⟩
               go_num)
          case measure => simp [intOf]; omega
    have he_k : k = t.ns := by omega
    have hk9 : ¬ (k : Int) < (t.ns : Int) := by omega
    have hk8 : ¬ k < t.ns := by omega
    clear he_k
    cases d
    case true =>
      go_wp2_with fail
      go_ret
      exact ⟨⟨_, rfl⟩, HD2.out⟩
    go_wp2_with fail
    refine (refCheck5 _ _ _ _ t.q _ HSM.out.q.1 HSM.out.q.2.1 HT2.out.q).mono ?_
    rintro e w3 ⟨rfl, hb⟩
    have hB3 : Below wr.heap.size wr w3 := bTrans (Below.refl _ _) hb
    have HD3 := Lib.hid (bTrans HD2.out hB3)
    have HT3 := Lib.hid (HT2.out.mono hB3)
    have HU_k3 := Lib.hid (HU_k2.out.mono hB3)
    have T3 := Lib.hid (T2.out.mono hB3)
    clear hb hB3 T_0 T_1 T_2 T_3 T_4 T_5 T_6 T_7 T_8 T_l
    obtain ⟨T_0, T_1, T_2, T_3, T_4, T_5, T_6, T_7, T_8, T_l⟩ := T3.out.c9
    by_cases ok : t.q.Ok
    case neg =>
      rw [Qt.err_bad ok]
      go_wp2_with fail
      go_ret
      exact ⟨⟨_, rfl⟩, HD3.out⟩
    rw [Qt.err_ok ok]
    have HQO := Lib.hid ok
    clear ok
    by_cases h9 : 3 < t.q.wells
    case pos =>
      have p9 : decide (t.q.wells > 3) = true := by simp; omega
      go_wp2_with fail
      go_ret
      exact ⟨⟨_, rfl⟩, HD3.out⟩
    have p9 : decide (t.q.wells > 3) = false := by simp; omega
    go_wp2_with fail
    refine (refLeftOf Aw Af cw cf t.q _ HQO.out HT3.out.q).mono ?_
    rintro e w4 ⟨⟨v, rfl, hv⟩, hb⟩
    obtain ⟨A4, c4, rfl, hi4, _⟩ := left_base hv
    have hB4 : Below w3.heap.size w3 w4 := bTrans (Below.refl _ _) hb
    have HD4 := Lib.hid (bTrans HD3.out hB4)
    have HT4 := Lib.hid (HT3.out.mono hB4)
    have HU_k4 := Lib.hid (HU_k3.out.mono hB4)
    have T4 := Lib.hid (T3.out.mono hB4)
    clear hb hB4 HD3 HT3 HU_k3 T3 T_0 T_1 T_2 T_3 T_4 T_5 T_6 T_7 T_8 T_l
    obtain ⟨T_0, T_1, T_2, T_3, T_4, T_5, T_6, T_7, T_8, T_l⟩ := T4.out.c9
    clear hv hi4
    go_wp2_with fail
    go_ret
    exact ⟨⟨_, rfl⟩, HD4.out⟩
set_option maxHeartbeats 4000000 in
set_option maxRecDepth 100000 in
theorem ready9_any (Aw Af Ao Ap As : Option Addr) (cw cf co cp cs : Nat) (t : Pt) (w : World) (hs : t.Small) (hT : PAt w Aw Af Ao Ap As t) :
    Calls Tryz.prog 39 #[.agg #[.int .i64 t.q.wells, .slice Aw t.q.nw cw, .slice Af t.q.nf cf, .slice Ao t.no co, .slice Ap t.np cp, .slice As t.ns cs, .int .i64 t.far, .int .i64 t.harm, .int .i64 t.many]] w fun e w' => ReadyB t e ∧ Below w.heap.size w w' := by
  have HD0 := Lib.hid (Below.refl w.heap.size w)
  have HSM := Lib.hid hs
  have HT0 := Lib.hid hT
  clear hs hT
  go_enter Tryz.func39, Tryz.ntmps39
  go_wp2_with fail
  refine (far9_any Aw Af Ao Ap As cw cf co cp cs t _ HSM.out (HT0.out.mono (bAlloc (Below.refl _ _) (.cells #[.int .i64 t.q.wells, .slice Aw t.q.nw cw, .slice Af t.q.nf cf, .slice Ao t.no co, .slice Ap t.np cp, .slice As t.ns cs, .int .i64 t.far, .int .i64 t.harm, .int .i64 t.many] 29)))).mono ?_
  rintro e w1 ⟨⟨bf, rfl⟩, hb⟩
  have hB1 : Below w.heap.size w w1 := bTrans (bAlloc (Below.refl _ _) (.cells #[.int .i64 t.q.wells, .slice Aw t.q.nw cw, .slice Af t.q.nf cf, .slice Ao t.no co, .slice Ap t.np cp, .slice As t.ns cs, .int .i64 t.far, .int .i64 t.harm, .int .i64 t.many] 29)) hb
  have HD1 := Lib.hid (bTrans HD0.out hB1)
  have HT1 := Lib.hid (HT0.out.mono hB1)
  have T1 := Lib.hid (show TBox w1 w.heap.size 29 #[.int .i64 t.q.wells, .slice Aw t.q.nw cw, .slice Af t.q.nf cf, .slice Ao t.no co, .slice Ap t.np cp, .slice As t.ns cs, .int .i64 t.far, .int .i64 t.harm, .int .i64 t.many] from by have := ((TBox.new w #[.int .i64 t.q.wells, .slice Aw t.q.nw cw, .slice Af t.q.nf cf, .slice Ao t.no co, .slice Ap t.np cp, .slice As t.ns cs, .int .i64 t.far, .int .i64 t.harm, .int .i64 t.many] 29).mono (Below.refl _ _)).mono hb; simpa using this)
  clear hb hB1 HD0 HT0
  obtain ⟨T_0, T_1, T_2, T_3, T_4, T_5, T_6, T_7, T_8, T_l⟩ := T1.out.c9
  cases bf
  case true =>
    go_wp2_with fail
    go_ret
    exact ⟨⟨_, rfl, fun h => by cases h⟩, HD1.out⟩
  go_wp2_with fail
  refine (check9_any Aw Af Ao Ap As cw cf co cp cs t _ HSM.out HT1.out).mono ?_
  rintro e w2 ⟨rfl, hb⟩
  have hB2 : Below w1.heap.size w1 w2 := bTrans (Below.refl _ _) hb
  have HD2 := Lib.hid (bTrans HD1.out hB2)
  have HT2 := Lib.hid (HT1.out.mono hB2)
  have T2 := Lib.hid (T1.out.mono hB2)
  clear hb hB2 HD1 HT1 T1 T_0 T_1 T_2 T_3 T_4 T_5 T_6 T_7 T_8 T_l
  obtain ⟨T_0, T_1, T_2, T_3, T_4, T_5, T_6, T_7, T_8, T_l⟩ := T2.out.c9
  by_cases ok : t.Ok
  case neg =>
    rw [Pt.err_bad ok]
    clear ok
    go_wp2_with fail
    go_ret
    exact ⟨⟨_, rfl, fun h => by cases h⟩, HD2.out⟩
  rw [Pt.err_ok ok]
  have HOK := Lib.hid ok
  clear ok
  go_wp2_with fail
  go_ret
  exact ⟨⟨_, rfl, fun _ => HOK.out⟩, HD2.out⟩
end Go.Proofs.YtjpfdhhiofjpbaaGreatDoor
/- Walks of the law 09: best, cheapest, pair, subset, perhaps. Conditions: a valid town in which some world is left; the listed tables hold what they hold. -/
namespace Go.Proofs.YtjpfdhhiofjpbaaGreatDoor
open Go.RowKit Go.Sort
theorem mayB_iff {t : Pt} {a b : Nat} : t.mayB a b = true ↔ t.canB a = true ∧ t.canB b = true ∧ a < b ∧ t.far ≤ dst (t.spot a).at_ (t.spot b).at_ := by
  unfold Pt.mayB
  simp only [Bool.and_eq_true, decide_eq_true_eq]
  constructor
  · rintro ⟨⟨⟨h1, h2⟩, h3⟩, h4⟩; exact ⟨h1, h2, h3, h4⟩
  · rintro ⟨h1, h2, h3, h4⟩; exact ⟨⟨⟨h1, h2⟩, h3⟩, h4⟩
theorem canB_err {t : Pt} {s : Nat} (h : t.canB s = true) : (t.cheap s).2 = 0 := by unfold Pt.canB at h; simpa using h
theorem freeB_can {t : Pt} {s : Nat} (h : t.freeB s = true) : t.canB s = true := by unfold Pt.freeB at h; rw [Bool.and_eq_true] at h; exact h.1
theorem hasB_in {t : Pt} {s : Nat} (h : s < t.ns) : t.hasB (s : Int) = true := hasB_iff.2 (by omega)
theorem price_can {t : Pt} (ok : t.Ok) {s : Nat} (hs : s < t.ns) (h : t.canB s = true) : t.priceOut (s : Int) = ((t.cheap s).1, 0) := by
  unfold Pt.priceOut
  rw [hasB_in hs, Pt.askErr_ok ok, if_pos rfl, Int.toNat_natCast]
  exact Prod.ext rfl (canB_err h)
theorem whole_can {t : Pt} (ok : t.Ok) (hne : t.q.leftL ≠ []) {s : Nat} (hs : s < t.ns) (h : t.canB s = true) : t.wholeOut (s : Int) = (t.whole s, 0) := by
  unfold Pt.wholeOut
  rw [hasB_in hs, Pt.knowErr_ok ok hne, if_pos rfl, Int.toNat_natCast, h]
  rfl
theorem best_out {t : Pt} (ok : t.Ok) (hne : t.q.leftL ≠ []) : t.bestOut = optOut t.best := by unfold Pt.bestOut; rw [Pt.knowErr_ok ok hne, if_pos rfl]
theorem cheapest_out {t : Pt} (ok : t.Ok) (hne : t.q.leftL ≠ []) : t.cheapestOut = optOut t.cheapest := by unfold Pt.cheapestOut; rw [Pt.knowErr_ok ok hne, if_pos rfl]
set_option maxHeartbeats 4000000 in
set_option maxRecDepth 100000 in
theorem bestV9_any (Aw Af Ao Ap As : Option Addr) (cw cf co cp cs : Nat) (t : Pt) (w : World) (hs : t.Small) (hT : PAt w Aw Af Ao Ap As t) (hB : TabAt w) (hN : NoneAt w) (ok : t.Ok) (hne : t.q.leftL ≠ []) :
    Calls Tryz.prog 55 #[.agg #[.int .i64 t.q.wells, .slice Aw t.q.nw cw, .slice Af t.q.nf cf, .slice Ao t.no co, .slice Ap t.np cp, .slice As t.ns cs, .int .i64 t.far, .int .i64 t.harm, .int .i64 t.many]] w fun e w' => e = .returned (.tuple #[.int .i64 t.bestV, .bool true]) ∧ Below w.heap.size w w' := by
  have HD0 := Lib.hid (Below.refl w.heap.size w)
  have HSM := Lib.hid hs
  have HT0 := Lib.hid hT
  have HTB0 := Lib.hid hB
  have HNA0 := Lib.hid hN
  have HOK := Lib.hid ok
  have HNE := Lib.hid hne
  clear hs hT hB hN ok hne
  go_enter Tryz.func55, Tryz.ntmps55
  obtain ⟨mo, hmo⟩ : ∃ m, t.best = m := ⟨_, rfl⟩
  have HMO := Lib.hid hmo
  have HV := Lib.hid (show t.bestV = valOf (fun s => (t.cheap s).1) mo by unfold Pt.bestV; rw [hmo])
  clear hmo
  cases mo with
  | none =>
    go_wp2_with fail
    refine ((by have := bestP_any Aw Af Ao Ap As cw cf co cp cs t (w.alloc (.cells #[.int .i64 t.q.wells, .slice Aw t.q.nw cw, .slice Af t.q.nf cf, .slice Ao t.no co, .slice Ap t.np cp, .slice As t.ns cs, .int .i64 t.far, .int .i64 t.harm, .int .i64 t.many] 29)) HSM.out (HT0.out.mono (bAlloc (Below.refl _ _) (.cells #[.int .i64 t.q.wells, .slice Aw t.q.nw cw, .slice Af t.q.nf cf, .slice Ao t.no co, .slice Ap t.np cp, .slice As t.ns cs, .int .i64 t.far, .int .i64 t.harm, .int .i64 t.many] 29))) (HTB0.out.mono (bAlloc (Below.refl _ _) (.cells #[.int .i64 t.q.wells, .slice Aw t.q.nw cw, .slice Af t.q.nf cf, .slice Ao t.no co, .slice Ap t.np cp, .slice As t.ns cs, .int .i64 t.far, .int .i64 t.harm, .int .i64 t.many] 29))) (HNA0.out.mono (bAlloc (Below.refl _ _) (.cells #[.int .i64 t.q.wells, .slice Aw t.q.nw cw, .slice Af t.q.nf cf, .slice Ao t.no co, .slice Ap t.np cp, .slice As t.ns cs, .int .i64 t.far, .int .i64 t.harm, .int .i64 t.many] 29))); rw [best_out HOK.out HNE.out, HMO.out, show optOut none = (0, 3) from rfl] at this; exact this : Calls Tryz.prog 35 #[.agg #[.int .i64 t.q.wells, .slice Aw t.q.nw cw, .slice Af t.q.nf cf, .slice Ao t.no co, .slice Ap t.np cp, .slice As t.ns cs, .int .i64 t.far, .int .i64 t.harm, .int .i64 t.many]] (w.alloc (.cells #[.int .i64 t.q.wells, .slice Aw t.q.nw cw, .slice Af t.q.nf cf, .slice Ao t.no co, .slice Ap t.np cp, .slice As t.ns cs, .int .i64 t.far, .int .i64 t.harm, .int .i64 t.many] 29)) fun e w' => e = .returned (.tuple #[.int .i64 0, .int .i64 3]) ∧ Below (w.alloc (.cells #[.int .i64 t.q.wells, .slice Aw t.q.nw cw, .slice Af t.q.nf cf, .slice Ao t.no co, .slice Ap t.np cp, .slice As t.ns cs, .int .i64 t.far, .int .i64 t.harm, .int .i64 t.many] 29)).heap.size (w.alloc (.cells #[.int .i64 t.q.wells, .slice Aw t.q.nw cw, .slice Af t.q.nf cf, .slice Ao t.no co, .slice Ap t.np cp, .slice As t.ns cs, .int .i64 t.far, .int .i64 t.harm, .int .i64 t.many] 29)) w')).mono ?_
    rintro e w1 ⟨rfl, hb⟩
    have hB1 : Below w.heap.size w w1 := bTrans (bAlloc (Below.refl _ _) (.cells #[.int .i64 t.q.wells, .slice Aw t.q.nw cw, .slice Af t.q.nf cf, .slice Ao t.no co, .slice Ap t.np cp, .slice As t.ns cs, .int .i64 t.far, .int .i64 t.harm, .int .i64 t.many] 29)) hb
    have HD1 := Lib.hid (bTrans HD0.out hB1)
    have HT1 := Lib.hid (HT0.out.mono hB1)
    have HTB1 := Lib.hid (HTB0.out.mono hB1)
    have HNA1 := Lib.hid (HNA0.out.mono hB1)
    have T1 := Lib.hid (show TBox w1 w.heap.size 29 #[.int .i64 t.q.wells, .slice Aw t.q.nw cw, .slice Af t.q.nf cf, .slice Ao t.no co, .slice Ap t.np cp, .slice As t.ns cs, .int .i64 t.far, .int .i64 t.harm, .int .i64 t.many] from by have := ((TBox.new w #[.int .i64 t.q.wells, .slice Aw t.q.nw cw, .slice Af t.q.nf cf, .slice Ao t.no co, .slice Ap t.np cp, .slice As t.ns cs, .int .i64 t.far, .int .i64 t.harm, .int .i64 t.many] 29).mono (Below.refl _ _)).mono hb; simpa using this)
    clear hb hB1 HD0 HT0 HTB0 HNA0
    obtain ⟨T_0, T_1, T_2, T_3, T_4, T_5, T_6, T_7, T_8, T_l⟩ := T1.out.c9
    go_wp2_with fail
    go_ret2
    exact ⟨by rw [HV.out] <;> rfl, HD1.out⟩
  | some b =>
    have hb2 := minBy_lt (show minBy (fun s => (t.cheap s).1) t.freeB t.ns = some b from HMO.out)
    have HB2 := Lib.hid hb2.1
    have HC := Lib.hid (freeB_can hb2.2)
    have hbd := cheap_bd HOK.out hb2.1
    obtain ⟨y, hy⟩ : ∃ y, (t.cheap b).1 = y := ⟨_, rfl⟩
    have HY := Lib.hid hy
    have HVY := Lib.hid (show t.bestV = y by rw [HV.out]; exact hy)
    rw [hy] at hbd
    have hy0 : 0 ≤ y := hbd.1
    have hy1 : y < 100000 := by omega
    clear hb2 hy hbd
    go_wp2_with fail
    refine ((by have := bestP_any Aw Af Ao Ap As cw cf co cp cs t (w.alloc (.cells #[.int .i64 t.q.wells, .slice Aw t.q.nw cw, .slice Af t.q.nf cf, .slice Ao t.no co, .slice Ap t.np cp, .slice As t.ns cs, .int .i64 t.far, .int .i64 t.harm, .int .i64 t.many] 29)) HSM.out (HT0.out.mono (bAlloc (Below.refl _ _) (.cells #[.int .i64 t.q.wells, .slice Aw t.q.nw cw, .slice Af t.q.nf cf, .slice Ao t.no co, .slice Ap t.np cp, .slice As t.ns cs, .int .i64 t.far, .int .i64 t.harm, .int .i64 t.many] 29))) (HTB0.out.mono (bAlloc (Below.refl _ _) (.cells #[.int .i64 t.q.wells, .slice Aw t.q.nw cw, .slice Af t.q.nf cf, .slice Ao t.no co, .slice Ap t.np cp, .slice As t.ns cs, .int .i64 t.far, .int .i64 t.harm, .int .i64 t.many] 29))) (HNA0.out.mono (bAlloc (Below.refl _ _) (.cells #[.int .i64 t.q.wells, .slice Aw t.q.nw cw, .slice Af t.q.nf cf, .slice Ao t.no co, .slice Ap t.np cp, .slice As t.ns cs, .int .i64 t.far, .int .i64 t.harm, .int .i64 t.many] 29))); rw [best_out HOK.out HNE.out, HMO.out, show optOut (some b) = ((b : Int), 0) from rfl] at this; exact this : Calls Tryz.prog 35 #[.agg #[.int .i64 t.q.wells, .slice Aw t.q.nw cw, .slice Af t.q.nf cf, .slice Ao t.no co, .slice Ap t.np cp, .slice As t.ns cs, .int .i64 t.far, .int .i64 t.harm, .int .i64 t.many]] (w.alloc (.cells #[.int .i64 t.q.wells, .slice Aw t.q.nw cw, .slice Af t.q.nf cf, .slice Ao t.no co, .slice Ap t.np cp, .slice As t.ns cs, .int .i64 t.far, .int .i64 t.harm, .int .i64 t.many] 29)) fun e w' => e = .returned (.tuple #[.int .i64 (b : Int), .int .i64 0]) ∧ Below (w.alloc (.cells #[.int .i64 t.q.wells, .slice Aw t.q.nw cw, .slice Af t.q.nf cf, .slice Ao t.no co, .slice Ap t.np cp, .slice As t.ns cs, .int .i64 t.far, .int .i64 t.harm, .int .i64 t.many] 29)).heap.size (w.alloc (.cells #[.int .i64 t.q.wells, .slice Aw t.q.nw cw, .slice Af t.q.nf cf, .slice Ao t.no co, .slice Ap t.np cp, .slice As t.ns cs, .int .i64 t.far, .int .i64 t.harm, .int .i64 t.many] 29)) w')).mono ?_
    rintro e w1 ⟨rfl, hb⟩
    have hB1 : Below w.heap.size w w1 := bTrans (bAlloc (Below.refl _ _) (.cells #[.int .i64 t.q.wells, .slice Aw t.q.nw cw, .slice Af t.q.nf cf, .slice Ao t.no co, .slice Ap t.np cp, .slice As t.ns cs, .int .i64 t.far, .int .i64 t.harm, .int .i64 t.many] 29)) hb
    have HD1 := Lib.hid (bTrans HD0.out hB1)
    have HT1 := Lib.hid (HT0.out.mono hB1)
    have HTB1 := Lib.hid (HTB0.out.mono hB1)
    have HNA1 := Lib.hid (HNA0.out.mono hB1)
    have T1 := Lib.hid (show TBox w1 w.heap.size 29 #[.int .i64 t.q.wells, .slice Aw t.q.nw cw, .slice Af t.q.nf cf, .slice Ao t.no co, .slice Ap t.np cp, .slice As t.ns cs, .int .i64 t.far, .int .i64 t.harm, .int .i64 t.many] from by have := ((TBox.new w #[.int .i64 t.q.wells, .slice Aw t.q.nw cw, .slice Af t.q.nf cf, .slice Ao t.no co, .slice Ap t.np cp, .slice As t.ns cs, .int .i64 t.far, .int .i64 t.harm, .int .i64 t.many] 29).mono (Below.refl _ _)).mono hb; simpa using this)
    clear hb hB1 HD0 HT0 HTB0 HNA0
    obtain ⟨T_0, T_1, T_2, T_3, T_4, T_5, T_6, T_7, T_8, T_l⟩ := T1.out.c9
    go_wp2_with fail
    refine ((by have := pricesP_any Aw Af Ao Ap As cw cf co cp cs t (b : Int) w1 HSM.out HT1.out HTB1.out HNA1.out; rw [price_can HOK.out HB2.out HC.out, HY.out] at this; exact this : Calls Tryz.prog 25 #[.agg #[.int .i64 t.q.wells, .slice Aw t.q.nw cw, .slice Af t.q.nf cf, .slice Ao t.no co, .slice Ap t.np cp, .slice As t.ns cs, .int .i64 t.far, .int .i64 t.harm, .int .i64 t.many], .int .i64 (b : Int)] w1 fun e w' => e = .returned (.tuple #[.int .i64 y, .int .i64 0]) ∧ Below w1.heap.size w1 w')).mono ?_
    rintro e w2 ⟨rfl, hb⟩
    have hB2 : Below w1.heap.size w1 w2 := bTrans (Below.refl _ _) hb
    have HD2 := Lib.hid (bTrans HD1.out hB2)
    have HT2 := Lib.hid (HT1.out.mono hB2)
    have HTB2 := Lib.hid (HTB1.out.mono hB2)
    have HNA2 := Lib.hid (HNA1.out.mono hB2)
    have T2 := Lib.hid (T1.out.mono hB2)
    clear hb hB2 HD1 HT1 HTB1 HNA1 T1 T_0 T_1 T_2 T_3 T_4 T_5 T_6 T_7 T_8 T_l
    obtain ⟨T_0, T_1, T_2, T_3, T_4, T_5, T_6, T_7, T_8, T_l⟩ := T2.out.c9
    go_wp2_with fail
    refine (hasB_in HB2.out ▸ isSpotN9_any Aw Af Ao Ap As cw cf co cp cs t (b : Int) _ HSM.out.ns).mono ?_
    rintro e w3 ⟨rfl, hb⟩
    have hB3 : Below w2.heap.size w2 w3 := bTrans (Below.refl _ _) hb
    have HD3 := Lib.hid (bTrans HD2.out hB3)
    have HT3 := Lib.hid (HT2.out.mono hB3)
    have HTB3 := Lib.hid (HTB2.out.mono hB3)
    have HNA3 := Lib.hid (HNA2.out.mono hB3)
    have T3 := Lib.hid (T2.out.mono hB3)
    clear hb hB3 HD2 HT2 HTB2 HNA2 T2 T_0 T_1 T_2 T_3 T_4 T_5 T_6 T_7 T_8 T_l
    obtain ⟨T_0, T_1, T_2, T_3, T_4, T_5, T_6, T_7, T_8, T_l⟩ := T3.out.c9
    go_wp2_with fail
    go_ret2
    exact ⟨by rw [HVY.out] <;> rfl, HD3.out⟩
set_option maxHeartbeats 4000000 in
set_option maxRecDepth 100000 in
theorem cheapV9_any (Aw Af Ao Ap As : Option Addr) (cw cf co cp cs : Nat) (t : Pt) (w : World) (hs : t.Small) (hT : PAt w Aw Af Ao Ap As t) (hB : TabAt w) (hN : NoneAt w) (ok : t.Ok) (hne : t.q.leftL ≠ []) :
    Calls Tryz.prog 56 #[.agg #[.int .i64 t.q.wells, .slice Aw t.q.nw cw, .slice Af t.q.nf cf, .slice Ao t.no co, .slice Ap t.np cp, .slice As t.ns cs, .int .i64 t.far, .int .i64 t.harm, .int .i64 t.many]] w fun e w' => e = .returned (.tuple #[.int .i64 t.cheapV, .bool true]) ∧ Below w.heap.size w w' := by
  have HD0 := Lib.hid (Below.refl w.heap.size w)
  have HSM := Lib.hid hs
  have HT0 := Lib.hid hT
  have HTB0 := Lib.hid hB
  have HNA0 := Lib.hid hN
  have HOK := Lib.hid ok
  have HNE := Lib.hid hne
  clear hs hT hB hN ok hne
  go_enter Tryz.func56, Tryz.ntmps56
  obtain ⟨mo, hmo⟩ : ∃ m, t.cheapest = m := ⟨_, rfl⟩
  have HMO := Lib.hid hmo
  have HV := Lib.hid (show t.cheapV = valOf (t.whole) mo by unfold Pt.cheapV; rw [hmo])
  clear hmo
  cases mo with
  | none =>
    go_wp2_with fail
    refine ((by have := cheapestOutP_any Aw Af Ao Ap As cw cf co cp cs t (w.alloc (.cells #[.int .i64 t.q.wells, .slice Aw t.q.nw cw, .slice Af t.q.nf cf, .slice Ao t.no co, .slice Ap t.np cp, .slice As t.ns cs, .int .i64 t.far, .int .i64 t.harm, .int .i64 t.many] 29)) HSM.out (HT0.out.mono (bAlloc (Below.refl _ _) (.cells #[.int .i64 t.q.wells, .slice Aw t.q.nw cw, .slice Af t.q.nf cf, .slice Ao t.no co, .slice Ap t.np cp, .slice As t.ns cs, .int .i64 t.far, .int .i64 t.harm, .int .i64 t.many] 29))) (HTB0.out.mono (bAlloc (Below.refl _ _) (.cells #[.int .i64 t.q.wells, .slice Aw t.q.nw cw, .slice Af t.q.nf cf, .slice Ao t.no co, .slice Ap t.np cp, .slice As t.ns cs, .int .i64 t.far, .int .i64 t.harm, .int .i64 t.many] 29))) (HNA0.out.mono (bAlloc (Below.refl _ _) (.cells #[.int .i64 t.q.wells, .slice Aw t.q.nw cw, .slice Af t.q.nf cf, .slice Ao t.no co, .slice Ap t.np cp, .slice As t.ns cs, .int .i64 t.far, .int .i64 t.harm, .int .i64 t.many] 29))); rw [cheapest_out HOK.out HNE.out, HMO.out, show optOut none = (0, 3) from rfl] at this; exact this : Calls Tryz.prog 47 #[.agg #[.int .i64 t.q.wells, .slice Aw t.q.nw cw, .slice Af t.q.nf cf, .slice Ao t.no co, .slice Ap t.np cp, .slice As t.ns cs, .int .i64 t.far, .int .i64 t.harm, .int .i64 t.many]] (w.alloc (.cells #[.int .i64 t.q.wells, .slice Aw t.q.nw cw, .slice Af t.q.nf cf, .slice Ao t.no co, .slice Ap t.np cp, .slice As t.ns cs, .int .i64 t.far, .int .i64 t.harm, .int .i64 t.many] 29)) fun e w' => e = .returned (.tuple #[.int .i64 0, .int .i64 3]) ∧ Below (w.alloc (.cells #[.int .i64 t.q.wells, .slice Aw t.q.nw cw, .slice Af t.q.nf cf, .slice Ao t.no co, .slice Ap t.np cp, .slice As t.ns cs, .int .i64 t.far, .int .i64 t.harm, .int .i64 t.many] 29)).heap.size (w.alloc (.cells #[.int .i64 t.q.wells, .slice Aw t.q.nw cw, .slice Af t.q.nf cf, .slice Ao t.no co, .slice Ap t.np cp, .slice As t.ns cs, .int .i64 t.far, .int .i64 t.harm, .int .i64 t.many] 29)) w')).mono ?_
    rintro e w1 ⟨rfl, hb⟩
    have hB1 : Below w.heap.size w w1 := bTrans (bAlloc (Below.refl _ _) (.cells #[.int .i64 t.q.wells, .slice Aw t.q.nw cw, .slice Af t.q.nf cf, .slice Ao t.no co, .slice Ap t.np cp, .slice As t.ns cs, .int .i64 t.far, .int .i64 t.harm, .int .i64 t.many] 29)) hb
    have HD1 := Lib.hid (bTrans HD0.out hB1)
    have HT1 := Lib.hid (HT0.out.mono hB1)
    have HTB1 := Lib.hid (HTB0.out.mono hB1)
    have HNA1 := Lib.hid (HNA0.out.mono hB1)
    have T1 := Lib.hid (show TBox w1 w.heap.size 29 #[.int .i64 t.q.wells, .slice Aw t.q.nw cw, .slice Af t.q.nf cf, .slice Ao t.no co, .slice Ap t.np cp, .slice As t.ns cs, .int .i64 t.far, .int .i64 t.harm, .int .i64 t.many] from by have := ((TBox.new w #[.int .i64 t.q.wells, .slice Aw t.q.nw cw, .slice Af t.q.nf cf, .slice Ao t.no co, .slice Ap t.np cp, .slice As t.ns cs, .int .i64 t.far, .int .i64 t.harm, .int .i64 t.many] 29).mono (Below.refl _ _)).mono hb; simpa using this)
    clear hb hB1 HD0 HT0 HTB0 HNA0
    obtain ⟨T_0, T_1, T_2, T_3, T_4, T_5, T_6, T_7, T_8, T_l⟩ := T1.out.c9
    go_wp2_with fail
    go_ret2
    exact ⟨by rw [HV.out] <;> rfl, HD1.out⟩
  | some b =>
    have hb2 := minBy_lt (show minBy (t.whole) t.canB t.ns = some b from HMO.out)
    have HB2 := Lib.hid hb2.1
    have HC := Lib.hid (hb2.2)
    have hbd := whole_bd HOK.out hb2.1
    obtain ⟨y, hy⟩ : ∃ y, t.whole b = y := ⟨_, rfl⟩
    have HY := Lib.hid hy
    have HVY := Lib.hid (show t.cheapV = y by rw [HV.out]; exact hy)
    rw [hy] at hbd
    have hy0 : 0 ≤ y := hbd.1
    have hy1 : y < 100000 := by omega
    clear hb2 hy hbd
    go_wp2_with fail
    refine ((by have := cheapestOutP_any Aw Af Ao Ap As cw cf co cp cs t (w.alloc (.cells #[.int .i64 t.q.wells, .slice Aw t.q.nw cw, .slice Af t.q.nf cf, .slice Ao t.no co, .slice Ap t.np cp, .slice As t.ns cs, .int .i64 t.far, .int .i64 t.harm, .int .i64 t.many] 29)) HSM.out (HT0.out.mono (bAlloc (Below.refl _ _) (.cells #[.int .i64 t.q.wells, .slice Aw t.q.nw cw, .slice Af t.q.nf cf, .slice Ao t.no co, .slice Ap t.np cp, .slice As t.ns cs, .int .i64 t.far, .int .i64 t.harm, .int .i64 t.many] 29))) (HTB0.out.mono (bAlloc (Below.refl _ _) (.cells #[.int .i64 t.q.wells, .slice Aw t.q.nw cw, .slice Af t.q.nf cf, .slice Ao t.no co, .slice Ap t.np cp, .slice As t.ns cs, .int .i64 t.far, .int .i64 t.harm, .int .i64 t.many] 29))) (HNA0.out.mono (bAlloc (Below.refl _ _) (.cells #[.int .i64 t.q.wells, .slice Aw t.q.nw cw, .slice Af t.q.nf cf, .slice Ao t.no co, .slice Ap t.np cp, .slice As t.ns cs, .int .i64 t.far, .int .i64 t.harm, .int .i64 t.many] 29))); rw [cheapest_out HOK.out HNE.out, HMO.out, show optOut (some b) = ((b : Int), 0) from rfl] at this; exact this : Calls Tryz.prog 47 #[.agg #[.int .i64 t.q.wells, .slice Aw t.q.nw cw, .slice Af t.q.nf cf, .slice Ao t.no co, .slice Ap t.np cp, .slice As t.ns cs, .int .i64 t.far, .int .i64 t.harm, .int .i64 t.many]] (w.alloc (.cells #[.int .i64 t.q.wells, .slice Aw t.q.nw cw, .slice Af t.q.nf cf, .slice Ao t.no co, .slice Ap t.np cp, .slice As t.ns cs, .int .i64 t.far, .int .i64 t.harm, .int .i64 t.many] 29)) fun e w' => e = .returned (.tuple #[.int .i64 (b : Int), .int .i64 0]) ∧ Below (w.alloc (.cells #[.int .i64 t.q.wells, .slice Aw t.q.nw cw, .slice Af t.q.nf cf, .slice Ao t.no co, .slice Ap t.np cp, .slice As t.ns cs, .int .i64 t.far, .int .i64 t.harm, .int .i64 t.many] 29)).heap.size (w.alloc (.cells #[.int .i64 t.q.wells, .slice Aw t.q.nw cw, .slice Af t.q.nf cf, .slice Ao t.no co, .slice Ap t.np cp, .slice As t.ns cs, .int .i64 t.far, .int .i64 t.harm, .int .i64 t.many] 29)) w')).mono ?_
    rintro e w1 ⟨rfl, hb⟩
    have hB1 : Below w.heap.size w w1 := bTrans (bAlloc (Below.refl _ _) (.cells #[.int .i64 t.q.wells, .slice Aw t.q.nw cw, .slice Af t.q.nf cf, .slice Ao t.no co, .slice Ap t.np cp, .slice As t.ns cs, .int .i64 t.far, .int .i64 t.harm, .int .i64 t.many] 29)) hb
    have HD1 := Lib.hid (bTrans HD0.out hB1)
    have HT1 := Lib.hid (HT0.out.mono hB1)
    have HTB1 := Lib.hid (HTB0.out.mono hB1)
    have HNA1 := Lib.hid (HNA0.out.mono hB1)
    have T1 := Lib.hid (show TBox w1 w.heap.size 29 #[.int .i64 t.q.wells, .slice Aw t.q.nw cw, .slice Af t.q.nf cf, .slice Ao t.no co, .slice Ap t.np cp, .slice As t.ns cs, .int .i64 t.far, .int .i64 t.harm, .int .i64 t.many] from by have := ((TBox.new w #[.int .i64 t.q.wells, .slice Aw t.q.nw cw, .slice Af t.q.nf cf, .slice Ao t.no co, .slice Ap t.np cp, .slice As t.ns cs, .int .i64 t.far, .int .i64 t.harm, .int .i64 t.many] 29).mono (Below.refl _ _)).mono hb; simpa using this)
    clear hb hB1 HD0 HT0 HTB0 HNA0
    obtain ⟨T_0, T_1, T_2, T_3, T_4, T_5, T_6, T_7, T_8, T_l⟩ := T1.out.c9
    go_wp2_with fail
    refine ((by have := wholeP_any Aw Af Ao Ap As cw cf co cp cs t (b : Int) w1 HSM.out HT1.out HTB1.out HNA1.out; rw [whole_can HOK.out HNE.out HB2.out HC.out, HY.out] at this; exact this : Calls Tryz.prog 49 #[.agg #[.int .i64 t.q.wells, .slice Aw t.q.nw cw, .slice Af t.q.nf cf, .slice Ao t.no co, .slice Ap t.np cp, .slice As t.ns cs, .int .i64 t.far, .int .i64 t.harm, .int .i64 t.many], .int .i64 (b : Int)] w1 fun e w' => e = .returned (.tuple #[.int .i64 y, .int .i64 0]) ∧ Below w1.heap.size w1 w')).mono ?_
    rintro e w2 ⟨rfl, hb⟩
    have hB2 : Below w1.heap.size w1 w2 := bTrans (Below.refl _ _) hb
    have HD2 := Lib.hid (bTrans HD1.out hB2)
    have HT2 := Lib.hid (HT1.out.mono hB2)
    have HTB2 := Lib.hid (HTB1.out.mono hB2)
    have HNA2 := Lib.hid (HNA1.out.mono hB2)
    have T2 := Lib.hid (T1.out.mono hB2)
    clear hb hB2 HD1 HT1 HTB1 HNA1 T1 T_0 T_1 T_2 T_3 T_4 T_5 T_6 T_7 T_8 T_l
    obtain ⟨T_0, T_1, T_2, T_3, T_4, T_5, T_6, T_7, T_8, T_l⟩ := T2.out.c9
    go_wp2_with fail
    refine (hasB_in HB2.out ▸ isSpotN9_any Aw Af Ao Ap As cw cf co cp cs t (b : Int) _ HSM.out.ns).mono ?_
    rintro e w3 ⟨rfl, hb⟩
    have hB3 : Below w2.heap.size w2 w3 := bTrans (Below.refl _ _) hb
    have HD3 := Lib.hid (bTrans HD2.out hB3)
    have HT3 := Lib.hid (HT2.out.mono hB3)
    have HTB3 := Lib.hid (HTB2.out.mono hB3)
    have HNA3 := Lib.hid (HNA2.out.mono hB3)
    have T3 := Lib.hid (T2.out.mono hB3)
    clear hb hB3 HD2 HT2 HTB2 HNA2 T2 T_0 T_1 T_2 T_3 T_4 T_5 T_6 T_7 T_8 T_l
    obtain ⟨T_0, T_1, T_2, T_3, T_4, T_5, T_6, T_7, T_8, T_l⟩ := T3.out.c9
    go_wp2_with fail
    go_ret2
    exact ⟨by rw [HVY.out] <;> rfl, HD3.out⟩
set_option maxHeartbeats 8000000 in
set_option maxRecDepth 100000 in
theorem pairV9_any (Aw Af Ao Ap As : Option Addr) (cw cf co cp cs : Nat) (t : Pt) (w : World) (hs : t.Small) (hT : PAt w Aw Af Ao Ap As t) (hB : TabAt w) (hN : NoneAt w) (ok : t.Ok) (hne : t.q.leftL ≠ []) :
    Calls Tryz.prog 57 #[.agg #[.int .i64 t.q.wells, .slice Aw t.q.nw cw, .slice Af t.q.nf cf, .slice Ao t.no co, .slice Ap t.np cp, .slice As t.ns cs, .int .i64 t.far, .int .i64 t.harm, .int .i64 t.many]] w fun e w' => e = .returned (.tuple #[.int .i64 t.pairV, .bool true]) ∧ Below w.heap.size w w' := by
  have HD0 := Lib.hid (Below.refl w.heap.size w)
  have HSM := Lib.hid hs
  have HT0 := Lib.hid hT
  have HTB0 := Lib.hid hB
  have HNA0 := Lib.hid hN
  have HOK := Lib.hid ok
  have HNE := Lib.hid hne
  clear hs hT hB hN ok hne
  go_enter Tryz.func57, Tryz.ntmps57
  rcases pairV_cases HOK.out with ⟨hl, hv, _⟩ | ⟨a, b, ha, hb_, hm, hp, hv, _⟩
  · skip
    have HV := Lib.hid hv
    have HP := Lib.hid (show t.pairOut = (0, 0, 3) by unfold Pt.pairOut; rw [Pt.knowErr_ok HOK.out HNE.out, if_pos rfl, if_pos hl])
    clear hl hv
    go_wp2_with fail
    refine ((by have := pairP_any Aw Af Ao Ap As cw cf co cp cs t (w.alloc (.cells #[.int .i64 t.q.wells, .slice Aw t.q.nw cw, .slice Af t.q.nf cf, .slice Ao t.no co, .slice Ap t.np cp, .slice As t.ns cs, .int .i64 t.far, .int .i64 t.harm, .int .i64 t.many] 29)) HSM.out (HT0.out.mono (bAlloc (Below.refl _ _) (.cells #[.int .i64 t.q.wells, .slice Aw t.q.nw cw, .slice Af t.q.nf cf, .slice Ao t.no co, .slice Ap t.np cp, .slice As t.ns cs, .int .i64 t.far, .int .i64 t.harm, .int .i64 t.many] 29))) (HTB0.out.mono (bAlloc (Below.refl _ _) (.cells #[.int .i64 t.q.wells, .slice Aw t.q.nw cw, .slice Af t.q.nf cf, .slice Ao t.no co, .slice Ap t.np cp, .slice As t.ns cs, .int .i64 t.far, .int .i64 t.harm, .int .i64 t.many] 29))) (HNA0.out.mono (bAlloc (Below.refl _ _) (.cells #[.int .i64 t.q.wells, .slice Aw t.q.nw cw, .slice Af t.q.nf cf, .slice Ao t.no co, .slice Ap t.np cp, .slice As t.ns cs, .int .i64 t.far, .int .i64 t.harm, .int .i64 t.many] 29))); rw [HP.out] at this; exact this : Calls Tryz.prog 48 #[.agg #[.int .i64 t.q.wells, .slice Aw t.q.nw cw, .slice Af t.q.nf cf, .slice Ao t.no co, .slice Ap t.np cp, .slice As t.ns cs, .int .i64 t.far, .int .i64 t.harm, .int .i64 t.many]] (w.alloc (.cells #[.int .i64 t.q.wells, .slice Aw t.q.nw cw, .slice Af t.q.nf cf, .slice Ao t.no co, .slice Ap t.np cp, .slice As t.ns cs, .int .i64 t.far, .int .i64 t.harm, .int .i64 t.many] 29)) fun e w' => e = .returned (.tuple #[.int .i64 0, .int .i64 0, .int .i64 3]) ∧ Below (w.alloc (.cells #[.int .i64 t.q.wells, .slice Aw t.q.nw cw, .slice Af t.q.nf cf, .slice Ao t.no co, .slice Ap t.np cp, .slice As t.ns cs, .int .i64 t.far, .int .i64 t.harm, .int .i64 t.many] 29)).heap.size (w.alloc (.cells #[.int .i64 t.q.wells, .slice Aw t.q.nw cw, .slice Af t.q.nf cf, .slice Ao t.no co, .slice Ap t.np cp, .slice As t.ns cs, .int .i64 t.far, .int .i64 t.harm, .int .i64 t.many] 29)) w')).mono ?_
    rintro e w1 ⟨rfl, hb⟩
    have hB1 : Below w.heap.size w w1 := bTrans (bAlloc (Below.refl _ _) (.cells #[.int .i64 t.q.wells, .slice Aw t.q.nw cw, .slice Af t.q.nf cf, .slice Ao t.no co, .slice Ap t.np cp, .slice As t.ns cs, .int .i64 t.far, .int .i64 t.harm, .int .i64 t.many] 29)) hb
    have HD1 := Lib.hid (bTrans HD0.out hB1)
    have HT1 := Lib.hid (HT0.out.mono hB1)
    have HTB1 := Lib.hid (HTB0.out.mono hB1)
    have HNA1 := Lib.hid (HNA0.out.mono hB1)
    have T1 := Lib.hid (show TBox w1 w.heap.size 29 #[.int .i64 t.q.wells, .slice Aw t.q.nw cw, .slice Af t.q.nf cf, .slice Ao t.no co, .slice Ap t.np cp, .slice As t.ns cs, .int .i64 t.far, .int .i64 t.harm, .int .i64 t.many] from by have := ((TBox.new w #[.int .i64 t.q.wells, .slice Aw t.q.nw cw, .slice Af t.q.nf cf, .slice Ao t.no co, .slice Ap t.np cp, .slice As t.ns cs, .int .i64 t.far, .int .i64 t.harm, .int .i64 t.many] 29).mono (Below.refl _ _)).mono hb; simpa using this)
    clear hb hB1 HD0 HT0 HTB0 HNA0
    obtain ⟨T_0, T_1, T_2, T_3, T_4, T_5, T_6, T_7, T_8, T_l⟩ := T1.out.c9
    go_wp2_with fail
    go_ret2
    exact ⟨by rw [HV.out] <;> rfl, HD1.out⟩
  · skip
    have hm4 := mayB_iff.1 hm
    have hA := whole_bd HOK.out ha
    have hBb := whole_bd HOK.out hb_
    obtain ⟨m, hm1⟩ : ∃ y, t.whole a = y := ⟨_, rfl⟩
    obtain ⟨mm, hm2⟩ : ∃ y, t.whole b = y := ⟨_, rfl⟩
    have HMM := Lib.hid (And.intro hm1 hm2)
    rw [hm1, hm2] at hv hp
    rw [hm1] at hA
    rw [hm2] at hBb
    have HV := Lib.hid hv
    have HP := Lib.hid (show t.pairOut = ((a : Int), (b : Int), 0) by unfold Pt.pairOut; rw [Pt.knowErr_ok HOK.out HNE.out, if_pos rfl, hp, if_neg (by show ¬ m + mm < 0; omega)])
    have HA := Lib.hid ha
    have HB := Lib.hid hb_
    have HCA := Lib.hid hm4.1
    have HCB := Lib.hid hm4.2.1
    have hab1 : ¬ (a : Int) ≥ (b : Int) := by have := hm4.2.2.1; omega
    have hab2 : ¬ b ≤ a := by have := hm4.2.2.1; omega
    obtain ⟨u, hu⟩ : ∃ u, (t.spot a).at_ = u := ⟨_, rfl⟩
    obtain ⟨v, hv2⟩ : ∃ v, (t.spot b).at_ = v := ⟨_, rfl⟩
    have HUV := Lib.hid (And.intro hu hv2)
    obtain ⟨d, hd⟩ : ∃ d, dst u v = d := ⟨_, rfl⟩
    have hua := And.intro (HOK.out.spot a ha).a0 (HOK.out.spot a ha).a1
    have hvb := And.intro (HOK.out.spot b hb_).a0 (HOK.out.spot b hb_).a1
    rw [hu] at hua
    rw [hv2] at hvb
    have hfar := hm4.2.2.2
    rw [hu, hv2, hd] at hfar
    have hfar1 : decide (d ≥ t.far) = true := by simpa using hfar
    have hfar2 : decide (t.far ≤ d) = true := by simpa using hfar
    have HDI := Lib.hid (fun w' => hd ▸ dist9_any u v w' hua hvb : ∀ w' : World, Calls Tryz.prog 58 #[.int .i64 u, .int .i64 v] w' fun e w'' => e = .returned (.int .i64 d) ∧ Below w'.heap.size w' w'')
    obtain ⟨lo, hlo⟩ : ∃ lo, (if mm < m then mm else m) = lo := ⟨_, rfl⟩
    have hlo0 : ¬ lo < 0 := by rw [← hlo]; split <;> omega
    obtain ⟨hi, hhi⟩ : ∃ hi, (if m < mm then mm else m) = hi := ⟨_, rfl⟩
    have hhi0 : ¬ hi ≥ 50000 := by rw [← hhi]; split <;> omega
    have hhi1 : ¬ 50000 ≤ hi := by omega
    have hwr : IntKind.i64.wrap (m + mm) = m + mm := IntWalk.i64_in _ (by omega)
    have ha1 : (a : Int) < (t.ns : Int) := by omega
    have hb1 : (b : Int) < (t.ns : Int) := by omega
    have ha0 : (0 : Int) ≤ (a : Int) := by omega
    have hb0 : (0 : Int) ≤ (b : Int) := by omega
    clear hm hp hv ha hb_ hm4 hm1 hm2 hA hBb hu hv2 hd hua hvb hfar
    go_wp2_with fail
    refine ((by have := pairP_any Aw Af Ao Ap As cw cf co cp cs t (w.alloc (.cells #[.int .i64 t.q.wells, .slice Aw t.q.nw cw, .slice Af t.q.nf cf, .slice Ao t.no co, .slice Ap t.np cp, .slice As t.ns cs, .int .i64 t.far, .int .i64 t.harm, .int .i64 t.many] 29)) HSM.out (HT0.out.mono (bAlloc (Below.refl _ _) (.cells #[.int .i64 t.q.wells, .slice Aw t.q.nw cw, .slice Af t.q.nf cf, .slice Ao t.no co, .slice Ap t.np cp, .slice As t.ns cs, .int .i64 t.far, .int .i64 t.harm, .int .i64 t.many] 29))) (HTB0.out.mono (bAlloc (Below.refl _ _) (.cells #[.int .i64 t.q.wells, .slice Aw t.q.nw cw, .slice Af t.q.nf cf, .slice Ao t.no co, .slice Ap t.np cp, .slice As t.ns cs, .int .i64 t.far, .int .i64 t.harm, .int .i64 t.many] 29))) (HNA0.out.mono (bAlloc (Below.refl _ _) (.cells #[.int .i64 t.q.wells, .slice Aw t.q.nw cw, .slice Af t.q.nf cf, .slice Ao t.no co, .slice Ap t.np cp, .slice As t.ns cs, .int .i64 t.far, .int .i64 t.harm, .int .i64 t.many] 29))); rw [HP.out] at this; exact this : Calls Tryz.prog 48 #[.agg #[.int .i64 t.q.wells, .slice Aw t.q.nw cw, .slice Af t.q.nf cf, .slice Ao t.no co, .slice Ap t.np cp, .slice As t.ns cs, .int .i64 t.far, .int .i64 t.harm, .int .i64 t.many]] (w.alloc (.cells #[.int .i64 t.q.wells, .slice Aw t.q.nw cw, .slice Af t.q.nf cf, .slice Ao t.no co, .slice Ap t.np cp, .slice As t.ns cs, .int .i64 t.far, .int .i64 t.harm, .int .i64 t.many] 29)) fun e w' => e = .returned (.tuple #[.int .i64 (a : Int), .int .i64 (b : Int), .int .i64 0]) ∧ Below (w.alloc (.cells #[.int .i64 t.q.wells, .slice Aw t.q.nw cw, .slice Af t.q.nf cf, .slice Ao t.no co, .slice Ap t.np cp, .slice As t.ns cs, .int .i64 t.far, .int .i64 t.harm, .int .i64 t.many] 29)).heap.size (w.alloc (.cells #[.int .i64 t.q.wells, .slice Aw t.q.nw cw, .slice Af t.q.nf cf, .slice Ao t.no co, .slice Ap t.np cp, .slice As t.ns cs, .int .i64 t.far, .int .i64 t.harm, .int .i64 t.many] 29)) w')).mono ?_
    rintro e w1 ⟨rfl, hb⟩
    have hB1 : Below w.heap.size w w1 := bTrans (bAlloc (Below.refl _ _) (.cells #[.int .i64 t.q.wells, .slice Aw t.q.nw cw, .slice Af t.q.nf cf, .slice Ao t.no co, .slice Ap t.np cp, .slice As t.ns cs, .int .i64 t.far, .int .i64 t.harm, .int .i64 t.many] 29)) hb
    have HD1 := Lib.hid (bTrans HD0.out hB1)
    have HT1 := Lib.hid (HT0.out.mono hB1)
    have HTB1 := Lib.hid (HTB0.out.mono hB1)
    have HNA1 := Lib.hid (HNA0.out.mono hB1)
    have T1 := Lib.hid (show TBox w1 w.heap.size 29 #[.int .i64 t.q.wells, .slice Aw t.q.nw cw, .slice Af t.q.nf cf, .slice Ao t.no co, .slice Ap t.np cp, .slice As t.ns cs, .int .i64 t.far, .int .i64 t.harm, .int .i64 t.many] from by have := ((TBox.new w #[.int .i64 t.q.wells, .slice Aw t.q.nw cw, .slice Af t.q.nf cf, .slice Ao t.no co, .slice Ap t.np cp, .slice As t.ns cs, .int .i64 t.far, .int .i64 t.harm, .int .i64 t.many] 29).mono (Below.refl _ _)).mono hb; simpa using this)
    clear hb hB1 HD0 HT0 HTB0 HNA0
    obtain ⟨T_0, T_1, T_2, T_3, T_4, T_5, T_6, T_7, T_8, T_l⟩ := T1.out.c9
    go_wp2_with fail
    refine ((by have := wholeP_any Aw Af Ao Ap As cw cf co cp cs t (a : Int) w1 HSM.out HT1.out HTB1.out HNA1.out; rw [whole_can HOK.out HNE.out HA.out HCA.out, HMM.out.1] at this; exact this : Calls Tryz.prog 49 #[.agg #[.int .i64 t.q.wells, .slice Aw t.q.nw cw, .slice Af t.q.nf cf, .slice Ao t.no co, .slice Ap t.np cp, .slice As t.ns cs, .int .i64 t.far, .int .i64 t.harm, .int .i64 t.many], .int .i64 (a : Int)] w1 fun e w' => e = .returned (.tuple #[.int .i64 m, .int .i64 0]) ∧ Below w1.heap.size w1 w')).mono ?_
    rintro e w2 ⟨rfl, hb⟩
    have hB2 : Below w1.heap.size w1 w2 := bTrans (Below.refl _ _) hb
    have HD2 := Lib.hid (bTrans HD1.out hB2)
    have HT2 := Lib.hid (HT1.out.mono hB2)
    have HTB2 := Lib.hid (HTB1.out.mono hB2)
    have HNA2 := Lib.hid (HNA1.out.mono hB2)
    have T2 := Lib.hid (T1.out.mono hB2)
    clear hb hB2 HD1 HT1 HTB1 HNA1 T1 T_0 T_1 T_2 T_3 T_4 T_5 T_6 T_7 T_8 T_l
    obtain ⟨T_0, T_1, T_2, T_3, T_4, T_5, T_6, T_7, T_8, T_l⟩ := T2.out.c9
    go_wp2_with fail
    refine ((by have := wholeP_any Aw Af Ao Ap As cw cf co cp cs t (b : Int) w2 HSM.out HT2.out HTB2.out HNA2.out; rw [whole_can HOK.out HNE.out HB.out HCB.out, HMM.out.2] at this; exact this : Calls Tryz.prog 49 #[.agg #[.int .i64 t.q.wells, .slice Aw t.q.nw cw, .slice Af t.q.nf cf, .slice Ao t.no co, .slice Ap t.np cp, .slice As t.ns cs, .int .i64 t.far, .int .i64 t.harm, .int .i64 t.many], .int .i64 (b : Int)] w2 fun e w' => e = .returned (.tuple #[.int .i64 mm, .int .i64 0]) ∧ Below w2.heap.size w2 w')).mono ?_
    rintro e w3 ⟨rfl, hb⟩
    have hB3 : Below w2.heap.size w2 w3 := bTrans (Below.refl _ _) hb
    have HD3 := Lib.hid (bTrans HD2.out hB3)
    have HT3 := Lib.hid (HT2.out.mono hB3)
    have HTB3 := Lib.hid (HTB2.out.mono hB3)
    have HNA3 := Lib.hid (HNA2.out.mono hB3)
    have T3 := Lib.hid (T2.out.mono hB3)
    clear hb hB3 HD2 HT2 HTB2 HNA2 T2 T_0 T_1 T_2 T_3 T_4 T_5 T_6 T_7 T_8 T_l
    obtain ⟨T_0, T_1, T_2, T_3, T_4, T_5, T_6, T_7, T_8, T_l⟩ := T3.out.c9
    go_wp2_with fail
    refine (hasB_in HA.out ▸ isSpotN9_any Aw Af Ao Ap As cw cf co cp cs t (a : Int) _ HSM.out.ns).mono ?_
    rintro e w4 ⟨rfl, hb⟩
    have hB4 : Below w3.heap.size w3 w4 := bTrans (Below.refl _ _) hb
    have HD4 := Lib.hid (bTrans HD3.out hB4)
    have HT4 := Lib.hid (HT3.out.mono hB4)
    have HTB4 := Lib.hid (HTB3.out.mono hB4)
    have HNA4 := Lib.hid (HNA3.out.mono hB4)
    have T4 := Lib.hid (T3.out.mono hB4)
    clear hb hB4 HD3 HT3 HTB3 HNA3 T3 T_0 T_1 T_2 T_3 T_4 T_5 T_6 T_7 T_8 T_l
    obtain ⟨T_0, T_1, T_2, T_3, T_4, T_5, T_6, T_7, T_8, T_l⟩ := T4.out.c9
    go_wp2_with fail
    refine (hasB_in HB.out ▸ isSpotN9_any Aw Af Ao Ap As cw cf co cp cs t (b : Int) _ HSM.out.ns).mono ?_
    rintro e w5 ⟨rfl, hb⟩
    have hB5 : Below w4.heap.size w4 w5 := bTrans (Below.refl _ _) hb
    have HD5 := Lib.hid (bTrans HD4.out hB5)
    have HT5 := Lib.hid (HT4.out.mono hB5)
    have HTB5 := Lib.hid (HTB4.out.mono hB5)
    have HNA5 := Lib.hid (HNA4.out.mono hB5)
    have T5 := Lib.hid (T4.out.mono hB5)
    clear hb hB5 HD4 HT4 HTB4 HNA4 T4 T_0 T_1 T_2 T_3 T_4 T_5 T_6 T_7 T_8 T_l
    obtain ⟨T_0, T_1, T_2, T_3, T_4, T_5, T_6, T_7, T_8, T_l⟩ := T5.out.c9
    go_wp2_with fail
    obtain ⟨bs, os_, Ar, Af2, Ax, cr, cf2, cx, hA, hbs, _, _, p0, _⟩ := HT5.out.spots.get HA.out
    obtain ⟨bs', os', Ar', Af2', Ax', cr', cf2', cx', hA', _, _, _, q0, _⟩ := HT5.out.spots.get HB.out
    obtain ⟨rfl, rfl⟩ : bs = bs' ∧ os_ = os' := by rw [hA] at hA'; injection hA' with hA'; injection hA' with h1 h2; exact ⟨h1, h2⟩
    rw [HUV.out.1] at p0
    rw [HUV.out.2] at q0
    subst hA
    clear hA'
    go_wp2_with fail
    refine wp_region_quiet_below (by kernel_rfl) (by kernel_rfl) ?_
    repeat (go_big_quiet_step ((go_at_call 58; exact Calls.regrown_of (HDI.out _))))
    refine wpQuiet_nil ?_
    intro w6 hw9
    have hb := below_of_regrown hw9
    clear hw9
    clear p0 q0 hbs HDI
    have hB6 : Below w5.heap.size w5 w6 := bTrans (Below.refl _ _) hb
    have HD6 := Lib.hid (bTrans HD5.out hB6)
    have HT6 := Lib.hid (HT5.out.mono hB6)
    have HTB6 := Lib.hid (HTB5.out.mono hB6)
    have HNA6 := Lib.hid (HNA5.out.mono hB6)
    have T6 := Lib.hid (T5.out.mono hB6)
    clear hb hB6 HD5 HT5 HTB5 HNA5 T5 T_0 T_1 T_2 T_3 T_4 T_5 T_6 T_7 T_8 T_l
    obtain ⟨T_0, T_1, T_2, T_3, T_4, T_5, T_6, T_7, T_8, T_l⟩ := T6.out.c9
    go_wp2_with fail
    go_ret2
    exact ⟨by rw [HV.out] <;> rfl, HD6.out⟩
end Go.Proofs.YtjpfdhhiofjpbaaGreatDoor
