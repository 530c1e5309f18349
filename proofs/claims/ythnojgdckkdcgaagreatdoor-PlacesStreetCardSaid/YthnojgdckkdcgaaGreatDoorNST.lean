/- Parts joined: what all claims of this seat need. -/
import Derived.Test.YthnojgdckkdcgaaGreatDoorNSS
import Derived.Test.YthnojgdckkdcgaaGreatDoorNSD
import Derived.Test.YthnojgdckkdcgaaGreatDoorNSQ
import Derived.Test.YthnojgdckkdcgaaGreatDoorNSL
import Derived.Deep.LoopGhost
import Derived.Test.YthnojgdckkdcgaaGreatDoorNSE
import Derived.Test.YthnojgdckkdcgaaGreatDoorNSP
import Derived.Test.YthnojgdckkdcgaaGreatDoorNSB
import Derived.Test.YthnojgdckkdcgaaGreatDoorNSM
import Derived.Test.YthnojgdckkdcgaaGreatDoorNSH
import Derived.Test.YthnojgdckkdcgaaGreatDoorNSJ
import Derived.Test.YthnojgdckkdcgaaGreatDoorNSI
import Derived.Test.YthnojgdckkdcgaaGreatDoorNSA
import Derived.RegionTactic
set_option linter.unusedSimpArgs false
set_option linter.unusedVariables false
namespace Go.Proofs.YthnojgdckkdcgaaGreatDoor
open Go.RowKit Go.Sort
/-- some Bool -/
def SomeB (e : Ending) : Prop := ∃ b, e = .returned (.bool b)
/-- some Bool, that says that a town is valid -/
def ReadyB (t : Pt) (e : Ending) : Prop := ∃ b, e = .returned (.bool b) ∧ (b = true → t.Ok)
set_option maxHeartbeats 8000000 in
set_option maxRecDepth 100000 in
theorem far9_any (Aw Af Ao Ap As : Option Addr) (cw cf co cp cs : Nat) (t : Pt) (w : World) (hs : t.Small) (hT : PAt w Aw Af Ao Ap As t) :
    Calls Tryz.prog 33 #[.agg #[.int .i64 t.q.wells, .slice Aw t.q.nw cw, .slice Af t.q.nf cf, .slice Ao t.no co, .slice Ap t.np cp, .slice As t.ns cs, .int .i64 t.far, .int .i64 t.harm, .int .i64 t.many]] w fun e w' => SomeB e ∧ Below w.heap.size w w' := by
  have HD0 := Lib.hid (Below.refl w.heap.size w)
  have HSM := Lib.hid hs
  have HT0 := Lib.hid hT
  clear hs hT
  go_enter Tryz.func33, Tryz.ntmps33
  go_wp2_with fail
  refine (huge_any Aw Af cw cf t.q _ HSM.out.q (HT0.out.mono (bAlloc (Below.refl _ _) (.cells #[.int .i64 t.q.wells, .slice Aw t.q.nw cw, .slice Af t.q.nf cf, .slice Ao t.no co, .slice Ap t.np cp, .slice As t.ns cs, .int .i64 t.far, .int .i64 t.harm, .int .i64 t.many] 62))).q).mono ?_
  rintro e w1 ⟨rfl, hb⟩
  have hB1 : Below w.heap.size w w1 := bTrans (bAlloc (Below.refl _ _) (.cells #[.int .i64 t.q.wells, .slice Aw t.q.nw cw, .slice Af t.q.nf cf, .slice Ao t.no co, .slice Ap t.np cp, .slice As t.ns cs, .int .i64 t.far, .int .i64 t.harm, .int .i64 t.many] 62)) hb
  have HD1 := Lib.hid (bTrans HD0.out hB1)
  have HT1 := Lib.hid (HT0.out.mono hB1)
  have T1 := Lib.hid (show TBox w1 w.heap.size 62 #[.int .i64 t.q.wells, .slice Aw t.q.nw cw, .slice Af t.q.nf cf, .slice Ao t.no co, .slice Ap t.np cp, .slice As t.ns cs, .int .i64 t.far, .int .i64 t.harm, .int .i64 t.many] from by have := ((TBox.new w #[.int .i64 t.q.wells, .slice Aw t.q.nw cw, .slice Af t.q.nf cf, .slice Ao t.no co, .slice Ap t.np cp, .slice As t.ns cs, .int .i64 t.far, .int .i64 t.harm, .int .i64 t.many] 62).mono (Below.refl _ _)).mono hb; simpa using this)
  clear hb hB1 HD0 HT0
  obtain ⟨T_0, T_1, T_2, T_3, T_4, T_5, T_6, T_7, T_8, T_l⟩ := T1.out.c9
  cases t.q.huge
  case true =>
    go_wp2_with fail
    go_ret
    exact ⟨⟨_, rfl⟩, HD1.out⟩
  by_cases h1 : 40 < t.no
  case pos =>
    have p1 : (40 : Int) < (t.no : Int) := by omega
    have q1 : decide ((t.no : Int) > 40) = true := by simp; omega
    go_wp2_with fail
    go_ret
    exact ⟨⟨_, rfl⟩, HD1.out⟩
  have p1 : ¬ (40 : Int) < (t.no : Int) := by omega
  have q1 : decide ((t.no : Int) > 40) = false := by simp; omega
  have r1 : decide ((40 : Int) < (t.no : Int)) = false := by simp; omega
  have m1 : t.no ≤ 40 := by omega
  by_cases h2 : 40 < t.np
  case pos =>
    have p2 : (40 : Int) < (t.np : Int) := by omega
    have q2 : decide ((t.np : Int) > 40) = true := by simp; omega
    go_wp2_with fail
    go_ret
    exact ⟨⟨_, rfl⟩, HD1.out⟩
  have p2 : ¬ (40 : Int) < (t.np : Int) := by omega
  have q2 : decide ((t.np : Int) > 40) = false := by simp; omega
  have r2 : decide ((40 : Int) < (t.np : Int)) = false := by simp; omega
  have m2 : t.np ≤ 40 := by omega
  by_cases h3 : 40 < t.ns
  case pos =>
    have p3 : (40 : Int) < (t.ns : Int) := by omega
    have q3 : decide ((t.ns : Int) > 40) = true := by simp; omega
    go_wp2_with fail
    go_ret
    exact ⟨⟨_, rfl⟩, HD1.out⟩
  have p3 : ¬ (40 : Int) < (t.ns : Int) := by omega
  have q3 : decide ((t.ns : Int) > 40) = false := by simp; omega
  have r3 : decide ((40 : Int) < (t.ns : Int)) = false := by simp; omega
  have m3 : t.ns ≤ 40 := by omega
  go_wp2_with fail
  clear p1 q1 r1 p2 q2 r2 p3 q3 r3 h1 h2 h3
  clear T_0 T_1 T_2 T_3 T_4 T_5 T_6 T_7 T_8 T_l
  go_loopw [3, 4] (fun s3 s4 wr => ∃ k : Nat, k ≤ t.ns ∧ s4 = .int .i64 (k : Int) ∧ (∃ d, s3 = Value.bool d) ∧ Below w1.heap.size w1 wr) (fun _ s4 _ => t.ns - (intOf s4).toNat)
  case atStart => exact ⟨0, Nat.zero_le _, rfl, ⟨_, rfl⟩, Below.refl _ _⟩
  case round =>
    obtain ⟨k, hk_k, rfl, hd3, hb⟩ := hrel
    have HBk := Lib.hid hb
    have HD3 := Lib.hid hd3
    clear hd3
    have hB2 : Below w1.heap.size w1 wr := bTrans (Below.refl _ _) hb
    have HD2 := Lib.hid (bTrans HD1.out hB2)
    have HT2 := Lib.hid (HT1.out.mono hB2)
    have HU_k2 := Lib.hid ((show Upto w1 wr from HBk.out))
    have T2 := Lib.hid (T1.out.mono hB2)
    clear hb hB2
    obtain ⟨T_0, T_1, T_2, T_3, T_4, T_5, T_6, T_7, T_8, T_l⟩ := T2.out.c9
    obtain ⟨d, rfl⟩ := HD3.out
    clear HD3
    by_cases hlt_k : k < t.ns
    case pos =>
      have h1_k : (k : Int) < (t.ns : Int) := by omega
      have h0_k : (0 : Int) ≤ (k : Int) := by omega
      obtain ⟨b, o, Ar, Af2, Ax, cr, cf2, cx, hA, hb7, hsh, hrow, s0, s1, s2, s3, s4, s5, s6⟩ := HT2.out.spots.get hlt_k
      have HXS := Lib.hid (HSM.out.spot k hlt_k)
      obtain ⟨x, hxx⟩ : ∃ x, t.spot k = x := ⟨_, rfl⟩
      rw [hxx] at s0 s1 s2 s3 s4 s5 s6 hsh hrow HXS
      have HSH2 := Lib.hid hsh
      have HRW2 := Lib.hid hrow
      have hnr := HXS.out.nr
      have hnf := HXS.out.nf
      have hnn := HXS.out.n
      subst hA
      clear hsh hrow hxx
      by_cases h4 : 40 < x.sh.nr
      case pos =>
        have p4 : (40 : Int) < (x.sh.nr : Int) := by omega
        have q4 : decide ((x.sh.nr : Int) > 40) = true := by simp; omega
        go_wp2_with fail
        go_ret
        exact ⟨⟨_, rfl⟩, (bTrans HD2.out (bAlloc (Below.refl _ _) (.cells #[.int .i64 x.at_, .slice Ar x.sh.nr cr, .slice Af2 x.sh.nf cf2, .int .i64 x.sh.deep, .int .i64 x.sh.haul, .int .i64 x.sh.rest, .slice Ax x.fl.n cx] 71)))⟩
      have p4 : ¬ (40 : Int) < (x.sh.nr : Int) := by omega
      have q4 : decide ((x.sh.nr : Int) > 40) = false := by simp; omega
      have r4 : decide ((40 : Int) < (x.sh.nr : Int)) = false := by simp; omega
      have m4 : x.sh.nr ≤ 40 := by omega
      by_cases h5 : 40 < x.sh.nf
      case pos =>
        have p5 : (40 : Int) < (x.sh.nf : Int) := by omega
        have q5 : decide ((x.sh.nf : Int) > 40) = true := by simp; omega
        go_wp2_with fail
        go_ret
        exact ⟨⟨_, rfl⟩, (bTrans HD2.out (bAlloc (Below.refl _ _) (.cells #[.int .i64 x.at_, .slice Ar x.sh.nr cr, .slice Af2 x.sh.nf cf2, .int .i64 x.sh.deep, .int .i64 x.sh.haul, .int .i64 x.sh.rest, .slice Ax x.fl.n cx] 71)))⟩
      have p5 : ¬ (40 : Int) < (x.sh.nf : Int) := by omega
      have q5 : decide ((x.sh.nf : Int) > 40) = false := by simp; omega
      have r5 : decide ((40 : Int) < (x.sh.nf : Int)) = false := by simp; omega
      have m5 : x.sh.nf ≤ 40 := by omega
      by_cases h6 : 40 < x.fl.n
      case pos =>
        have p6 : (40 : Int) < (x.fl.n : Int) := by omega
        have q6 : decide ((x.fl.n : Int) > 40) = true := by simp; omega
        go_wp2_with fail
        go_ret
        exact ⟨⟨_, rfl⟩, (bTrans HD2.out (bAlloc (Below.refl _ _) (.cells #[.int .i64 x.at_, .slice Ar x.sh.nr cr, .slice Af2 x.sh.nf cf2, .int .i64 x.sh.deep, .int .i64 x.sh.haul, .int .i64 x.sh.rest, .slice Ax x.fl.n cx] 71)))⟩
      have p6 : ¬ (40 : Int) < (x.fl.n : Int) := by omega
      have q6 : decide ((x.fl.n : Int) > 40) = false := by simp; omega
      have r6 : decide ((40 : Int) < (x.fl.n : Int)) = false := by simp; omega
      have m6 : x.fl.n ≤ 40 := by omega
      go_wp2_with fail
      clear s0 s1 s2 s3 s4 s5 s6 hb7 p4 q4 r4 p5 q5 r5 p6 q6 r6 h4 h5 h6
      obtain ⟨wl130, hwl⟩ : ∃ y, y = wr := ⟨_, rfl⟩
      subst hwl
      clear T_0 T_1 T_2 T_3 T_4 T_5 T_6 T_7 T_8 T_l
      go_loopw [6] (fun s6 wr => ∃ j : Nat, j ≤ x.fl.n ∧ s6 = .int .i64 (j : Int) ∧ Below (wl130.alloc (.cells #[.int .i64 x.at_, .slice Ar x.sh.nr cr, .slice Af2 x.sh.nf cf2, .int .i64 x.sh.deep, .int .i64 x.sh.haul, .int .i64 x.sh.rest, .slice Ax x.fl.n cx] 71)).heap.size (wl130.alloc (.cells #[.int .i64 x.at_, .slice Ar x.sh.nr cr, .slice Af2 x.sh.nf cf2, .int .i64 x.sh.deep, .int .i64 x.sh.haul, .int .i64 x.sh.rest, .slice Ax x.fl.n cx] 71)) wr) (fun s6 _ => x.fl.n - (intOf s6).toNat)
      case atStart => exact ⟨0, Nat.zero_le _, rfl, Below.refl _ _⟩
      case round =>
        obtain ⟨j, hk_j, rfl, hb⟩ := hrel
        have HBj := Lib.hid hb
        have hB3 : Below wl130.heap.size wl130 wr := bTrans (bAlloc (Below.refl _ _) (.cells #[.int .i64 x.at_, .slice Ar x.sh.nr cr, .slice Af2 x.sh.nf cf2, .int .i64 x.sh.deep, .int .i64 x.sh.haul, .int .i64 x.sh.rest, .slice Ax x.fl.n cx] 71)) hb
        have HD3 := Lib.hid (bTrans HD2.out hB3)
        have HT3 := Lib.hid (HT2.out.mono hB3)
        have HU_k3 := Lib.hid (HU_k2.out.mono hB3)
        have HSH3 := Lib.hid (HSH2.out.mono hB3)
        have HRW3 := Lib.hid (HRW2.out.mono hB3)
        have HU_j3 := Lib.hid ((show Upto (wl130.alloc (.cells #[.int .i64 x.at_, .slice Ar x.sh.nr cr, .slice Af2 x.sh.nf cf2, .int .i64 x.sh.deep, .int .i64 x.sh.haul, .int .i64 x.sh.rest, .slice Ax x.fl.n cx] 71)) wr from HBj.out))
        have T3 := Lib.hid (T2.out.mono hB3)
        have S3 := Lib.hid (show TBox wr wl130.heap.size 71 #[.int .i64 x.at_, .slice Ar x.sh.nr cr, .slice Af2 x.sh.nf cf2, .int .i64 x.sh.deep, .int .i64 x.sh.haul, .int .i64 x.sh.rest, .slice Ax x.fl.n cx] from by have := ((TBox.new wl130 #[.int .i64 x.at_, .slice Ar x.sh.nr cr, .slice Af2 x.sh.nf cf2, .int .i64 x.sh.deep, .int .i64 x.sh.haul, .int .i64 x.sh.rest, .slice Ax x.fl.n cx] 71).mono (Below.refl _ _)).mono hb; simpa using this)
        clear hb hB3
        obtain ⟨T_0, T_1, T_2, T_3, T_4, T_5, T_6, T_7, T_8, T_l⟩ := T3.out.c9
        obtain ⟨S_0, S_1, S_2, S_3, S_4, S_5, S_6, S_l⟩ := S3.out.c7
        by_cases hlt_j : j < x.fl.n
        case pos =>
          have h1_j : (j : Int) < (x.fl.n : Int) := by omega
          have h0_j : (0 : Int) ≤ (j : Int) := by omega
          rcases HRW3.out with h0 | ⟨b9, o9, hA, hb9, hcell⟩
          · omega
          obtain ⟨A2, c2, c0, _, hlen⟩ := hcell j hlt_j
          obtain ⟨m, hm⟩ : ∃ m, x.fl.len j = m := ⟨_, rfl⟩
          rw [hm] at c0 hlen
          subst hA
          clear hcell hm
          by_cases h7 : 40 < m
          case pos =>
            have p7 : (40 : Int) < (m : Int) := by omega
            have q7 : decide ((m : Int) > 40) = true := by simp; omega
            go_wp2_with fail
            go_ret
            exact ⟨⟨_, rfl⟩, HD3.out⟩
          have p7 : ¬ (40 : Int) < (m : Int) := by omega
          have q7 : decide ((m : Int) > 40) = false := by simp; omega
          have r7 : decide ((40 : Int) < (m : Int)) = false := by simp; omega
          have m7 : m ≤ 40 := by omega
          go_wp2_with fail
          go_roundw
          case rel =>
            first
            | exact ⟨j + 1, by omega, by go_num, HU_j3.out⟩
            | ((repeat apply Exists.intro)
               refine ⟨⟨j + 1, by omega, ?_, HU_j3.out⟩, rfl⟩
               go_num)
          case measure => simp [intOf]; omega
        have he_j : j = x.fl.n := by omega
        have hj9 : ¬ (j : Int) < (x.fl.n : Int) := by omega
        have hj8 : ¬ j < x.fl.n := by omega
        clear he_j
        cases d
        · skip
          by_cases h8 : 6 < x.sh.nf
          case neg =>
            have p8 : ¬ (6 : Int) < (x.sh.nf : Int) := by omega
            have q8 : decide ((x.sh.nf : Int) > 6) = false := by simp; omega
            go_wp2_with fail
            go_roundw
            case rel =>
              first
              | exact ⟨k + 1, by omega, by go_num, ⟨_, rfl⟩, HU_k3.out⟩
              | ((repeat apply Exists.intro)
                 refine ⟨⟨k + 1, by omega, ?_, ⟨_, rfl⟩, HU_k3.out⟩, rfl⟩
                 go_num)
            case measure => simp [intOf]; omega
          have p8 : (6 : Int) < (x.sh.nf : Int) := by omega
          have q8 : decide ((x.sh.nf : Int) > 6) = true := by simp; omega
          go_wp2_with fail
          refine (refCheck_any Ar Af2 cr cf2 x.sh _ HXS.out.nr HXS.out.nf HSH3.out).mono ?_
          rintro e w4 ⟨rfl, hb⟩
          have hB4 : Below wr.heap.size wr w4 := bTrans (Below.refl _ _) hb
          have HD4 := Lib.hid (bTrans HD3.out hB4)
          have HT4 := Lib.hid (HT3.out.mono hB4)
          have HU_k4 := Lib.hid (HU_k3.out.mono hB4)
          have HSH4 := Lib.hid (HSH3.out.mono hB4)
          have HRW4 := Lib.hid (HRW3.out.mono hB4)
          have HU_j4 := Lib.hid (HU_j3.out.mono hB4)
          have T4 := Lib.hid (T3.out.mono hB4)
          have S4 := Lib.hid (S3.out.mono hB4)
          clear hb hB4 HD3 HT3 HU_k3 HSH3 HRW3 HU_j3 T3 T_0 T_1 T_2 T_3 T_4 T_5 T_6 T_7 T_8 T_l S3 S_0 S_1 S_2 S_3 S_4 S_5 S_6 S_l
          obtain ⟨T_0, T_1, T_2, T_3, T_4, T_5, T_6, T_7, T_8, T_l⟩ := T4.out.c9
          obtain ⟨S_0, S_1, S_2, S_3, S_4, S_5, S_6, S_l⟩ := S4.out.c7
          go_wp2_with fail
          go_roundw
          case rel =>
            first
            | exact ⟨k + 1, by omega, by go_num, ⟨_, rfl⟩, HU_k4.out⟩
            | ((repeat apply Exists.intro)
               refine ⟨⟨k + 1, by omega, ?_, ⟨_, rfl⟩, HU_k4.out⟩, rfl⟩
               go_num)
          case measure => simp [intOf]; omega
        · skip
          go_wp2_with fail
          go_roundw
          case rel =>
            first
            | exact ⟨k + 1, by omega, by go_num, ⟨_, rfl⟩, HU_k3.out⟩
            | ((repeat apply Exists.intro)
               refine ⟨⟨k + 1, by omega, ?_, ⟨_, rfl⟩, HU_k3.out⟩, rfl⟩
               go_num)
          case measure => simp [intOf]; omega
    have he_k : k = t.ns := by omega
    have hk9 : ¬ (k : Int) < (t.ns : Int) := by omega
    have hk8 : ¬ k < t.ns := by omega
    clear he_k
    cases d
    case true =>
      go_wp2_with fail
      go_ret
      exact ⟨⟨_, rfl⟩, HD2.out⟩
    go_wp2_with fail
    refine (refCheck5 _ _ _ _ t.q _ HSM.out.q.1 HSM.out.q.2.1 HT2.out.q).mono ?_
    rintro e w3 ⟨rfl, hb⟩
    have hB3 : Below wr.heap.size wr w3 := bTrans (Below.refl _ _) hb
    have HD3 := Lib.hid (bTrans HD2.out hB3)
    have HT3 := Lib.hid (HT2.out.mono hB3)
    have HU_k3 := Lib.hid (HU_k2.out.mono hB3)
    have T3 := Lib.hid (T2.out.mono hB3)
    clear hb hB3 T_0 T_1 T_2 T_3 T_4 T_5 T_6 T_7 T_8 T_l
    obtain ⟨T_0, T_1, T_2, T_3, T_4, T_5, T_6, T_7, T_8, T_l⟩ := T3.out.c9
    by_cases ok : t.q.Ok
    case neg =>
      rw [Qt.err_bad ok]
      go_wp2_with fail
      go_ret
      exact ⟨⟨_, rfl⟩, HD3.out⟩
    rw [Qt.err_ok ok]
    have HQO := Lib.hid ok
    clear ok
    by_cases h9 : 3 < t.q.wells
    case pos =>
      have p9 : decide (t.q.wells > 3) = true := by simp; omega
      go_wp2_with fail
      go_ret
      exact ⟨⟨_, rfl⟩, HD3.out⟩
    have p9 : decide (t.q.wells > 3) = false := by simp; omega
    go_wp2_with fail
    refine (refLeftOf Aw Af cw cf t.q _ HQO.out HT3.out.q).mono ?_
    rintro e w4 ⟨⟨v, rfl, hv⟩, hb⟩
    obtain ⟨A4, c4, rfl, hi4, _⟩ := left_base hv
    have hB4 : Below w3.heap.size w3 w4 := bTrans (Below.refl _ _) hb
    have HD4 := Lib.hid (bTrans HD3.out hB4)
    have HT4 := Lib.hid (HT3.out.mono hB4)
    have HU_k4 := Lib.hid (HU_k3.out.mono hB4)
    have T4 := Lib.hid (T3.out.mono hB4)
    clear hb hB4 HD3 HT3 HU_k3 T3 T_0 T_1 T_2 T_3 T_4 T_5 T_6 T_7 T_8 T_l
    obtain ⟨T_0, T_1, T_2, T_3, T_4, T_5, T_6, T_7, T_8, T_l⟩ := T4.out.c9
    clear hv hi4
    go_wp2_with fail
    go_ret
    exact ⟨⟨_, rfl⟩, HD4.out⟩
set_option maxHeartbeats 4000000 in
set_option maxRecDepth 100000 in
theorem ready9_any (Aw Af Ao Ap As : Option Addr) (cw cf co cp cs : Nat) (t : Pt) (w : World) (hs : t.Small) (hT : PAt w Aw Af Ao Ap As t) :
    Calls Tryz.prog 22 #[.agg #[.int .i64 t.q.wells, .slice Aw t.q.nw cw, .slice Af t.q.nf cf, .slice Ao t.no co, .slice Ap t.np cp, .slice As t.ns cs, .int .i64 t.far, .int .i64 t.harm, .int .i64 t.many]] w fun e w' => ReadyB t e ∧ Below w.heap.size w w' := by
  have HD0 := Lib.hid (Below.refl w.heap.size w)
  have HSM := Lib.hid hs
  have HT0 := Lib.hid hT
  clear hs hT
  go_enter Tryz.func22, Tryz.ntmps22
  go_wp2_with fail
  refine (far9_any Aw Af Ao Ap As cw cf co cp cs t _ HSM.out (HT0.out.mono (bAlloc (Below.refl _ _) (.cells #[.int .i64 t.q.wells, .slice Aw t.q.nw cw, .slice Af t.q.nf cf, .slice Ao t.no co, .slice Ap t.np cp, .slice As t.ns cs, .int .i64 t.far, .int .i64 t.harm, .int .i64 t.many] 62)))).mono ?_
  rintro e w1 ⟨⟨bf, rfl⟩, hb⟩
  have hB1 : Below w.heap.size w w1 := bTrans (bAlloc (Below.refl _ _) (.cells #[.int .i64 t.q.wells, .slice Aw t.q.nw cw, .slice Af t.q.nf cf, .slice Ao t.no co, .slice Ap t.np cp, .slice As t.ns cs, .int .i64 t.far, .int .i64 t.harm, .int .i64 t.many] 62)) hb
  have HD1 := Lib.hid (bTrans HD0.out hB1)
  have HT1 := Lib.hid (HT0.out.mono hB1)
  have T1 := Lib.hid (show TBox w1 w.heap.size 62 #[.int .i64 t.q.wells, .slice Aw t.q.nw cw, .slice Af t.q.nf cf, .slice Ao t.no co, .slice Ap t.np cp, .slice As t.ns cs, .int .i64 t.far, .int .i64 t.harm, .int .i64 t.many] from by have := ((TBox.new w #[.int .i64 t.q.wells, .slice Aw t.q.nw cw, .slice Af t.q.nf cf, .slice Ao t.no co, .slice Ap t.np cp, .slice As t.ns cs, .int .i64 t.far, .int .i64 t.harm, .int .i64 t.many] 62).mono (Below.refl _ _)).mono hb; simpa using this)
  clear hb hB1 HD0 HT0
  obtain ⟨T_0, T_1, T_2, T_3, T_4, T_5, T_6, T_7, T_8, T_l⟩ := T1.out.c9
  cases bf
  case true =>
    go_wp2_with fail
    go_ret
    exact ⟨⟨_, rfl, fun h => by cases h⟩, HD1.out⟩
  go_wp2_with fail
  refine (check9_any Aw Af Ao Ap As cw cf co cp cs t _ HSM.out HT1.out).mono ?_
  rintro e w2 ⟨rfl, hb⟩
  have hB2 : Below w1.heap.size w1 w2 := bTrans (Below.refl _ _) hb
  have HD2 := Lib.hid (bTrans HD1.out hB2)
  have HT2 := Lib.hid (HT1.out.mono hB2)
  have T2 := Lib.hid (T1.out.mono hB2)
  clear hb hB2 HD1 HT1 T1 T_0 T_1 T_2 T_3 T_4 T_5 T_6 T_7 T_8 T_l
  obtain ⟨T_0, T_1, T_2, T_3, T_4, T_5, T_6, T_7, T_8, T_l⟩ := T2.out.c9
  by_cases ok : t.Ok
  case neg =>
    rw [Pt.err_bad ok]
    clear ok
    go_wp2_with fail
    go_ret
    exact ⟨⟨_, rfl, fun h => by cases h⟩, HD2.out⟩
  rw [Pt.err_ok ok]
  have HOK := Lib.hid ok
  clear ok
  go_wp2_with fail
  go_ret
  exact ⟨⟨_, rfl, fun _ => HOK.out⟩, HD2.out⟩
end Go.Proofs.YthnojgdckkdcgaaGreatDoor

namespace Go.Proofs.YthnojgdckkdcgaaGreatDoor
open Go.RowKit Go.Sort
theorem hasB_in {t : Pt} {s : Nat} (h : s < t.ns) : t.hasB (s : Int) = true := hasB_iff.2 (by omega)
end Go.Proofs.YthnojgdckkdcgaaGreatDoor

namespace Go.Proofs.YthnojgdckkdcgaaGreatDoor
open Go.RowKit Go.Sort
end Go.Proofs.YthnojgdckkdcgaaGreatDoor

namespace Go.Proofs.YthnojgdckkdcgaaGreatDoor
open Go.RowKit Go.Sort
end Go.Proofs.YthnojgdckkdcgaaGreatDoor

namespace Go.Proofs.YthnojgdckkdcgaaGreatDoor
open Go.RowKit Go.Sort
end Go.Proofs.YthnojgdckkdcgaaGreatDoor

namespace Go.Proofs.YthnojgdckkdcgaaGreatDoor
open Go.RowKit Go.Sort
end Go.Proofs.YthnojgdckkdcgaaGreatDoor

namespace Go.Proofs.YthnojgdckkdcgaaGreatDoor
open Go.RowKit Go.Sort
end Go.Proofs.YthnojgdckkdcgaaGreatDoor

namespace Go.Proofs.YthnojgdckkdcgaaGreatDoor
open Go.RowKit Go.Sort
section
variable {P : Program}
end
end Go.Proofs.YthnojgdckkdcgaaGreatDoor

namespace Go.Proofs.YthnojgdckkdcgaaGreatDoor
open Go.RowKit Go.Sort
end Go.Proofs.YthnojgdckkdcgaaGreatDoor

namespace Go.Proofs.YthnojgdckkdcgaaGreatDoor
open Go.RowKit Go.Sort
end Go.Proofs.YthnojgdckkdcgaaGreatDoor

namespace Go.Proofs.YthnojgdckkdcgaaGreatDoor
open Go.RowKit Go.Sort
end Go.Proofs.YthnojgdckkdcgaaGreatDoor

namespace Go.Proofs.YthnojgdckkdcgaaGreatDoor
open Go.RowKit Go.Sort
end Go.Proofs.YthnojgdckkdcgaaGreatDoor

namespace Go.Proofs.YthnojgdckkdcgaaGreatDoor
open Go.RowKit Go.Sort
end Go.Proofs.YthnojgdckkdcgaaGreatDoor

namespace Go.Proofs.YthnojgdckkdcgaaGreatDoor
open Go.RowKit Go.Sort
end Go.Proofs.YthnojgdckkdcgaaGreatDoor

namespace Go.Proofs.YthnojgdckkdcgaaGreatDoor
open Go.RowKit Go.Sort
end Go.Proofs.YthnojgdckkdcgaaGreatDoor

namespace Go.Proofs.YthnojgdckkdcgaaGreatDoor
open Go.RowKit Go.Sort
end Go.Proofs.YthnojgdckkdcgaaGreatDoor

namespace Go.Proofs.YthnojgdckkdcgaaGreatDoor
open Go.RowKit Go.Sort
theorem neqRock (w : World) (a b c d : Int) : (binOp .neq 190 (.agg #[.int .i64 a, .int .i64 b, .int .i64 c, .int .i64 d]) (.agg #[.int .i64 a, .int .i64 b, .int .i64 c, .int .i64 d])).run Tryz.prog w = .ok (.bool false) w := by
  simp [go_sem]
attribute [go_sem ↓] neqRock
end Go.Proofs.YthnojgdckkdcgaaGreatDoor


namespace Go.Proofs.YthnojgdckkdcgaaGreatDoor
open Go.RowKit Go.Sort
end Go.Proofs.YthnojgdckkdcgaaGreatDoor


namespace Go.Proofs.YthnojgdckkdcgaaGreatDoor
open Go.RowKit Go.Sort
end Go.Proofs.YthnojgdckkdcgaaGreatDoor


namespace Go.Proofs.YthnojgdckkdcgaaGreatDoor
open Go.RowKit Go.Sort
end Go.Proofs.YthnojgdckkdcgaaGreatDoor


namespace Go.Proofs.YthnojgdckkdcgaaGreatDoor
open Go.RowKit Go.Sort
end Go.Proofs.YthnojgdckkdcgaaGreatDoor


namespace Go.Proofs.YthnojgdckkdcgaaGreatDoor
open Go.RowKit Go.Sort
end Go.Proofs.YthnojgdckkdcgaaGreatDoor


namespace Go.Proofs.YthnojgdckkdcgaaGreatDoor
open Go.RowKit Go.Sort
end Go.Proofs.YthnojgdckkdcgaaGreatDoor

namespace Go.Proofs.YthnojgdckkdcgaaGreatDoor
open Go.RowKit Go.Sort
end Go.Proofs.YthnojgdckkdcgaaGreatDoor

namespace Go.Proofs.YthnojgdckkdcgaaGreatDoor
open Go.RowKit Go.Sort
end Go.Proofs.YthnojgdckkdcgaaGreatDoor

namespace Go.Proofs.YthnojgdckkdcgaaGreatDoor
open Go.RowKit Go.Sort
theorem owns_put {w : World} {base : Nat} {e : TypeId} {size g n cap : Nat} {xs : List Value} (h : w.ownsRow base e size (.slice (some ⟨g, 0, none⟩) n cap) n xs) (j : Nat) (u : Value) : (w.setCell ⟨g, j, none⟩ u).ownsRow base e size (.slice (some ⟨g, 0, none⟩) n cap) n (xs.set j u) := by
  obtain ⟨h1, h2⟩ := h
  rcases h2 with ⟨e0, _⟩ | ⟨g', cap', cur, e', h3, h4, h5, h6, h7, h8⟩
  · cases e0
  · injection e' with e1 _ e3
    injection e1 with e1
    injection e1 with e1
    subst e1 e3
    refine ⟨by rw [List.length_set]; exact h1, .inr ⟨g, cap, cur.setIfInBounds j u, rfl, h3, TBox.set (show TBox w g e cur from h4) j u, h5, h6, by simp [h7], ?_⟩⟩
    rw [Array.toList_setIfInBounds, ← h8, List.take_set]
theorem owns_box {w : World} {base : Nat} {e : TypeId} {size g n cap : Nat} {xs : List Value} (h : w.ownsRow base e size (.slice (some ⟨g, 0, none⟩) n cap) n xs) : base ≤ g ∧ ∃ cur, TBox w g e cur ∧ cur.toList.take (n * size) = xs := by
  rcases h.2 with ⟨e0, _⟩ | ⟨g', cap', cur, e', h3, h4, h5, h6, h7, h8⟩
  · cases e0
  · injection e' with e1 _ e3
    injection e1 with e1
    injection e1 with e1
    subst e1 e3
    exact ⟨h3, cur, h4, h8⟩
end Go.Proofs.YthnojgdckkdcgaaGreatDoor

namespace Go.Proofs.YthnojgdckkdcgaaGreatDoor
open Go.RowKit Go.Sort
def put7 (us : List Value) (j : Nat) (c0 c1 c2 c3 c4 c5 c6 : Value) : List Value := ((((((us.set j c0).set (j + 1) c1).set (j + 2) c2).set (j + 3) c3).set (j + 4) c4).set (j + 5) c5).set (j + 6) c6
theorem put7_cons (a : Value) (us : List Value) (j : Nat) (c0 c1 c2 c3 c4 c5 c6 : Value) : put7 (a :: us) (j + 1) c0 c1 c2 c3 c4 c5 c6 = a :: put7 us j c0 c1 c2 c3 c4 c5 c6 := by
  unfold put7
  rw [show j + 1 + 1 = (j + 1) + 1 from rfl, show j + 1 + 2 = (j + 2) + 1 by omega, show j + 1 + 3 = (j + 3) + 1 by omega, show j + 1 + 4 = (j + 4) + 1 by omega, show j + 1 + 5 = (j + 5) + 1 by omega, show j + 1 + 6 = (j + 6) + 1 by omega]
  simp only [List.set_cons_succ]
theorem flat_put7 (c0 c1 c2 c3 c4 c5 c6 : Value) : ∀ (L : List (List Value)) (i : Nat), (∀ c, c ∈ L → c.length = 7) → i < L.length → put7 L.flatten (i * 7) c0 c1 c2 c3 c4 c5 c6 = (L.set i [c0, c1, c2, c3, c4, c5, c6]).flatten
  | [], i, _, h => absurd h (Nat.not_lt_zero _)
  | c :: L, 0, hl, _ => by
    match c, hl c (by simp) with
    | [a0, a1, a2, a3, a4, a5, a6], _ => rfl
  | c :: L, i + 1, hl, hi => by
    have ih := flat_put7 c0 c1 c2 c3 c4 c5 c6 L i (fun c h => hl c (List.mem_cons_of_mem _ h)) (Nat.lt_of_succ_lt_succ hi)
    match c, hl c (by simp) with
    | [a0, a1, a2, a3, a4, a5, a6], _ =>
      show put7 (a0 :: a1 :: a2 :: a3 :: a4 :: a5 :: a6 :: L.flatten) ((i + 1) * 7) c0 c1 c2 c3 c4 c5 c6 = a0 :: a1 :: a2 :: a3 :: a4 :: a5 :: a6 :: (L.set i [c0, c1, c2, c3, c4, c5, c6]).flatten
      rw [show (i + 1) * 7 = i * 7 + 1 + 1 + 1 + 1 + 1 + 1 + 1 by omega, put7_cons, put7_cons, put7_cons, put7_cons, put7_cons, put7_cons, put7_cons, ih]
theorem SpRows.put {w : World} {f f' : Nat → Spot} {n i : Nat} {us : List Value} {c0 c1 c2 c3 c4 c5 c6 : Value} (h : SpRows w f n us) (hi : i < n) (he : ∀ k, k ≠ i → f' k = f k) (hc : SpK w [c0, c1, c2, c3, c4, c5, c6] (f' i)) : SpRows w f' n (put7 us (i * 7) c0 c1 c2 c3 c4 c5 c6) := by
  obtain ⟨L, rfl, hl, hk⟩ := h
  refine ⟨L.set i [c0, c1, c2, c3, c4, c5, c6], flat_put7 _ _ _ _ _ _ _ L i (fun c hc => ?_) (by omega), by rw [List.length_set]; exact hl, fun k cs hcs => ?_⟩
  · obtain ⟨k, hk2⟩ := List.mem_iff_getElem?.1 hc
    exact (hk k c hk2).len
  · rw [List.getElem?_set] at hcs
    by_cases e : i = k
    · subst e
      rw [if_pos rfl] at hcs
      split at hcs
      · obtain rfl := Option.some.inj hcs
        exact hc
      · cases hcs
    · rw [if_neg e] at hcs
      rw [he k fun h => e h.symm]
      exact hk k cs hcs
/-- a spot of a copied town: where it lies, and what its cells hold -/
theorem own_spot {w : World} {base : Nat} {As : Option Addr} {n cap : Nat} {us : List Value} {f : Nat → Spot} {i : Nat} (hown : w.ownsRow base 71 7 (.slice As n cap) n us) (h : SpRows w f n us) (hi : i < n) : ∃ (g : Nat) (Ar Af Aw : Option Addr) (cr cf cw : Nat), As = some ⟨g, 0, none⟩ ∧ base ≤ g ∧ (∃ cur, TBox w g 71 cur) ∧ SpK w [.int .i64 (f i).at_, .slice Ar (f i).sh.nr cr, .slice Af (f i).sh.nf cf, .int .i64 (f i).sh.deep, .int .i64 (f i).sh.haul, .int .i64 (f i).sh.rest, .slice Aw (f i).fl.n cw] (f i) ∧
    w.cell? ⟨g, i * 7, none⟩ = some (.int .i64 (f i).at_) ∧ w.cell? ⟨g, i * 7 + 1, none⟩ = some (.slice Ar (f i).sh.nr cr) ∧ w.cell? ⟨g, i * 7 + 2, none⟩ = some (.slice Af (f i).sh.nf cf) ∧ w.cell? ⟨g, i * 7 + 3, none⟩ = some (.int .i64 (f i).sh.deep) ∧ w.cell? ⟨g, i * 7 + 4, none⟩ = some (.int .i64 (f i).sh.haul) ∧ w.cell? ⟨g, i * 7 + 5, none⟩ = some (.int .i64 (f i).sh.rest) ∧ w.cell? ⟨g, i * 7 + 6, none⟩ = some (.slice Aw (f i).fl.n cw) := by
  rcases hown.2 with ⟨_, h0⟩ | ⟨g, cap', cur, e, hb, ht, h3, h4, h5, h6⟩
  · omega
  · injection e with e0 _ e2
    subst e0 e2
    obtain ⟨L, e1, hl, hL⟩ := h
    have h7 : ∀ c ∈ L, c.length = 7 := fun c hc => by
      obtain ⟨i, hi⟩ := List.getElem?_of_mem hc
      exact (hL i c hi).len
    obtain ⟨c, hci⟩ : ∃ c, L[i]? = some c := ⟨_, List.getElem?_eq_getElem (by omega)⟩
    have hg := flat_get h7 hci
    have hk := hL i c hci
    have hk2 := hk
    obtain ⟨Ar, Af, cr, cf, u, rfl, h1, h2, h8⟩ := hk2
    obtain ⟨Aw, cw, rfl, hw⟩ := h8.rows
    have cell : ∀ j v, j < 7 → [.int .i64 (f i).at_, .slice Ar (f i).sh.nr cr, .slice Af (f i).sh.nf cf, .int .i64 (f i).sh.deep, .int .i64 (f i).sh.haul, .int .i64 (f i).sh.rest, .slice Aw (f i).fl.n cw][j]? = some v → w.cell? ⟨g, i * 7 + j, none⟩ = some v := fun j v hj hv => by
      have h8 := (hg j hj).trans hv
      rw [← e1, ← h6, List.getElem?_take] at h8
      split at h8
      · exact ((show TBox w g _ cur from ht).cell _).trans (by simpa using h8)
      · cases h8
    exact ⟨g, Ar, Af, Aw, cr, cf, cw, rfl, hb, ⟨cur, ht⟩, hk, cell 0 _ (by omega) rfl, cell 1 _ (by omega) rfl, cell 2 _ (by omega) rfl, cell 3 _ (by omega) rfl, cell 4 _ (by omega) rfl, cell 5 _ (by omega) rfl, cell 6 _ (by omega) rfl⟩
end Go.Proofs.YthnojgdckkdcgaaGreatDoor

namespace Go.Proofs.YthnojgdckkdcgaaGreatDoor
open Go.RowKit Go.Sort
/-- a goal that no step of a walk opens -/
structure Halt9 (p : Prop) : Prop where
  out : p
theorem halt_store {P : Program} {ops : Array Oper} {Q : Exit → Act → World → Prop} {rest : List Oper} {a : Act} {w : World} {d : Option Tmp} {t : TypeId} {p v : Operand} {ty : TypeId} {g : Option (Nat × Bool)} {at_ : String} {af : Array Edge} (h : Halt9 (wpList P ops Q (Oper.mk d (Op.store t p v) ty at_ af g :: rest) a w)) : wpList P ops Q (Oper.mk d (Op.store t p v) ty at_ af g :: rest) a w := h.out
def set7 (w : World) (g j : Nat) (c0 c1 c2 c3 c4 c5 c6 : Value) : World := ((((((w.setCell ⟨g, j, none⟩ c0).setCell ⟨g, j + 1, none⟩ c1).setCell ⟨g, j + 2, none⟩ c2).setCell ⟨g, j + 3, none⟩ c3).setCell ⟨g, j + 4, none⟩ c4).setCell ⟨g, j + 5, none⟩ c5).setCell ⟨g, j + 6, none⟩ c6
theorem set7_kept {l : List TypeId} {w : World} {g : Nat} {cs : Array Value} {t : TypeId} (hb : TBox w g t cs) (ht : t ∉ l) (j : Nat) (c0 c1 c2 c3 c4 c5 c6 : Value) : Kept l w (set7 w g j c0 c1 c2 c3 c4 c5 c6) :=
  have h1 := hb.set j c0
  have h2 := h1.set (j + 1) c1
  have h3 := h2.set (j + 2) c2
  have h4 := h3.set (j + 3) c3
  have h5 := h4.set (j + 4) c4
  have h6 := h5.set (j + 5) c5
  ((((((Kept.set hb ht j c0).trans (Kept.set h1 ht (j + 1) c1)).trans (Kept.set h2 ht (j + 2) c2)).trans (Kept.set h3 ht (j + 3) c3)).trans (Kept.set h4 ht (j + 4) c4)).trans (Kept.set h5 ht (j + 5) c5)).trans (Kept.set h6 ht (j + 6) c6)
theorem set7_below {N : Nat} {w0 w : World} (h : Below N w0 w) {g : Nat} (hg : N ≤ g) (j : Nat) (c0 c1 c2 c3 c4 c5 c6 : Value) : Below N w0 (set7 w g j c0 c1 c2 c3 c4 c5 c6) :=
  Below.setCell (p := ⟨g, _, none⟩) (Below.setCell (p := ⟨g, _, none⟩) (Below.setCell (p := ⟨g, _, none⟩) (Below.setCell (p := ⟨g, _, none⟩) (Below.setCell (p := ⟨g, _, none⟩) (Below.setCell (p := ⟨g, _, none⟩) (Below.setCell (p := ⟨g, _, none⟩) h hg c0) hg c1) hg c2) hg c3) hg c4) hg c5) hg c6
theorem set7_other {w : World} {b g : Nat} {t : TypeId} {cs : Array Value} (h : TBox w b t cs) (hne : g ≠ b) (j : Nat) (c0 c1 c2 c3 c4 c5 c6 : Value) : TBox (set7 w g j c0 c1 c2 c3 c4 c5 c6) b t cs :=
  ((((((h.other hne _ _).other hne _ _).other hne _ _).other hne _ _).other hne _ _).other hne _ _).other hne _ _
theorem set7_owns {w : World} {base : Nat} {e : TypeId} {size g n cap : Nat} {xs : List Value} (h : w.ownsRow base e size (.slice (some ⟨g, 0, none⟩) n cap) n xs) (j : Nat) (c0 c1 c2 c3 c4 c5 c6 : Value) : (set7 w g j c0 c1 c2 c3 c4 c5 c6).ownsRow base e size (.slice (some ⟨g, 0, none⟩) n cap) n (put7 xs j c0 c1 c2 c3 c4 c5 c6) :=
  owns_put (owns_put (owns_put (owns_put (owns_put (owns_put (owns_put h j c0) (j + 1) c1) (j + 2) c2) (j + 3) c3) (j + 4) c4) (j + 5) c5) (j + 6) c6
end Go.Proofs.YthnojgdckkdcgaaGreatDoor

namespace Go.Proofs.YthnojgdckkdcgaaGreatDoor
open Go.RowKit Go.Sort
section
variable {P : Program} {md : Region.Mode} {ops : Array Oper}
/-- one more value is there -/
def upd (o : Nat → Option Value) (k : Nat) (v : Value) : Nat → Option Value := fun j => if j = k then some v else o j
/-- the values that are there -/
def seen (V : Nat → Value) (listed : Array Bool) : Nat → Option Value := fun j => if listed.getD j false then some (V j) else none
theorem seen_upd {V : Nat → Value} {listed : Array Bool} {i : Nat} (h : i < listed.size) (v : Value) : seen (fun k => if k = i then v else V k) (listed.setIfInBounds i true) = upd (seen V listed) i v := by
  funext j
  unfold seen upd
  by_cases e : j = i
  · subst e
    rw [set_same h false]
    simp
  · rw [getD_set_ne false (Ne.symm e)]
    simp only [if_neg e]
/-- what an operation that turns memory must keep: the invariant, and what is said of all others but of those that wait for it -/
def crossInv (md : Region.Mode) (ops : Array Oper) (G : World → Prop) (hs : List Stir) : Prop :=
  ∀ i s r K, hs[i]? = some (.stir s r K) → ∀ j h, hs[j]? = some h → j ≠ i → reach md ops 6 j i = true ∨ ∀ w w' v, G w → G w' → K w w' → h.r w v → h.r w' v
/-- as stirB, with another depth -/
def stirBd (md : Region.Mode) (ops : Array Oper) (n d : Nat) : Bool :=
  orderedB md ops && decide (n ≤ ops.size) && (List.range ops.size).all fun i => decide (i < n) || (List.range i).all fun j => reach md ops d i j
/-- what reads or makes memory leaves the invariant as it is, if this does not look at its value -/
def deaf (I : (Nat → Option Value) → World → Prop) (k : Nat) : Prop := ∀ ρ w w' v, I ρ w → Below w.heap.size w w' → I (upd ρ k v) w'
theorem stirAt_more {P : Program} {o : Oper} {a : Act} {w : World} {r r' : World → Value → Prop} (h : Oper.stirAt P o a w Newer r) (hr : ∀ w' v, Below w.heap.size w w' → r w' v → r' w' v) : Oper.stirAt P o a w Newer r' := by
  unfold Oper.stirAt at h ⊢
  generalize (execOp a.eval o).run P w = x at *
  cases x with
  | ok n w' =>
    cases n <;> simp only [Oper.stirUpon] at h ⊢
    case value u => exact ⟨h.1, hr _ _ h.1 h.2⟩
    case skip => exact ⟨h.1, h.2.1, hr _ _ (h.1 ▸ h.2.1) h.2.2⟩
    case enter f args => exact ⟨h.1, h.2.mono fun e w'' ⟨v, he, hw'', h3⟩ => ⟨v, he, hw'', hr _ _ hw'' h3⟩⟩
  | halt x w' => simp only [Oper.stirUpon] at h
/-- stirAt behind a word that nothing unfolds by itself (a tactic that asks the goal for its head would run the operation) -/
structure StirH (P : Program) (o : Oper) (a : Act) (w : World) (K : World → World → Prop) (R : World → Value → Prop) : Prop where
  out : Oper.stirAt P o a w K R
end
end Go.Proofs.YthnojgdckkdcgaaGreatDoor

namespace Go.Proofs.YthnojgdckkdcgaaGreatDoor
open Go.RowKit Go.Sort
section
variable {P : Program} {md : Region.Mode} {ops : Array Oper}
/-- what is asked at one operation, where I holds of the values that are there and of the world -/
def Oper.ordAsk (P : Program) (md : Region.Mode) (ops : Array Oper) (I : (Nat → Option Value) → World → Prop) (k : Nat) (o : Oper) (h : Stir) (a : Act) (F : List (Nat × (World → Prop))) : Prop :=
  if Region.wanted o (yielded ops a.tmps) then ∀ ρ w', I ρ w' → ρ k = none → (∀ j, reach md ops 6 j k = true → ρ j = none) → depsP md ops k F w' → Oper.stirAt P o a w' h.K (fun w'' v => h.r w'' v ∧ I (upd ρ k v) w'') else (∀ w, h.r w undef) ∧ ∀ ρ w, I ρ w → I (upd ρ k undef) w
def wpOrd (P : Program) (md : Region.Mode) (ops : Array Oper) (I : (Nat → Option Value) → World → Prop) (Q : Act → World → Prop) : Nat → List Oper → List Stir → Act → List (Nat × (World → Prop)) → (Nat → Value) → Prop
  | n, _, [], a, F, V => ∀ ρ w', (∀ j, j < n → ρ j = some (V j)) → I ρ w' → allP F w' → Q a w'
  | k, o :: rest, h :: hs, a, F, V => Oper.ordAsk P md ops I k o h a F ∧ ∀ v, h.sh v → wpOrd P md ops I Q (k + 1) rest hs (a.put o.dst v) (h.note k v F) (fun j => if j = k then v else V j)
  | _, [], _ :: _, _, _, _ => False
theorem wpOrd_at {I : (Nat → Option Value) → World → Prop} {Q : Act → World → Prop} {hs0 : List Stir} {V : Nat → Value} {a0 : Act} (hV : ∀ (k : Nat) (h : Stir), hs0[k]? = some h → h.sh (V k)) :
    ∀ (hs : List Stir) (k : Nat) (l : List Oper) (U : Nat → Value), (∀ j, l[j]? = ops[k + j]?) → (∀ j, hs[j]? = hs0[k + j]?) → k + hs.length = hs0.length → (∀ j, j < k → U j = V j) →
      wpOrd P md ops I Q k l hs (frameOf ops V (fun _ => true) a0 k) (noteAllS hs0 V k) U →
      (∀ (j : Nat) (h : Stir), k ≤ j → hs0[j]? = some h → ∃ o, ops[j]? = some o ∧ Oper.ordAsk P md ops I j o h (frameOf ops V (fun _ => true) a0 j) (noteAllS hs0 V j)) ∧
      ∀ ρ w', (∀ j, j < hs0.length → ρ j = some (V j)) → I ρ w' → allP (noteAllS hs0 V hs0.length) w' → Q (frameOf ops V (fun _ => true) a0 hs0.length) w'
  | [], k, l, U, _, hh, hn, hU, H => by
    have e : k = hs0.length := by simpa using hn
    subst e
    refine ⟨fun j h hj hjh => ?_, fun ρ w' hρ => ?_⟩
    · have := (List.getElem?_eq_some_iff.1 hjh).1
      omega
    · have hρ' : ∀ j, j < hs0.length → ρ j = some (U j) := fun j hj => by rw [hU j hj]; exact hρ j hj
      cases l <;> exact H ρ w' hρ'
  | h :: hs, k, [], U, hl, hh, hn, hU, H => H.elim
  | h :: hs, k, o :: l, U, hl, hh, hn, hU, H => by
    have h0 : ops[k]? = some o := by simpa using (hl 0).symm
    have h1 : hs0[k]? = some h := by simpa using (hh 0).symm
    obtain ⟨H1, H2⟩ := H
    have e1 : frameOf ops V (fun _ => true) a0 (k + 1) = (frameOf ops V (fun _ => true) a0 k).put o.dst (V k) := by
      rw [frameOf, if_pos rfl]; simp [dstOf, h0]
    have e2 : noteAllS hs0 V (k + 1) = h.note k (V k) (noteAllS hs0 V k) := by rw [noteAllS, h1]
    obtain ⟨g1, g2⟩ := wpOrd_at hV hs (k + 1) l (fun j => if j = k then V k else U j) (fun j => by have := hl (j + 1); simpa [Nat.add_assoc, Nat.add_comm 1 j] using this) (fun j => by have := hh (j + 1); simpa [Nat.add_assoc, Nat.add_comm 1 j] using this) (by simp only [List.length_cons] at hn; omega) (fun j hj => by
      by_cases e : j = k
      · subst e; exact if_pos rfl
      · exact (if_neg e).trans (hU j (by omega))) (by rw [e1, e2]; exact H2 _ (hV k h h1))
    refine ⟨fun j h' hj hjh => ?_, g2⟩
    rcases Nat.eq_or_lt_of_le hj with e | e
    · subst e
      obtain rfl : h = h' := Option.some.inj (h1.symm.trans hjh)
      exact ⟨o, h0, H1⟩
    · exact g1 j h' e hjh
theorem wp_region_ord {rid : Nat} {Q : Exit → Act → World → Prop} {a : Act} {w : World} {l : List Oper} (I : (Nat → Option Value) → World → Prop) (G : World → Prop) (hIG : ∀ ρ w, I ρ w → G w) (dd n : Nat) (hs : List Stir) (hm : P.follows .mixedOrders = true) (hB : stirBd .any l.toArray n dd = true) (hn : hs.length = n) (hg : goodAllS hs) (hx : crossInv .any l.toArray G hs) (hI0 : ∀ w', Below w.heap.size w w' → I (fun _ => none) w')
    (h : wpOrd P .any l.toArray I (fun a' w' => wpList P l.toArray Q (l.drop n) a' w') 0 l hs a [] (fun _ => undef)) : (Code.region rid l.toArray true).wp P Q a w := by
  unfold stirBd at hB
  simp only [Bool.and_eq_true, decide_eq_true_eq, List.all_eq_true, List.mem_range, Bool.or_eq_true] at hB
  obtain ⟨⟨hord, hnl⟩, htail⟩ := hB
  have H := ordered_of hord
  have hsz : l.toArray.size = l.length := by simp
  have key : ∀ V : Nat → Value, (∀ (k : Nat) (h : Stir), hs[k]? = some h → h.sh (V k)) → _ := fun V hV =>
    wpOrd_at (P := P) (md := .any) (ops := l.toArray) (I := I) (Q := fun a' w' => wpList P l.toArray Q (l.drop n) a' w') (a0 := a) hV hs 0 l (fun _ => undef) (fun j => by simp) (fun j => by simp) (by omega) (fun j hj => absurd hj (Nat.not_lt_zero _)) h
  have hwit : ∃ V : Nat → Value, ∀ (k : Nat) (h : Stir), hs[k]? = some h → h.sh (V k) := by
    have hx : ∀ k : Nat, ∃ v : Value, ∀ h : Stir, hs[k]? = some h → h.sh v := fun k => by
      cases e : hs[k]? with
      | none => exact ⟨undef, fun h hh => by cases hh⟩
      | some h =>
        obtain ⟨v, hv⟩ := Stir.some (goodAllS_at hg e)
        exact ⟨v, fun h' hh => by injection hh with hh; subst hh; exact hv⟩
    exact ⟨fun k => (hx k).choose, fun k => (hx k).choose_spec⟩
  -- the end of the first part
  have final : ∀ (V : Nat → Value) (listed : Array Bool) (w' : World), (∀ (k : Nat) (h : Stir), hs[k]? = some h → h.sh (V k)) → I (seen V listed) w' → (∀ j, j < n → listed.getD j false = true) → (∀ j, n ≤ j → listed.getD j false = false) → (∀ (j : Nat) (h : Stir), hs[j]? = some h → listed.getD j false = true → h.r w' (V j)) →
      wpList P l.toArray Q (l.drop n) (frameOf l.toArray V (fun k => listed.getD k false) a l.toArray.size) w' := by
    intro V listed w' hV hb hall hno hr
    have := (key V hV).2 (seen V listed) w' (fun j hj => by unfold seen; rw [hall j (by omega)]; rfl) hb (allS_all _ fun j h hj hjh => hr j h hjh (hall j (by omega)))
    rw [hn] at this
    have e1 : frameOf l.toArray V (fun k => listed.getD k false) a n = frameOf l.toArray V (fun _ => true) a n := frameOf_congr n fun j hj => ⟨hall j hj, fun _ => rfl⟩
    have e2 : ∀ m, n ≤ m → frameOf l.toArray V (fun k => listed.getD k false) a m = frameOf l.toArray V (fun k => listed.getD k false) a n := by
      intro m
      induction m with
      | zero => intro hm'; obtain rfl : n = 0 := by omega
                rfl
      | succ m ih =>
        intro hm'
        rcases Nat.eq_or_lt_of_le hm' with e | e
        · rw [e]
        · rw [frameOf, ih (by omega), if_neg]; rw [hno m (by omega)]; exact Bool.false_ne_true
    rw [e2 _ hnl, e1]
    exact this
  refine wp_region_any hm ?_
  refine wpAny_inv (fun listed a' w' => ((∀ j, n ≤ j → listed.getD j false = false) ∧ ∃ V : Nat → Value, (∀ (k : Nat) (h : Stir), hs[k]? = some h → h.sh (V k)) ∧ a' = frameOf l.toArray V (fun k => listed.getD k false) a l.toArray.size ∧ I (seen V listed) w' ∧ ∀ (j : Nat) (h : Stir), hs[j]? = some h → listed.getD j false = true → h.r w' (V j)) ∨
      ∃ m, n ≤ m ∧ (∀ j, j < m → listed.getD j false = true) ∧ (∀ j, m ≤ j → listed.getD j false = false) ∧ wpList P l.toArray Q (l.drop m) a' w') ?_ ?_ _ _ _ _ (left_le _ _) Shut.none (.inl ⟨fun j _ => ?_, ?_⟩)
  · intro listed a' w' i hsh hI hr
    obtain ⟨hun, oi, hoi, _⟩ := mem_ready.1 hr
    have hi : i < l.toArray.size := (Array.getElem?_eq_some_iff.1 hoi).1
    have hil : i < listed.size := by rw [hsh.size]; exact hi
    have hunf := listed_both hun
    have hset : (listed.setIfInBounds i true).getD i false = true := set_same hil false
    have tailstep : ∀ m, n ≤ m → (∀ j, j < m → listed.getD j false = true) → (∀ j, m ≤ j → listed.getD j false = false) → n ≤ i → wpList P l.toArray Q (l.drop m) a' w' →
        wpOp P l.toArray Q i (fun a'' w'' => ((∀ j, n ≤ j → (listed.setIfInBounds i true).getD j false = false) ∧ ∃ V : Nat → Value, (∀ (k : Nat) (h : Stir), hs[k]? = some h → h.sh (V k)) ∧ a'' = frameOf l.toArray V (fun k => (listed.setIfInBounds i true).getD k false) a l.toArray.size ∧ I (seen V (listed.setIfInBounds i true)) w'' ∧ ∀ (j : Nat) (h : Stir), hs[j]? = some h → (listed.setIfInBounds i true).getD j false = true → h.r w'' (V j)) ∨
          ∃ m, n ≤ m ∧ (∀ j, j < m → (listed.setIfInBounds i true).getD j false = true) ∧ (∀ j, m ≤ j → (listed.setIfInBounds i true).getD j false = false) ∧ wpList P l.toArray Q (l.drop m) a'' w'') a' w' := by
      intro m hnm hall hno hni hw
      have him : i = m := by
        rcases Nat.lt_trichotomy i m with h' | h' | h'
        · rw [hall i h'] at hunf; cases hunf
        · exact h'
        · have h1 := ((htail i hi).resolve_left (by omega)) m h'
          have h2 := reach_listed hsh dd i m (fun k hk => waits_listed hr hk) h1
          rw [hno m (Nat.le_refl _)] at h2; cases h2
      subst him
      have hli : l[i]? = some oi := by simpa using hoi
      have hdrop : l.drop i = oi :: l.drop (i + 1) := by
        have hlt : i < l.length := by omega
        rw [List.drop_eq_getElem_cons hlt]
        congr 1
        rw [List.getElem?_eq_getElem hlt] at hli
        exact Option.some.inj hli
      rw [hdrop] at hw
      simp only [wpList] at hw
      have hall' : ∀ j, j < i + 1 → (listed.setIfInBounds i true).getD j false = true := fun j hj => by
        rcases Nat.lt_or_ge j i with h' | h'
        · rw [getD_set_ne false (by omega)]; exact hall j h'
        · obtain rfl : j = i := by omega
          exact hset
      have hno' : ∀ j, i + 1 ≤ j → (listed.setIfInBounds i true).getD j false = false := fun j hj => by
        rw [getD_set_ne false (by omega)]; exact hno j (by omega)
      unfold Go.wpOp
      simp only [hoi]
      split
      · rename_i hwt
        rw [if_pos hwt] at hw
        exact hw.imp (Oper.wp_mono fun a'' w'' h'' => .inr ⟨i + 1, by omega, hall', hno', h''⟩) (fun h => h)
      · rename_i hwt
        rw [if_neg hwt] at hw
        exact .inr ⟨i + 1, by omega, hall', hno', hw⟩
    rcases hI with ⟨hno, V, hV, rfl, hb, hrr⟩ | ⟨m, hnm, hall, hno, hw⟩
    · rcases Nat.lt_or_ge i n with hin | hin
      · -- an operation of the first part
        have hx : ∃ h, hs[i]? = some h := ⟨hs[i]'(by omega), by simp⟩
        obtain ⟨hh, hhi⟩ := hx
        obtain ⟨o', ho', hask⟩ := (key V hV).1 i hh (Nat.zero_le _) hhi
        obtain rfl : oi = o' := Option.some.inj (hoi.symm.trans ho')
        have hsee := H.sees (V := V) (V' := V) (M := fun _ => true) (a := a) hsh hoi hr (fun k _ hk => by cases hk) (fun _ _ => rfl)
        have hput : ∀ v, (frameOf l.toArray V (fun k => listed.getD k false) a l.toArray.size).put oi.dst v = frameOf l.toArray (fun k => if k = i then v else V k) (fun k => (listed.setIfInBounds i true).getD k false) a l.toArray.size := fun v => by
          have e1 : dstOf l.toArray i = oi.dst := by simp [dstOf, hoi]
          rw [H.frame_put hsh hi hun, e1, if_pos rfl]
          congr 1
          exact frameOf_congr _ fun j _ => ⟨rfl, fun hj => by rw [if_neg (fun e => by subst e; rw [hunf] at hj; cases hj)]⟩
        have hnext : ∀ v w'', I (upd (seen V listed) i v) w'' → (∀ (j : Nat) (h : Stir), hs[j]? = some h → j ≠ i → listed.getD j false = true → h.r w' (V j) → h.r w'' (V j)) → hh.r w'' v → ((∀ j, n ≤ j → (listed.setIfInBounds i true).getD j false = false) ∧ ∃ V' : Nat → Value, (∀ (k : Nat) (h : Stir), hs[k]? = some h → h.sh (V' k)) ∧ (frameOf l.toArray V (fun k => listed.getD k false) a l.toArray.size).put oi.dst v = frameOf l.toArray V' (fun k => (listed.setIfInBounds i true).getD k false) a l.toArray.size ∧ I (seen V' (listed.setIfInBounds i true)) w'' ∧ ∀ (j : Nat) (h : Stir), hs[j]? = some h → (listed.setIfInBounds i true).getD j false = true → h.r w'' (V' j)) := by
          intro v w'' hb' hkeep hrv
          refine ⟨fun j hj => by rw [getD_set_ne false (by omega)]; exact hno j hj, fun k => if k = i then v else V k, fun k h hk => ?_, hput v, by rw [seen_upd hil]; exact hb', fun j h hjh hj => ?_⟩
          · by_cases e : k = i
            · subst e
              obtain rfl : hh = h := Option.some.inj (hhi.symm.trans hk)
              simp only [if_true]
              exact Stir.r_sh hrv
            · simp only [if_neg e]; exact hV k h hk
          · by_cases e : j = i
            · subst e
              obtain rfl : hh = h := Option.some.inj (hhi.symm.trans hjh)
              simp only [if_true]
              exact hrv
            · simp only [if_neg e]
              rw [getD_set_ne false (Ne.symm e)] at hj
              exact hkeep j h hjh e hj (hrr j h hjh hj)
        unfold Go.wpOp
        simp only [hoi]
        rw [wanted_of_slots hsee]
        unfold Oper.ordAsk at hask
        by_cases hwt : Region.wanted oi (yielded l.toArray (frameOf l.toArray V (fun _ => true) a i).tmps) = true
        · rw [if_pos hwt] at hask
          rw [if_pos hwt]
          have h1 := hask (seen V listed) w' hb (by unfold seen; rw [hunf]; rfl) (fun j hj => by
            unfold seen
            by_cases e : listed.getD j false = true
            · have h2 := reach_listed2 hsh 6 j i e hj
              rw [hunf] at h2
              cases h2
            · rw [if_neg e]) (depsS_all _ fun j h hj hjh hw => hrr j h hjh (waits_listed hr hw))
          have hst : ∀ v w'', hh.K w' w'' → (hh.r w'' v ∧ I (upd (seen V listed) i v) w'') → _ := fun v w'' hk hrv =>
            hnext v w'' hrv.2 (fun j h hjh hji hj hr1 => by
            cases hh with
            | const c => exact Stir.r_mono (goodAllS_at hg hjh) hk hr1
            | held s r => exact Stir.r_mono (goodAllS_at hg hjh) hk hr1
            | stir s r K =>
              rcases (hx i s r K hhi) j h hjh hji with h1 | h1
              · have h2 := reach_listed2 hsh 6 j i hj h1
                rw [hunf] at h2
                cases h2
              · exact h1 _ _ _ (hIG _ _ hb) (hIG _ _ hrv.2) hk hr1) hrv.1
          refine .inl (Oper.wp_of_stir ?_ fun v w'' hb' hrv => .inl (hst v w'' hb' hrv))
          unfold Oper.stirAt at h1 ⊢
          rwa [exec_of_slots (ops := l.toArray) (fun cs b => Region.noSelect_spec H.sel i oi cs b hoi) hsee]
        · rw [if_neg hwt] at hask
          rw [if_neg hwt]
          exact .inl (hnext undef w' (hask.2 _ _ hb) (fun j h _ _ _ h1 => h1) (hask.1 _))
      · have hall : ∀ j, j < n → listed.getD j false = true := fun j hj => reach_listed hsh dd i j (fun k hk => waits_listed hr hk) (((htail i hi).resolve_left (by omega)) j (by omega))
        exact tailstep n (Nat.le_refl _) hall hno hin (final V listed w' hV hb hall hno hrr)
    · have hni : n ≤ i := by
        rcases Nat.lt_or_ge i n with h' | h'
        · rw [hall i (by omega)] at hunf; cases hunf
        · exact h'
      exact tailstep m hnm hall hno hni hw
  · intro listed a' w' hsh hI hr
    have hall := H.all hsh hr
    rcases hI with ⟨hno, V, hV, rfl, hb, hrr⟩ | ⟨m, hnm, hall', hno, hw⟩
    · have hnn : n = l.length := by
        rcases Nat.lt_or_ge n l.length with h' | h'
        · have := hall n (by omega); rw [hno n (Nat.le_refl _)] at this; cases this
        · omega
      have := final V listed w' hV hb (fun j hj => hall j (by omega)) hno hrr
      rw [hnn, List.drop_length] at this
      exact this
    · have hmm : l.length ≤ m := by
        rcases Nat.lt_or_ge m l.length with h' | h'
        · have := hall m (by omega); rw [hno m (Nat.le_refl _)] at this; cases this
        · exact h'
      rw [List.drop_eq_nil_of_le hmm] at hw
      exact hw
  · rcases Nat.lt_or_ge j l.length with h' | h' <;> simp [h']
  · obtain ⟨V, hV⟩ := hwit
    refine ⟨V, hV, ?_, ?_, fun j h _ hj => ?_⟩
    · symm
      have : ∀ k, frameOf l.toArray V (fun k => (Array.replicate l.toArray.size false).getD k false) a k = a := fun k => by
        induction k with
        | zero => rfl
        | succ k ih => rw [frameOf, ih, if_neg]; rcases Nat.lt_or_ge k l.length with h' | h' <;> simp [h']
      exact this _
    · rw [show seen V (Array.replicate l.toArray.size false) = fun _ => none from funext fun j => by unfold seen; rcases Nat.lt_or_ge j l.length with h' | h' <;> simp [h']]
      exact hI0 _ (Below.refl _ _).drew
    · rcases Nat.lt_or_ge j l.length with h' | h' <;> simp [h'] at hj
theorem wpOrd_end {I : (Nat → Option Value) → World → Prop} {Q : Act → World → Prop} {k : Nat} {l : List Oper} {a : Act} {F : List (Nat × (World → Prop))} {V : Nat → Value} (h : ∀ ρ w', (∀ j, j < k → ρ j = some (V j)) → I ρ w' → allP F w' → Q a w') : wpOrd P md ops I Q k l [] a F V := by
  cases l <;> exact h
theorem wpOrd_const {I : (Nat → Option Value) → World → Prop} {Q : Act → World → Prop} {k : Nat} {o : Oper} {l : List Oper} {c : Value} {hs : List Stir} {a : Act} {F : List (Nat × (World → Prop))} {V : Nat → Value} (hd : deaf I k) (hg : o.guard = none)
    (h1 : ∀ ρ w', I ρ w' → depsP md ops k F w' → StirH P o a w' Newer (fun _ v => v = c))
    (h2 : wpOrd P md ops I Q (k + 1) l hs (a.put o.dst c) F (fun j => if j = k then c else V j)) : wpOrd P md ops I Q k (o :: l) (.const c :: hs) a F V := by
  refine ⟨?_, fun v hv => by rw [show v = c from hv]; exact h2⟩
  unfold Oper.ordAsk Region.wanted
  rw [hg]
  exact fun ρ w' hI _ _ hF => stirAt_more (h1 ρ w' hI hF).out fun w'' v hb hv => ⟨hv, hd _ _ _ _ hI hb⟩
theorem wpOrd_held {I : (Nat → Option Value) → World → Prop} {Q : Act → World → Prop} {k : Nat} {o : Oper} {l : List Oper} {s : Value → Prop} {r : World → Value → Prop} {hs : List Stir} {a : Act} {F : List (Nat × (World → Prop))} {V : Nat → Value} (hd : deaf I k) (hg : o.guard = none)
    (h1 : ∀ ρ w', I ρ w' → depsP md ops k F w' → StirH P o a w' Newer (fun w v => s v ∧ r w v))
    (h2 : ∀ v, s v → wpOrd P md ops I Q (k + 1) l hs (a.put o.dst v) ((k, fun w => r w v) :: F) (fun j => if j = k then v else V j)) : wpOrd P md ops I Q k (o :: l) (.held s r :: hs) a F V := by
  refine ⟨?_, fun v hv => h2 v hv⟩
  unfold Oper.ordAsk Region.wanted
  rw [hg]
  exact fun ρ w' hI _ _ hF => stirAt_more (h1 ρ w' hI hF).out fun w'' v hb hv => ⟨hv, hd _ _ _ _ hI hb⟩
theorem wpOrd_heldI {I : (Nat → Option Value) → World → Prop} {Q : Act → World → Prop} {k : Nat} {o : Oper} {l : List Oper} {s : Value → Prop} {r : World → Value → Prop} {hs : List Stir} {a : Act} {F : List (Nat × (World → Prop))} {V : Nat → Value} (hg : o.guard = none)
    (h1 : ∀ ρ w', I ρ w' → ρ k = none → (∀ j, reach md ops 6 j k = true → ρ j = none) → depsP md ops k F w' → StirH P o a w' Newer (fun w v => (s v ∧ r w v) ∧ I (upd ρ k v) w))
    (h2 : ∀ v, s v → wpOrd P md ops I Q (k + 1) l hs (a.put o.dst v) ((k, fun w => r w v) :: F) (fun j => if j = k then v else V j)) : wpOrd P md ops I Q k (o :: l) (.held s r :: hs) a F V := by
  refine ⟨?_, fun v hv => h2 v hv⟩
  unfold Oper.ordAsk Region.wanted
  rw [hg]
  exact fun ρ w' hI hn ho hF => (h1 ρ w' hI hn ho hF).out
end
end Go.Proofs.YthnojgdckkdcgaaGreatDoor

