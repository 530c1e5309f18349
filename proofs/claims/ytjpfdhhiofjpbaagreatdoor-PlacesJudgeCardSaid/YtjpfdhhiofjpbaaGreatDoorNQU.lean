/- Parts joined: what all claims of this seat need. -/
import Derived.Test.YtjpfdhhiofjpbaaGreatDoorNQT
import Derived.Test.YtjpfdhhiofjpbaaGreatDoorNQD
import Derived.Test.YtjpfdhhiofjpbaaGreatDoorNQQ
import Derived.Test.YtjpfdhhiofjpbaaGreatDoorNQR
import Derived.Test.YtjpfdhhiofjpbaaGreatDoorNQK
import Derived.Test.YtjpfdhhiofjpbaaGreatDoorNQM
set_option linter.unusedSimpArgs false
set_option linter.unusedVariables false
namespace Go.Proofs.YtjpfdhhiofjpbaaGreatDoor
open Go.RowKit Go.Sort
/-- some Bool -/
def SomeB (e : Ending) : Prop := ∃ b, e = .returned (.bool b)
set_option maxHeartbeats 8000000 in
set_option maxRecDepth 100000 in
theorem far9_any (Aw Af Ao Ap As : Option Addr) (cw cf co cp cs : Nat) (t : Pt) (w : World) (hs : t.Small) (hT : PAt w Aw Af Ao Ap As t) :
    Calls Tryz.prog 18 #[.agg #[.int .i64 t.q.wells, .slice Aw t.q.nw cw, .slice Af t.q.nf cf, .slice Ao t.no co, .slice Ap t.np cp, .slice As t.ns cs, .int .i64 t.far, .int .i64 t.harm, .int .i64 t.many]] w fun e w' => SomeB e ∧ Below w.heap.size w w' := by
  have HD0 := Lib.hid (Below.refl w.heap.size w)
  have HSM := Lib.hid hs
  have HT0 := Lib.hid hT
  clear hs hT
  go_enter Tryz.func18, Tryz.ntmps18
  go_wp2_with fail
  refine (huge_any Aw Af cw cf t.q _ HSM.out.q (HT0.out.mono (bAlloc (Below.refl _ _) (.cells #[.int .i64 t.q.wells, .slice Aw t.q.nw cw, .slice Af t.q.nf cf, .slice Ao t.no co, .slice Ap t.np cp, .slice As t.ns cs, .int .i64 t.far, .int .i64 t.harm, .int .i64 t.many] 29))).q).mono ?_
  rintro e w1 ⟨rfl, hb⟩
  have hB1 : Below w.heap.size w w1 := bTrans (bAlloc (Below.refl _ _) (.cells #[.int .i64 t.q.wells, .slice Aw t.q.nw cw, .slice Af t.q.nf cf, .slice Ao t.no co, .slice Ap t.np cp, .slice As t.ns cs, .int .i64 t.far, .int .i64 t.harm, .int .i64 t.many] 29)) hb
  have HD1 := Lib.hid (bTrans HD0.out hB1)
  have HT1 := Lib.hid (HT0.out.mono hB1)
  have T1 := Lib.hid (show TBox w1 w.heap.size 29 #[.int .i64 t.q.wells, .slice Aw t.q.nw cw, .slice Af t.q.nf cf, .slice Ao t.no co, .slice Ap t.np cp, .slice As t.ns cs, .int .i64 t.far, .int .i64 t.harm, .int .i64 t.many] from by have := ((TBox.new w #[.int .i64 t.q.wells, .slice Aw t.q.nw cw, .slice Af t.q.nf cf, .slice Ao t.no co, .slice Ap t.np cp, .slice As t.ns cs, .int .i64 t.far, .int .i64 t.harm, .int .i64 t.many] 29).mono (Below.refl _ _)).mono hb; simpa using this)
  clear hb hB1 HD0 HT0
  obtain ⟨T_0, T_1, T_2, T_3, T_4, T_5, T_6, T_7, T_8, T_l⟩ := T1.out.c9
  cases t.q.huge
  case true =>
    go_wp2_with fail
    go_ret
    exact ⟨⟨_, rfl⟩, HD1.out⟩
  by_cases h1 : 40 < t.no
  case pos =>
    have p1 : (40 : Int) < (t.no : Int) := by omega
    have q1 : decide ((t.no : Int) > 40) = true := by simp; omega
    go_wp2_with fail
    go_ret
    exact ⟨⟨_, rfl⟩, HD1.out⟩
  have p1 : ¬ (40 : Int) < (t.no : Int) := by omega
  have q1 : decide ((t.no : Int) > 40) = false := by simp; omega
  have r1 : decide ((40 : Int) < (t.no : Int)) = false := by simp; omega
  have m1 : t.no ≤ 40 := by omega
  by_cases h2 : 40 < t.np
  case pos =>
    have p2 : (40 : Int) < (t.np : Int) := by omega
    have q2 : decide ((t.np : Int) > 40) = true := by simp; omega
    go_wp2_with fail
    go_ret
    exact ⟨⟨_, rfl⟩, HD1.out⟩
  have p2 : ¬ (40 : Int) < (t.np : Int) := by omega
  have q2 : decide ((t.np : Int) > 40) = false := by simp; omega
  have r2 : decide ((40 : Int) < (t.np : Int)) = false := by simp; omega
  have m2 : t.np ≤ 40 := by omega
  by_cases h3 : 40 < t.ns
  case pos =>
    have p3 : (40 : Int) < (t.ns : Int) := by omega
    have q3 : decide ((t.ns : Int) > 40) = true := by simp; omega
    go_wp2_with fail
    go_ret
    exact ⟨⟨_, rfl⟩, HD1.out⟩
  have p3 : ¬ (40 : Int) < (t.ns : Int) := by omega
  have q3 : decide ((t.ns : Int) > 40) = false := by simp; omega
  have r3 : decide ((40 : Int) < (t.ns : Int)) = false := by simp; omega
  have m3 : t.ns ≤ 40 := by omega
  go_wp2_with fail
  clear p1 q1 r1 p2 q2 r2 p3 q3 r3 h1 h2 h3
  clear T_0 T_1 T_2 T_3 T_4 T_5 T_6 T_7 T_8 T_l
  go_loopw [3, 4] (fun s3 s4 wr => ∃ k : Nat, k ≤ t.ns ∧ s4 = .int .i64 (k : Int) ∧ (∃ d, s3 = Value.bool d) ∧ Below w1.heap.size w1 wr) (fun _ s4 _ => t.ns - (intOf s4).toNat)
  case atStart => exact ⟨0, Nat.zero_le _, rfl, ⟨_, rfl⟩, Below.refl _ _⟩
  case round =>
    obtain ⟨k, hk_k, rfl, hd3, hb⟩ := hrel
    have HBk := Lib.hid hb
    have HD3 := Lib.hid hd3
    clear hd3
    have hB2 : Below w1.heap.size w1 wr := bTrans (Below.refl _ _) hb
    have HD2 := Lib.hid (bTrans HD1.out hB2)
    have HT2 := Lib.hid (HT1.out.mono hB2)
    have HU_k2 := Lib.hid ((show Upto w1 wr from HBk.out))
    have T2 := Lib.hid (T1.out.mono hB2)
    clear hb hB2
    obtain ⟨T_0, T_1, T_2, T_3, T_4, T_5, T_6, T_7, T_8, T_l⟩ := T2.out.c9
    obtain ⟨d, rfl⟩ := HD3.out
    clear HD3
    by_cases hlt_k : k < t.ns
    case pos =>
      have h1_k : (k : Int) < (t.ns : Int) := by omega
      have h0_k : (0 : Int) ≤ (k : Int) := by omega
      obtain ⟨b, o, Ar, Af2, Ax, cr, cf2, cx, hA, hb7, hsh, hrow, s0, s1, s2, s3, s4, s5, s6⟩ := HT2.out.spots.get hlt_k
      have HXS := Lib.hid (HSM.out.spot k hlt_k)
      obtain ⟨x, hxx⟩ : ∃ x, t.spot k = x := ⟨_, rfl⟩
      rw [hxx] at s0 s1 s2 s3 s4 s5 s6 hsh hrow HXS
      have HSH2 := Lib.hid hsh
      have HRW2 := Lib.hid hrow
      have hnr := HXS.out.nr
      have hnf := HXS.out.nf
      have hnn := HXS.out.n
      subst hA
      clear hsh hrow hxx
      by_cases h4 : 40 < x.sh.nr
      case pos =>
        have p4 : (40 : Int) < (x.sh.nr : Int) := by omega
        have q4 : decide ((x.sh.nr : Int) > 40) = true := by simp; omega
        go_wp2_with fail
        go_ret
        exact ⟨⟨_, rfl⟩, (bTrans HD2.out (bAlloc (Below.refl _ _) (.cells #[.int .i64 x.at_, .slice Ar x.sh.nr cr, .slice Af2 x.sh.nf cf2, .int .i64 x.sh.deep, .int .i64 x.sh.haul, .int .i64 x.sh.rest, .slice Ax x.fl.n cx] 60)))⟩
      have p4 : ¬ (40 : Int) < (x.sh.nr : Int) := by omega
      have q4 : decide ((x.sh.nr : Int) > 40) = false := by simp; omega
      have r4 : decide ((40 : Int) < (x.sh.nr : Int)) = false := by simp; omega
      have m4 : x.sh.nr ≤ 40 := by omega
      by_cases h5 : 40 < x.sh.nf
      case pos =>
        have p5 : (40 : Int) < (x.sh.nf : Int) := by omega
        have q5 : decide ((x.sh.nf : Int) > 40) = true := by simp; omega
        go_wp2_with fail
        go_ret
        exact ⟨⟨_, rfl⟩, (bTrans HD2.out (bAlloc (Below.refl _ _) (.cells #[.int .i64 x.at_, .slice Ar x.sh.nr cr, .slice Af2 x.sh.nf cf2, .int .i64 x.sh.deep, .int .i64 x.sh.haul, .int .i64 x.sh.rest, .slice Ax x.fl.n cx] 60)))⟩
      have p5 : ¬ (40 : Int) < (x.sh.nf : Int) := by omega
      have q5 : decide ((x.sh.nf : Int) > 40) = false := by simp; omega
      have r5 : decide ((40 : Int) < (x.sh.nf : Int)) = false := by simp; omega
      have m5 : x.sh.nf ≤ 40 := by omega
      by_cases h6 : 40 < x.fl.n
      case pos =>
        have p6 : (40 : Int) < (x.fl.n : Int) := by omega
        have q6 : decide ((x.fl.n : Int) > 40) = true := by simp; omega
        go_wp2_with fail
        go_ret
        exact ⟨⟨_, rfl⟩, (bTrans HD2.out (bAlloc (Below.refl _ _) (.cells #[.int .i64 x.at_, .slice Ar x.sh.nr cr, .slice Af2 x.sh.nf cf2, .int .i64 x.sh.deep, .int .i64 x.sh.haul, .int .i64 x.sh.rest, .slice Ax x.fl.n cx] 60)))⟩
      have p6 : ¬ (40 : Int) < (x.fl.n : Int) := by omega
      have q6 : decide ((x.fl.n : Int) > 40) = false := by simp; omega
      have r6 : decide ((40 : Int) < (x.fl.n : Int)) = false := by simp; omega
      have m6 : x.fl.n ≤ 40 := by omega
      go_wp2_with fail
      clear s0 s1 s2 s3 s4 s5 s6 hb7 p4 q4 r4 p5 q5 r5 p6 q6 r6 h4 h5 h6
      obtain ⟨wl130, hwl⟩ : ∃ y, y = wr := ⟨_, rfl⟩
      subst hwl
      clear T_0 T_1 T_2 T_3 T_4 T_5 T_6 T_7 T_8 T_l
      go_loopw [6] (fun s6 wr => ∃ j : Nat, j ≤ x.fl.n ∧ s6 = .int .i64 (j : Int) ∧ Below (wl130.alloc (.cells #[.int .i64 x.at_, .slice Ar x.sh.nr cr, .slice Af2 x.sh.nf cf2, .int .i64 x.sh.deep, .int .i64 x.sh.haul, .int .i64 x.sh.rest, .slice Ax x.fl.n cx] 60)).heap.size (wl130.alloc (.cells #[.int .i64 x.at_, .slice Ar x.sh.nr cr, .slice Af2 x.sh.nf cf2, .int .i64 x.sh.deep, .int .i64 x.sh.haul, .int .i64 x.sh.rest, .slice Ax x.fl.n cx] 60)) wr) (fun s6 _ => x.fl.n - (intOf s6).toNat)
      case atStart => exact ⟨0, Nat.zero_le _, rfl, Below.refl _ _⟩
      case round =>
        obtain ⟨j, hk_j, rfl, hb⟩ := hrel
        have HBj := Lib.hid hb
        have hB3 : Below wl130.heap.size wl130 wr := bTrans (bAlloc (Below.refl _ _) (.cells #[.int .i64 x.at_, .slice Ar x.sh.nr cr, .slice Af2 x.sh.nf cf2, .int .i64 x.sh.deep, .int .i64 x.sh.haul, .int .i64 x.sh.rest, .slice Ax x.fl.n cx] 60)) hb
        have HD3 := Lib.hid (bTrans HD2.out hB3)
        have HT3 := Lib.hid (HT2.out.mono hB3)
        have HU_k3 := Lib.hid (HU_k2.out.mono hB3)
        have HSH3 := Lib.hid (HSH2.out.mono hB3)
        have HRW3 := Lib.hid (HRW2.out.mono hB3)
        have HU_j3 := Lib.hid ((show Upto (wl130.alloc (.cells #[.int .i64 x.at_, .slice Ar x.sh.nr cr, .slice Af2 x.sh.nf cf2, .int .i64 x.sh.deep, .int .i64 x.sh.haul, .int .i64 x.sh.rest, .slice Ax x.fl.n cx] 60)) wr from HBj.out))
        have T3 := Lib.hid (T2.out.mono hB3)
        have S3 := Lib.hid (show TBox wr wl130.heap.size 60 #[.int .i64 x.at_, .slice Ar x.sh.nr cr, .slice Af2 x.sh.nf cf2, .int .i64 x.sh.deep, .int .i64 x.sh.haul, .int .i64 x.sh.rest, .slice Ax x.fl.n cx] from by have := ((TBox.new wl130 #[.int .i64 x.at_, .slice Ar x.sh.nr cr, .slice Af2 x.sh.nf cf2, .int .i64 x.sh.deep, .int .i64 x.sh.haul, .int .i64 x.sh.rest, .slice Ax x.fl.n cx] 60).mono (Below.refl _ _)).mono hb; simpa using this)
        clear hb hB3
        obtain ⟨T_0, T_1, T_2, T_3, T_4, T_5, T_6, T_7, T_8, T_l⟩ := T3.out.c9
        obtain ⟨S_0, S_1, S_2, S_3, S_4, S_5, S_6, S_l⟩ := S3.out.c7
        by_cases hlt_j : j < x.fl.n
        case pos =>
          have h1_j : (j : Int) < (x.fl.n : Int) := by omega
          have h0_j : (0 : Int) ≤ (j : Int) := by omega
          rcases HRW3.out with h0 | ⟨b9, o9, hA, hb9, hcell⟩
          · omega
          obtain ⟨A2, c2, c0, _, hlen⟩ := hcell j hlt_j
          obtain ⟨m, hm⟩ : ∃ m, x.fl.len j = m := ⟨_, rfl⟩
          rw [hm] at c0 hlen
          subst hA
          clear hcell hm
          by_cases h7 : 40 < m
          case pos =>
            have p7 : (40 : Int) < (m : Int) := by omega
            have q7 : decide ((m : Int) > 40) = true := by simp; omega
            go_wp2_with fail
            go_ret
            exact ⟨⟨_, rfl⟩, HD3.out⟩
          have p7 : ¬ (40 : Int) < (m : Int) := by omega
          have q7 : decide ((m : Int) > 40) = false := by simp; omega
          have r7 : decide ((40 : Int) < (m : Int)) = false := by simp; omega
          have m7 : m ≤ 40 := by omega
          go_wp2_with fail
          go_roundw
          case rel =>
            first
            | exact ⟨j + 1, by omega, by go_num, HU_j3.out⟩
            | ((repeat apply Exists.intro)
               refine ⟨⟨j + 1, by omega, ?_, HU_j3.out⟩, rfl⟩
               go_num)
          case measure => simp [intOf]; omega
        have he_j : j = x.fl.n := by omega
        have hj9 : ¬ (j : Int) < (x.fl.n : Int) := by omega
        have hj8 : ¬ j < x.fl.n := by omega
        clear he_j
        cases d
        · skip
          by_cases h8 : 6 < x.sh.nf
          case neg =>
            have p8 : ¬ (6 : Int) < (x.sh.nf : Int) := by omega
            have q8 : decide ((x.sh.nf : Int) > 6) = false := by simp; omega
            go_wp2_with fail
            go_roundw
            case rel =>
              first
              | exact ⟨k + 1, by omega, by go_num, ⟨_, rfl⟩, HU_k3.out⟩
              | ((repeat apply Exists.intro)
                 refine ⟨⟨k + 1, by omega, ?_, ⟨_, rfl⟩, HU_k3.out⟩, rfl⟩
                 go_num)
            case measure => simp [intOf]; omega
          have p8 : (6 : Int) < (x.sh.nf : Int) := by omega
          have q8 : decide ((x.sh.nf : Int) > 6) = true := by simp; omega
          go_wp2_with fail
          refine (refCheck_any Ar Af2 cr cf2 x.sh _ HXS.out.nr HXS.out.nf HSH3.out).mono ?_
          rintro e w4 ⟨rfl, hb⟩
          have hB4 : Below wr.heap.size wr w4 := bTrans (Below.refl _ _) hb
          have HD4 := Lib.hid (bTrans HD3.out hB4)
          have HT4 := Lib.hid (HT3.out.mono hB4)
          have HU_k4 := Lib.hid (HU_k3.out.mono hB4)
          have HSH4 := Lib.hid (HSH3.out.mono hB4)
          have HRW4 := Lib.hid (HRW3.out.mono hB4)
          have HU_j4 := Lib.hid (HU_j3.out.mono hB4)
          have T4 := Lib.hid (T3.out.mono hB4)
          have S4 := Lib.hid (S3.out.mono hB4)
          clear hb hB4 HD3 HT3 HU_k3 HSH3 HRW3 HU_j3 T3 T_0 T_1 T_2 T_3 T_4 T_5 T_6 T_7 T_8 T_l S3 S_0 S_1 S_2 S_3 S_4 S_5 S_6 S_l
          obtain ⟨T_0, T_1, T_2, T_3, T_4, T_5, T_6, T_7, T_8, T_l⟩ := T4.out.c9
          obtain ⟨S_0, S_1, S_2, S_3, S_4, S_5, S_6, S_l⟩ := S4.out.c7
          go_wp2_with fail
          go_roundw
          case rel =>
            first
            | exact ⟨k + 1, by omega, by go_num, ⟨_, rfl⟩, HU_k4.out⟩
            | ((repeat apply Exists.intro)
               refine ⟨⟨k + 1, by omega, ?_, ⟨_, rfl⟩, HU_k4.out⟩, rfl⟩
               go_num)
          case measure => simp [intOf]; omega
        · skip
          go_wp2_with fail
          go_roundw
          case rel =>
            first
            | exact ⟨k + 1, by omega, by go_num, ⟨_, rfl⟩, HU_k3.out⟩
            | ((repeat apply Exists.intro)
               refine ⟨⟨k + 1, by omega, ?_, ⟨_, rfl⟩, HU_k3.out⟩, rfl⟩
               go_num)
          case measure => simp [intOf]; omega
    have he_k : k = t.ns := by omega
    have hk9 : ¬ (k : Int) < (t.ns : Int) := by omega
    have hk8 : ¬ k < t.ns := by omega
    clear he_k
    cases d
    case true =>
      go_wp2_with fail
      go_ret
      exact ⟨⟨_, rfl⟩, HD2.out⟩
    go_wp2_with fail
    refine (refCheck5 _ _ _ _ t.q _ HSM.out.q.1 HSM.out.q.2.1 HT2.out.q).mono ?_
    rintro e w3 ⟨rfl, hb⟩
    have hB3 : Below wr.heap.size wr w3 := bTrans (Below.refl _ _) hb
    have HD3 := Lib.hid (bTrans HD2.out hB3)
    have HT3 := Lib.hid (HT2.out.mono hB3)
    have HU_k3 := Lib.hid (HU_k2.out.mono hB3)
    have T3 := Lib.hid (T2.out.mono hB3)
    clear hb hB3 T_0 T_1 T_2 T_3 T_4 T_5 T_6 T_7 T_8 T_l
    obtain ⟨T_0, T_1, T_2, T_3, T_4, T_5, T_6, T_7, T_8, T_l⟩ := T3.out.c9
    by_cases ok : t.q.Ok
    case neg =>
      rw [Qt.err_bad ok]
      go_wp2_with fail
      go_ret
      exact ⟨⟨_, rfl⟩, HD3.out⟩
    rw [Qt.err_ok ok]
    have HQO := Lib.hid ok
    clear ok
    by_cases h9 : 3 < t.q.wells
    case pos =>
      have p9 : decide (t.q.wells > 3) = true := by simp; omega
      go_wp2_with fail
      go_ret
      exact ⟨⟨_, rfl⟩, HD3.out⟩
    have p9 : decide (t.q.wells > 3) = false := by simp; omega
    go_wp2_with fail
    refine (refLeftOf Aw Af cw cf t.q _ HQO.out HT3.out.q).mono ?_
    rintro e w4 ⟨⟨v, rfl, hv⟩, hb⟩
    obtain ⟨A4, c4, rfl, hi4, _⟩ := left_base hv
    have hB4 : Below w3.heap.size w3 w4 := bTrans (Below.refl _ _) hb
    have HD4 := Lib.hid (bTrans HD3.out hB4)
    have HT4 := Lib.hid (HT3.out.mono hB4)
    have HU_k4 := Lib.hid (HU_k3.out.mono hB4)
    have T4 := Lib.hid (T3.out.mono hB4)
    clear hb hB4 HD3 HT3 HU_k3 T3 T_0 T_1 T_2 T_3 T_4 T_5 T_6 T_7 T_8 T_l
    obtain ⟨T_0, T_1, T_2, T_3, T_4, T_5, T_6, T_7, T_8, T_l⟩ := T4.out.c9
    clear hv hi4
    go_wp2_with fail
    go_ret
    exact ⟨⟨_, rfl⟩, HD4.out⟩
end Go.Proofs.YtjpfdhhiofjpbaaGreatDoor

namespace Go.Proofs.YtjpfdhhiofjpbaaGreatDoor
open Go.RowKit Go.Sort
end Go.Proofs.YtjpfdhhiofjpbaaGreatDoor

namespace Go.Proofs.YtjpfdhhiofjpbaaGreatDoor
open Go.RowKit Go.Sort
end Go.Proofs.YtjpfdhhiofjpbaaGreatDoor

namespace Go.Proofs.YtjpfdhhiofjpbaaGreatDoor
open Go.RowKit Go.Sort
end Go.Proofs.YtjpfdhhiofjpbaaGreatDoor

namespace Go.Proofs.YtjpfdhhiofjpbaaGreatDoor
open Go.RowKit Go.Sort
end Go.Proofs.YtjpfdhhiofjpbaaGreatDoor

namespace Go.Proofs.YtjpfdhhiofjpbaaGreatDoor
open Go.RowKit Go.Sort
end Go.Proofs.YtjpfdhhiofjpbaaGreatDoor

namespace Go.Proofs.YtjpfdhhiofjpbaaGreatDoor
open Go.RowKit Go.Sort
end Go.Proofs.YtjpfdhhiofjpbaaGreatDoor

namespace Go.Proofs.YtjpfdhhiofjpbaaGreatDoor
open Go.RowKit Go.Sort
end Go.Proofs.YtjpfdhhiofjpbaaGreatDoor

namespace Go.Proofs.YtjpfdhhiofjpbaaGreatDoor
open Go.RowKit Go.Sort
end Go.Proofs.YtjpfdhhiofjpbaaGreatDoor

namespace Go.Proofs.YtjpfdhhiofjpbaaGreatDoor
open Go.RowKit Go.Sort
end Go.Proofs.YtjpfdhhiofjpbaaGreatDoor

namespace Go.Proofs.YtjpfdhhiofjpbaaGreatDoor
open Go.RowKit Go.Sort
end Go.Proofs.YtjpfdhhiofjpbaaGreatDoor

namespace Go.Proofs.YtjpfdhhiofjpbaaGreatDoor
open Go.RowKit Go.Sort
end Go.Proofs.YtjpfdhhiofjpbaaGreatDoor

namespace Go.Proofs.YtjpfdhhiofjpbaaGreatDoor
open Go.RowKit Go.Sort
end Go.Proofs.YtjpfdhhiofjpbaaGreatDoor

namespace Go.Proofs.YtjpfdhhiofjpbaaGreatDoor
open Go.RowKit Go.Sort
end Go.Proofs.YtjpfdhhiofjpbaaGreatDoor

namespace Go.Proofs.YtjpfdhhiofjpbaaGreatDoor
open Go.RowKit Go.Sort
end Go.Proofs.YtjpfdhhiofjpbaaGreatDoor

