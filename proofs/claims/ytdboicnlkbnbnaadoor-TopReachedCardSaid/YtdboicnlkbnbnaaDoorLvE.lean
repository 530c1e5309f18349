/- Walks of the reference of levels: IsTruth, of a valid town. Condition: the list is short. -/
import Derived.Test.YtdboicnlkbnbnaaDoorLvD
namespace Go.Proofs.YtdboicnlkbnbnaaDoor
open Go.RowKit Go.Sort
/-- what IsTruth hands back: if it says so, the list is a truth -/
def Truthy (t : Lt) (n : Nat) (g : Nat → Int) (e : Ending) : Prop := e = .returned (.bool false) ∨ (e = .returned (.bool true) ∧ (n : Int) = t.wells ∧ t.Truth g)
theorem within_bb (n lo hi : Int) (b : Bool) (w : World) (h : inR n lo hi = b) : Calls Tryd.prog 19 #[.int .i64 n, .int .i64 lo, .int .i64 hi] w fun e w' => e = .returned (.bool b) ∧ Below w.heap.size w w' :=
  (within_b n lo hi b w h).mono fun e w' ⟨he, hw⟩ => ⟨he, by rw [hw]; exact Below.refl _ _⟩
set_option maxHeartbeats 8000000 in
set_option maxRecDepth 100000 in
theorem isTruth_any (As Al Ai : Option Addr) (cs cl ci : Nat) (t : Lt) (n : Nat) (g : Nat → Int) (w : World) (ok : t.Ok) (hn : n ≤ 40) (hT : LtAt w As Al t) (hI : IntsAt w Ai n g) :
    Calls Tryd.prog 9 #[.agg #[.int .i64 t.wells, .slice As t.ns cs, .slice Al t.nl cl], .slice Ai n ci] w fun e w' => Truthy t n g e ∧ Below w.heap.size w w' := by
  have hb0 := bAlloc (Below.refl w.heap.size w) (.cells #[.int .i64 t.wells, .slice As t.ns cs, .slice Al t.nl cl] 25)
  have HT := Lib.hid (hT.mono hb0)
  have HI := Lib.hid (hI.mono hb0)
  have HB := Lib.hid hb0
  have HOK := Lib.hid ok
  have ns8 := ok.ns
  have nl8 := ok.nl
  clear hT hI hb0 ok
  by_cases hnw : (n : Int) = t.wells
  case neg =>
    have h1 : ((n : Int) != t.wells) = true := bne_iff_ne.2 hnw
    have h2 : ((n : Int) == t.wells) = false := beq_eq_false_iff_ne.2 hnw
    clear hnw
    go_enter Tryd.func9, Tryd.ntmps9
    go_wp2_with fail
    go_ret
    exact ⟨.inl rfl, HB.out⟩
  have h1 : ((n : Int) != t.wells) = false := by rw [hnw]; simp
  have h2 : ((n : Int) == t.wells) = true := beq_iff_eq.2 hnw
  have HNW := Lib.hid hnw
  clear hnw
  go_enter Tryd.func9, Tryd.ntmps9
  go_wp2_with fail
  clear h1 h2
  go_loop [5] (fun i => ∃ k : Nat, i = .int .i64 k ∧ k ≤ n ∧ ∀ j, j < k → 0 ≤ g j ∧ g j ≤ 99) (fun i => n - (intOf i).toNat)
  case atStart => exact ⟨0, rfl, Nat.zero_le _, fun j hj => absurd hj (Nat.not_lt_zero _)⟩
  case round =>
    obtain ⟨k, rfl, hk, hall⟩ := hrel
    have HALL := Lib.hid hall
    clear hall
    by_cases hlt : k < n
    · obtain ⟨bi, oi, hAi, hbi, ci0⟩ := HI.out.get hlt
      have k1 : (k : Int) < (n : Int) := by omega
      have HK := Lib.hid hlt
      subst hAi
      by_cases hin : inR (g k) 0 99 = true
      · have G1 := Lib.hid hin
        clear hin
        go_wp2_with fail
        refine (within_b _ _ _ _ _ G1.out).mono ?_
        rintro e w' ⟨rfl, rfl⟩
        go_wp2_with fail
        go_round
        case rel =>
          refine ⟨k + 1, by go_num, by omega, fun j hj => ?_⟩
          rcases Nat.lt_or_ge j k with h1 | h1
          · exact HALL.out j h1
          · obtain rfl : j = k := by omega
            exact inR_iff.1 G1.out
        case measure => simp [intOf]; omega
      · have G1 := Lib.hid (Bool.eq_false_iff.2 hin)
        clear hin
        go_wp2_with fail
        refine (within_b _ _ _ _ _ G1.out).mono ?_
        rintro e w' ⟨rfl, rfl⟩
        go_wp2_with fail
        go_ret
        exact ⟨.inl rfl, HB.out⟩
    · obtain rfl : n = k := by omega
      go_wp2_with fail
      go_loopw [6] (fun i wr => ∃ k : Nat, i = .int .i64 k ∧ k ≤ t.ns ∧ (∀ j, j < k → (t.snd j).low ≤ g (t.snd j).well.toNat ∧ g (t.snd j).well.toNat ≤ (t.snd j).high) ∧ Below (w.alloc (.cells #[.int .i64 t.wells, .slice As t.ns cs, .slice Al t.nl cl] 25)).heap.size (w.alloc (.cells #[.int .i64 t.wells, .slice As t.ns cs, .slice Al t.nl cl] 25)) wr) (fun i _ => t.ns - (intOf i).toNat)
      case atStart => exact ⟨0, rfl, Nat.zero_le _, fun j hj => absurd hj (Nat.not_lt_zero _), Below.refl _ _⟩
      case round =>
        obtain ⟨k, rfl, hk, hall, hbel⟩ := hrel
        have HS := Lib.hid hall
        have HL3 := Lib.hid hbel
        obtain ⟨bc3, bf3⟩ := bcell hbel
        have hz3 := hbel.size
        simp only [World.size_alloc] at hz3
        have hy3 : w.heap.size < wr.heap.size := hz3
        clear hbel hall
        by_cases hlt : k < t.ns
        · rcases (HT.out.mono HL3.out).snd with h0 | ⟨b, o, hA, hb, hcell⟩
          · omega
          obtain ⟨c0, c1, c2⟩ := hcell k hlt
          clear hcell
          have k1 : (k : Int) < (t.ns : Int) := by omega
          have HK := Lib.hid hlt
          subst hA
          have hs := HOK.out.snd k hlt
          obtain ⟨p, hp⟩ : ∃ p : Nat, (t.snd k).well = (p : Int) := ⟨(t.snd k).well.toNat, by have := hs.w0; omega⟩
          rw [hp] at c0
          have hpn : p < n := by have := hs.w1; have := HNW.out; omega
          have HP := Lib.hid (show (t.snd k).well.toNat = p by omega)
          clear hp hs
          obtain ⟨bi, oi, hAi, hbi, ci0⟩ := (HI.out.mono HL3.out).get hpn
          have p1 : (p : Int) < (n : Int) := by omega
          have p0 : (0 : Int) ≤ (p : Int) := by omega
          subst hAi
          cases hin : inR (g p) (t.snd k).low (t.snd k).high
          · have G1 := Lib.hid hin
            clear hin
            go_wp2_with fail
            refine wp_region_quiet_below (by kernel_rfl) (by kernel_rfl) ?_
            repeat (go_big_quiet_step ((go_at_call 19; exact Calls.regrown_of (within_bb _ _ _ _ _ G1.out))))
            refine wpQuiet_nil ?_
            intro w9 hw9
            have HB9 := Lib.hid (below_of_regrown hw9)
            clear hw9
            go_wp2_with fail
            go_ret
            exact ⟨.inl rfl, bTrans HB.out (bTrans (bAlloc HL3.out _) HB9.out)⟩
          · have G1 := Lib.hid hin
            clear hin
            have HS2 := Lib.hid (show ∀ j, j < k + 1 → (t.snd j).low ≤ g (t.snd j).well.toNat ∧ g (t.snd j).well.toNat ≤ (t.snd j).high from fun j hj => by
              rcases Nat.lt_or_ge j k with h1 | h1
              · exact HS.out j h1
              · obtain rfl : j = k := by omega
                rw [HP.out]
                exact inR_iff.1 G1.out)
            go_wp2_with fail
            refine wp_region_quiet_below (by kernel_rfl) (by kernel_rfl) ?_
            repeat (go_big_quiet_step ((go_at_call 19; exact Calls.regrown_of (within_bb _ _ _ _ _ G1.out))))
            refine wpQuiet_nil ?_
            intro w9 hw9
            have HB9 := Lib.hid (below_of_regrown hw9)
            clear hw9
            go_wp2_with fail
            go_roundw
            case rel =>
              first
              | exact ⟨k + 1, by go_num, by omega, HS2.out, bTrans (bAlloc HL3.out _) HB9.out⟩
              | ((repeat apply Exists.intro)
                 refine ⟨⟨k + 1, ?_, by omega, HS2.out, bTrans (bAlloc HL3.out _) HB9.out⟩, rfl⟩
                 go_num)
            case measure => simp [intOf]; omega
        · obtain rfl : k = t.ns := by omega
          go_wp2_with fail
          clear bc3 bf3
          go_loopw [8] (fun i wr => ∃ k : Nat, i = .int .i64 k ∧ k ≤ t.nl ∧ (∀ j, j < k → (t.slp j).low ≤ g (t.slp j).b.toNat - g (t.slp j).a.toNat ∧ g (t.slp j).b.toNat - g (t.slp j).a.toNat ≤ (t.slp j).high) ∧ Below (w.alloc (.cells #[.int .i64 t.wells, .slice As t.ns cs, .slice Al t.nl cl] 25)).heap.size (w.alloc (.cells #[.int .i64 t.wells, .slice As t.ns cs, .slice Al t.nl cl] 25)) wr) (fun i _ => t.nl - (intOf i).toNat)
          case atStart => exact ⟨0, rfl, Nat.zero_le _, fun j hj => absurd hj (Nat.not_lt_zero _), HL3.out⟩
          case round =>
            obtain ⟨k, rfl, hk, hall, hbel⟩ := hrel
            have HS2 := Lib.hid hall
            have HL5 := Lib.hid hbel
            obtain ⟨bc5, bf5⟩ := bcell hbel
            have hz5 := hbel.size
            simp only [World.size_alloc] at hz5
            have hy5 : w.heap.size < wr.heap.size := hz5
            clear hbel hall
            by_cases hlt : k < t.nl
            · rcases (HT.out.mono HL5.out).slp with h0 | ⟨b, o, hA, hb, hcell⟩
              · omega
              obtain ⟨c0, c1, c2, c3⟩ := hcell k hlt
              clear hcell
              have k1 : (k : Int) < (t.nl : Int) := by omega
              have HK := Lib.hid hlt
              subst hA
              have hs := HOK.out.slp k hlt
              obtain ⟨p, hp⟩ : ∃ p : Nat, (t.slp k).a = (p : Int) := ⟨(t.slp k).a.toNat, by have := hs.a0; omega⟩
              obtain ⟨q, hq⟩ : ∃ q : Nat, (t.slp k).b = (q : Int) := ⟨(t.slp k).b.toNat, by have := hs.b0; omega⟩
              rw [hp] at c0
              rw [hq] at c1
              have hpn : p < n := by have := hs.a1; have := HNW.out; omega
              have hqn : q < n := by have := hs.b1; have := HNW.out; omega
              have HP := Lib.hid (show (t.slp k).a.toNat = p by omega)
              have HQ := Lib.hid (show (t.slp k).b.toNat = q by omega)
              clear hp hq hs
              have hi5 := HI.out.mono HL5.out
              obtain ⟨bi, oi, hAi, hbi, hci⟩ : ∃ b o, Ai = some ⟨b, o, none⟩ ∧ b < wr.heap.size ∧ ∀ i, i < n → wr.cell? ⟨b, o + i, none⟩ = some (.int .i64 (g i)) := hi5.resolve_left (by omega)
              clear hi5
              have ci0 := hci p hpn
              have ci1 := hci q hqn
              clear hci
              obtain ⟨u0, u1⟩ := HALL.out p hpn
              obtain ⟨v0, v1⟩ := HALL.out q hqn
              have p1 : (p : Int) < (n : Int) := by omega
              have p0 : (0 : Int) ≤ (p : Int) := by omega
              have q1 : (q : Int) < (n : Int) := by omega
              have q0 : (0 : Int) ≤ (q : Int) := by omega
              subst hAi
              obtain ⟨x, hx⟩ : ∃ x, g p = x := ⟨_, rfl⟩
              obtain ⟨y, hy⟩ : ∃ y, g q = y := ⟨_, rfl⟩
              rw [hx] at ci0 u0 u1
              rw [hy] at ci1 v0 v1
              have HX := Lib.hid hx
              have HY := Lib.hid hy
              clear hx hy
              cases hin : inR (y - x) (t.slp k).low (t.slp k).high
              · have G1 := Lib.hid hin
                clear hin
                go_wp2_with fail
                refine wp_region_quiet_below (by kernel_rfl) (by kernel_rfl) ?_
                repeat (go_big_quiet_step ((go_at_call 19; exact Calls.regrown_of (within_bb _ _ _ _ _ G1.out))))
                refine wpQuiet_nil ?_
                intro w9 hw9
                have HB9 := Lib.hid (below_of_regrown hw9)
                clear hw9
                go_wp2_with fail
                go_ret
                exact ⟨.inl rfl, bTrans HB.out (bTrans (bAlloc HL5.out _) HB9.out)⟩
              · have G1 := Lib.hid hin
                clear hin
                have HS3 := Lib.hid (show ∀ j, j < k + 1 → (t.slp j).low ≤ g (t.slp j).b.toNat - g (t.slp j).a.toNat ∧ g (t.slp j).b.toNat - g (t.slp j).a.toNat ≤ (t.slp j).high from fun j hj => by
                  rcases Nat.lt_or_ge j k with h1 | h1
                  · exact HS2.out j h1
                  · obtain rfl : j = k := by omega
                    rw [HP.out, HQ.out, HX.out, HY.out]
                    exact inR_iff.1 G1.out)
                go_wp2_with fail
                refine wp_region_quiet_below (by kernel_rfl) (by kernel_rfl) ?_
                repeat (go_big_quiet_step ((go_at_call 19; exact Calls.regrown_of (within_bb _ _ _ _ _ G1.out))))
                refine wpQuiet_nil ?_
                intro w9 hw9
                have HB9 := Lib.hid (below_of_regrown hw9)
                clear hw9
                go_wp2_with fail
                go_roundw
                case rel =>
                  first
                  | exact ⟨k + 1, by go_num, by omega, HS3.out, bTrans (bAlloc HL5.out _) HB9.out⟩
                  | ((repeat apply Exists.intro)
                     refine ⟨⟨k + 1, ?_, by omega, HS3.out, bTrans (bAlloc HL5.out _) HB9.out⟩, rfl⟩
                     go_num)
                case measure => simp [intOf]; omega
            · obtain rfl : k = t.nl := by omega
              have HE := Lib.hid (show t.Truth g from ⟨fun i hi => (HALL.out i (by have := HNW.out; omega)).1, fun i hi => (HALL.out i (by have := HNW.out; omega)).2, HS.out, HS2.out⟩)
              go_wp2_with fail
              go_ret
              exact ⟨.inr ⟨rfl, HNW.out, HE.out⟩, bTrans HB.out HL5.out⟩
end Go.Proofs.YtdboicnlkbnbnaaDoor
