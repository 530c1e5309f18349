/- Walk: steeningref02.Check: 20 unless the shaft is valid. No condition but that lengths are Go's. -/
import Derived.Test.YtbbnpneabmldnaaDoorWalkB
namespace Go.Proofs.YtbbnpneabmldnaaDoor
open Go.RowKit Go.Sort

theorem isRock_any (Ar Af : Option Addr) (cr cf : Nat) (S : Sh) (n : Int) (w : World) (hr : S.nr ≤ 9223372036854775807) :
    Calls Tryd.prog 33 #[.agg #[.slice Ar S.nr cr, .slice Af S.nf cf, .int .i64 S.deep, .int .i64 S.haul, .int .i64 S.rest], .int .i64 n] w fun e w' => e = .returned (.bool (inR n 0 (S.nr - 1))) ∧ Below w.heap.size w w' := by
  go_enter Tryd.func33, Tryd.ntmps33
  go_wp2_with (go_at_call 66; refine (within02_any _ _ _ _).mono ?_; rintro e w' ⟨rfl, rfl⟩)
  go_ret
  exact ⟨rfl, bAlloc (Below.refl _ _) _⟩
theorem rock_cases (r : Rock) : (inR r.hours 0 9 = false ∧ ¬ r.Ok) ∨ (inR r.hours 0 9 = true ∧ inR r.pence 0 99 = false ∧ ¬ r.Ok) ∨
    (inR r.hours 0 9 = true ∧ inR r.pence 0 99 = true ∧ inR r.stand 0 12 = false ∧ ¬ r.Ok) ∨
    (inR r.hours 0 9 = true ∧ inR r.pence 0 99 = true ∧ inR r.stand 0 12 = true ∧ inR r.seat (-1) 99 = false ∧ ¬ r.Ok) ∨
    (inR r.hours 0 9 = true ∧ inR r.pence 0 99 = true ∧ inR r.stand 0 12 = true ∧ inR r.seat (-1) 99 = true ∧ r.Ok) := by
  cases h1 : inR r.hours 0 9
  · exact .inl ⟨rfl, fun h => by rw [inR_t ⟨h.h0, h.h1⟩] at h1; cases h1⟩
  cases h2 : inR r.pence 0 99
  · exact .inr (.inl ⟨rfl, rfl, fun h => by rw [inR_t ⟨h.p0, h.p1⟩] at h2; cases h2⟩)
  cases h3 : inR r.stand 0 12
  · exact .inr (.inr (.inl ⟨rfl, rfl, rfl, fun h => by rw [inR_t ⟨h.s0, h.s1⟩] at h3; cases h3⟩))
  cases h4 : inR r.seat (-1) 99
  · exact .inr (.inr (.inr (.inl ⟨rfl, rfl, rfl, rfl, fun h => by rw [inR_t ⟨h.t0, h.t1⟩] at h4; cases h4⟩)))
  · exact .inr (.inr (.inr (.inr ⟨rfl, rfl, rfl, rfl, ⟨(inR_iff.1 h1).1, (inR_iff.1 h1).2, (inR_iff.1 h2).1, (inR_iff.1 h2).2, (inR_iff.1 h3).1, (inR_iff.1 h3).2, (inR_iff.1 h4).1, (inR_iff.1 h4).2⟩⟩)))
theorem err_foot {S : Sh} {k : Nat} (hk : k < S.nf) (h : inR (S.foot k) 0 (S.nr - 1) = false) : ¬ S.Ok := fun ok => by
  rw [foot_in.2 ⟨ok.f0 k hk, ok.f1 k hk⟩] at h; cases h
/-- the first test of steeningref02.Check -/
theorem head_cases (S : Sh) : ((4 : Int) < (S.nr : Int) ∧ ¬ S.Ok) ∨ (¬ (4 : Int) < (S.nr : Int) ∧ (12 : Int) < (S.nf : Int) ∧ ¬ S.Ok) ∨
    (¬ (4 : Int) < (S.nr : Int) ∧ ¬ (12 : Int) < (S.nf : Int) ∧ inR S.deep 0 9 = false ∧ ¬ S.Ok) ∨
    (¬ (4 : Int) < (S.nr : Int) ∧ ¬ (12 : Int) < (S.nf : Int) ∧ inR S.deep 0 9 = true ∧ inR S.haul 0 9 = false ∧ ¬ S.Ok) ∨
    (¬ (4 : Int) < (S.nr : Int) ∧ ¬ (12 : Int) < (S.nf : Int) ∧ inR S.deep 0 9 = true ∧ inR S.haul 0 9 = true ∧ inR S.rest 0 9 = false ∧ ¬ S.Ok) ∨
    (¬ (4 : Int) < (S.nr : Int) ∧ ¬ (12 : Int) < (S.nf : Int) ∧ inR S.deep 0 9 = true ∧ inR S.haul 0 9 = true ∧ inR S.rest 0 9 = true) := by
  by_cases h1 : (4 : Int) < (S.nr : Int)
  · exact .inl ⟨h1, fun h => by have := h.nr; omega⟩
  refine .inr ?_
  by_cases h3 : (12 : Int) < (S.nf : Int)
  · exact .inl ⟨h1, h3, fun h => by have := h.nf; omega⟩
  refine .inr ?_
  cases h5 : inR S.deep 0 9
  · exact .inl ⟨h1, h3, rfl, fun h => by rw [inR_t ⟨h.d0, h.d1⟩] at h5; cases h5⟩
  refine .inr ?_
  cases h6 : inR S.haul 0 9
  · exact .inl ⟨h1, h3, rfl, rfl, fun h => by rw [inR_t ⟨h.l0, h.l1⟩] at h6; cases h6⟩
  refine .inr ?_
  cases h7 : inR S.rest 0 9
  · exact .inl ⟨h1, h3, rfl, rfl, rfl, fun h => by rw [inR_t ⟨h.r0, h.r1⟩] at h7; cases h7⟩
  exact .inr ⟨h1, h3, rfl, rfl, rfl⟩

set_option maxHeartbeats 1000000 in
theorem refCheck_any (Ar Af : Option Addr) (cr cf : Nat) (S : Sh) (w : World) (hr : S.nr ≤ 9223372036854775807) (hf : S.nf ≤ 9223372036854775807) (hS : ShAt w Ar Af S) :
    Calls Tryd.prog 19 #[.agg #[.slice Ar S.nr cr, .slice Af S.nf cf, .int .i64 S.deep, .int .i64 S.haul, .int .i64 S.rest]] w fun e w' => e = .returned (.int .i64 S.err) ∧ Below w.heap.size w w' := by
  have hb0 := bAlloc (Below.refl w.heap.size w) (.cells #[.slice Ar S.nr cr, .slice Af S.nf cf, .int .i64 S.deep, .int .i64 S.haul, .int .i64 S.rest] 25)
  have HS := Lib.hid (hS.mono hb0)
  have HB := Lib.hid hb0
  clear hS hb0
  rcases head_cases S with ⟨h1, he⟩ | ⟨h1, h2, he⟩ | ⟨h1, h2, h3, he⟩ | ⟨h1, h2, h3, h4, he⟩ | ⟨h1, h2, h3, h4, h5, he⟩ | ⟨h1, h2, h3, h4, h5⟩
  case inr.inr.inr.inr.inr =>
    go_enter Tryd.func19, Tryd.ntmps19
    go_wp2_with (go_at_call 66; refine (within02_any _ _ _ _).mono ?_; rintro e w' ⟨rfl, rfl⟩)
    go_loopw [3] (fun i wr => ∃ k : Nat, k ≤ S.nr ∧ i = .int .i64 k ∧ (∀ j, j < k → (S.rock j).Ok) ∧ Below (w.alloc (.cells #[.slice Ar S.nr cr, .slice Af S.nf cf, .int .i64 S.deep, .int .i64 S.haul, .int .i64 S.rest] 25)).heap.size (w.alloc (.cells #[.slice Ar S.nr cr, .slice Af S.nf cf, .int .i64 S.deep, .int .i64 S.haul, .int .i64 S.rest] 25)) wr) (fun i _ => S.nr - (intOf i).toNat)
    case atStart => exact ⟨0, Nat.zero_le _, rfl, fun j hj => by omega, Below.refl _ _⟩
    case round =>
      obtain ⟨k, hk, rfl, hok, hbel⟩ := hrel
      have HO := Lib.hid hok
      clear hok
      obtain ⟨bc, bf⟩ := bcell hbel
      have hz := hbel.size
      simp only [World.size_alloc] at hz
      have hy : w.heap.size < wr.heap.size := hz
      by_cases hlt : k < S.nr
      · have HS1 := HS.out.mono hbel
        rcases HS1.rocks with h0 | ⟨b, o, hA, hb, hcell⟩
        · omega
        obtain ⟨c0, c1, c2, c3⟩ := hcell k hlt
        clear hcell HS1
        subst hA
        rcases rock_cases (S.rock k) with ⟨g1, he⟩ | ⟨g1, g2, he⟩ | ⟨g1, g2, g3, he⟩ | ⟨g1, g2, g3, g4, he⟩ | ⟨g1, g2, g3, g4, he⟩
        case inr.inr.inr.inr =>
          have HE := Lib.hid he
          clear he
          go_wp2_with (go_at_call 66; refine (within02_any _ _ _ _).mono ?_; rintro e w' ⟨rfl, rfl⟩)
          go_roundw
          case rel => exact ⟨k + 1, by omega, by go_num, fun j hj => by (rcases Nat.lt_or_ge j k with h | h); exact HO.out j h; (obtain rfl : j = k := by omega); exact HE.out, bAlloc hbel _⟩
          case measure => simp [intOf]; omega
        all_goals
          have HE := Lib.hid he
          clear he
          go_wp2_with (go_at_call 66; refine (within02_any _ _ _ _).mono ?_; rintro e w' ⟨rfl, rfl⟩)
          go_ret
          exact ⟨ret_int (Sh.err_bad fun h => HE.out (h.rock k hlt)).symm, bAlloc (bTrans HB.out hbel) _⟩
      · obtain rfl : k = S.nr := by omega
        go_wp2_with fail
        obtain ⟨w1, rfl⟩ : ∃ w1 : World, w1 = wr := ⟨_, rfl⟩
        have HB1 := Lib.hid (bTrans HB.out hbel)
        have HS1 := Lib.hid (HS.out.mono hbel)
        clear hbel
        go_loopw [5] (fun i wr => ∃ k : Nat, k ≤ S.nf ∧ i = .int .i64 k ∧ (∀ j, j < k → inR (S.foot j) 0 (S.nr - 1) = true) ∧ Below w1.heap.size w1 wr) (fun i _ => S.nf - (intOf i).toNat)
        case atStart => exact ⟨0, Nat.zero_le _, rfl, fun j hj => by omega, Below.refl _ _⟩
        case round =>
          obtain ⟨k, hk, rfl, hok, hbel⟩ := hrel
          have HP := Lib.hid hok
          clear hok
          obtain ⟨bc2, bf2⟩ := bcell hbel
          have hz2 := hbel.size
          have hy2 : w.heap.size < wr.heap.size := by omega
          by_cases hlt : k < S.nf
          · have HS2 := HS1.out.mono hbel
            rcases HS2.feet with h0 | ⟨b, o, hA, hb, hcell⟩
            · omega
            have c0 := hcell k hlt
            clear hcell HS2
            subst hA
            cases hin : inR (S.foot k) 0 (S.nr - 1)
            case' false => have HE := Lib.hid (err_foot hlt hin)
            all_goals
              go_wp2_with fail
              refine wp_region_quiet_below (by kernel_rfl) (by kernel_rfl) ?_
              repeat (go_big_quiet_step ((go_at_call 33; exact Calls.regrown_of (isRock_any _ _ _ _ S _ _ hr))))
              refine wpQuiet_nil ?_
              intro w3 hw3
              have hb3 := below_of_regrown hw3
              clear hw3
              go_wp2_with fail
            · go_ret
              exact ⟨ret_int (Sh.err_bad HE.out).symm, bTrans (bTrans HB1.out hbel) hb3⟩
            · go_roundw
              case rel => exact ⟨k + 1, by omega, by go_num, fun j hj => by (rcases Nat.lt_or_ge j k with h | h); exact HP.out j h; (obtain rfl : j = k := by omega); exact hin, bTrans hbel hb3⟩
              case measure => simp [intOf]; omega
          · obtain rfl : k = S.nf := by omega
            go_wp2_with fail
            go_ret
            exact ⟨ret_int (Sh.err_ok ⟨by omega, by omega, HO.out, fun i hi => (foot_in.1 (HP.out i hi)).1, fun i hi => (foot_in.1 (HP.out i hi)).2, (inR_iff.1 h3).1, (inR_iff.1 h3).2, (inR_iff.1 h4).1, (inR_iff.1 h4).2, (inR_iff.1 h5).1, (inR_iff.1 h5).2⟩).symm, bTrans HB1.out hbel⟩
  all_goals
    have HE := Lib.hid he
    clear he
    go_enter Tryd.func19, Tryd.ntmps19
    go_wp2_with (go_at_call 66; refine (within02_any _ _ _ _).mono ?_; rintro e w' ⟨rfl, rfl⟩)
    go_ret
    exact ⟨ret_int (Sh.err_bad HE.out).symm, HB.out⟩
end Go.Proofs.YtbbnpneabmldnaaDoor
