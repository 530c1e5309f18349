/- Walks: FallsOf (the reference), firstFall (the program). -/
import Derived.Test.YtbbnpneabmldnaaDoorWalkF
namespace Go.Proofs.YtbbnpneabmldnaaDoor
open Go.RowKit Go.Sort

def Sh.fallsOf (S : Sh) (mem : Nat → Bool) : Int := if S.firstFall mem = S.nf then -1 else S.firstFall mem
theorem Sh.fallsOf_some {S : Sh} {mem : Nat → Bool} {f : Nat} (hf : f < S.nf) (h : ∀ j, j < f → S.fallAt mem j = false) (h2 : S.fallAt mem f = true) : S.fallsOf mem = f := by
  have e : S.firstFall mem = f := firstFrom_eq _ _ _ _ (Nat.zero_le _) (by omega) (fun j _ hj => h j hj) fun _ => h2
  unfold Sh.fallsOf; rw [e, if_neg (by omega)]
theorem Sh.fallsOf_none {S : Sh} {mem : Nat → Bool} (h : ∀ j, j < S.nf → S.fallAt mem j = false) : S.fallsOf mem = -1 := by
  have e : S.firstFall mem = S.nf := firstFrom_eq _ _ _ _ (Nat.zero_le _) (by omega) (fun j _ hj => h j hj) fun h => by omega
  unfold Sh.fallsOf; rw [if_pos e]
theorem forall_lt_succ {p : Nat → Prop} {f : Nat} (h : ∀ j, j < f → p j) (h2 : p f) : ∀ j, j < f + 1 → p j := fun j hj => by
  rcases Nat.lt_or_ge j f with h3 | h3
  · exact h j h3
  · obtain rfl : j = f := by omega
    exact h2
theorem memOf_at {m : Nat} {g : Nat → Int} {f : Nat} {b : Bool} (h : memOf m g (f + 1) = b) : anyB (fun i => g i == (f : Int) + 1) m = b := by rw [← h]; rfl

set_option maxHeartbeats 2000000 in
theorem fallsOf_any (Ar Af : Option Addr) (cr cf : Nat) (S : Sh) (w : World) (ok : S.Ok) (hS : ShAt w Ar Af S) (A : Option Addr) (n c : Nat) (g : Nat → Int) (hn : n ≤ 9223372036854775807) (hg : IntsAt w A n g) :
    Calls Tryd.prog 78 #[.agg #[.slice Ar S.nr cr, .slice Af S.nf cf, .int .i64 S.deep, .int .i64 S.haul, .int .i64 S.rest], .slice A n c] w fun e w' => e = .returned (.int .i64 (S.fallsOf (memOf n g))) ∧ Below w.heap.size w w' := by
  have hb0 := bAlloc (Below.refl w.heap.size w) (.cells #[.slice Ar S.nr cr, .slice Af S.nf cf, .int .i64 S.deep, .int .i64 S.haul, .int .i64 S.rest] 25)
  have HS := Lib.hid (hS.mono hb0)
  have HG := Lib.hid (hg.mono hb0)
  have HB := Lib.hid hb0
  clear hS hg hb0
  have hnf := ok.nf
  go_enter Tryd.func78, Tryd.ntmps78
  go_wp2_with fail
  go_loopw [5, 6] (fun l i wr => ∃ f : Nat, f ≤ S.nf ∧ i = .int .i64 f ∧ l = .int .i64 (lastS (memOf n g) f) ∧ (∀ j, j < f → S.fallAt (memOf n g) j = false) ∧ Below (w.alloc (.cells #[.slice Ar S.nr cr, .slice Af S.nf cf, .int .i64 S.deep, .int .i64 S.haul, .int .i64 S.rest] 25)).heap.size (w.alloc (.cells #[.slice Ar S.nr cr, .slice Af S.nf cf, .int .i64 S.deep, .int .i64 S.haul, .int .i64 S.rest] 25)) wr) (fun _ i _ => S.nf - (intOf i).toNat)
  case atStart => exact ⟨0, Nat.zero_le _, rfl, rfl, fun j h1 => by omega, Below.refl _ _⟩
  case round =>
    obtain ⟨f, hf, rfl, rfl, hno, hbel⟩ := hrel
    have HN := Lib.hid hno
    clear hno
    obtain ⟨bc, bf⟩ := bcell hbel
    have hz := hbel.size
    simp only [World.size_alloc] at hz
    have hy : w.heap.size < wr.heap.size := hz
    obtain ⟨l, hl⟩ : ∃ l, l = lastS (memOf n g) f := ⟨_, rfl⟩
    have hlf : l ≤ f := hl ▸ lastS_le _ _
    rw [← hl]
    have HL := Lib.hid hl
    clear hl
    by_cases hlt : f < S.nf
    · go_wp2_with fail
      obtain ⟨wo, rfl⟩ : ∃ wo : World, wo = wr := ⟨_, rfl⟩
      go_loopw [7] (fun i wr => ∃ t : Nat, l ≤ t ∧ t ≤ f + 1 ∧ i = .int .i64 t ∧ (∀ j, l ≤ j → j < t → ¬ (S.rk j).stand < (f : Int) - l + 1) ∧ Below wo.heap.size wo wr) (fun i _ => f + 1 - (intOf i).toNat)
      case atStart => exact ⟨l, Nat.le_refl _, by omega, rfl, fun j h1 h2 => by omega, Below.refl _ _⟩
      case round =>
        obtain ⟨t, ht1, ht2, rfl, hno, hbel2⟩ := hrel
        have HM := Lib.hid hno
        clear hno
        obtain ⟨bc2, bf2⟩ := bcell hbel2
        have hz2 := hbel2.size
        have hy2 : w.heap.size < wr.heap.size := by omega
        by_cases hlt2 : t < f + 1
        · have r0 := (ok.rk (i := t) (by omega)).s0
          have r1 := (ok.rk (i := t) (by omega)).s1
          by_cases hst : (S.rk t).stand < (f : Int) - l + 1
          · have HF := Lib.hid (show S.fallAt (memOf n g) f = true by unfold Sh.fallAt; rw [← HL.out, Sh.fallsAt_iff hlf (by omega)]; exact ⟨t, ht1, by omega, hst⟩)
            go_wp2_with (go_at_call 72; refine (rockOf_any _ _ _ _ S _ ok ((HS.out.mono hbel).mono hbel2) _ t (by omega) (by omega)).mono ?_; rintro e w1 ⟨rfl, hb1⟩)
            go_ret
            exact ⟨ret_int (Sh.fallsOf_some hlt HN.out HF.out).symm, bTrans (bTrans (bTrans HB.out hbel) hbel2) hb1⟩
          · go_wp2_with (go_at_call 72; refine (rockOf_any _ _ _ _ S _ ok ((HS.out.mono hbel).mono hbel2) _ t (by omega) (by omega)).mono ?_; rintro e w1 ⟨rfl, hb1⟩)
            go_roundw
            case rel => exact ⟨t + 1, by omega, by omega, by go_num, fun j h1 h2 => by (rcases Nat.lt_or_ge j t with h | h); (have := HM.out j h1 h; omega); (obtain rfl : j = t := by omega); omega, bTrans hbel2 hb1⟩
            case measure => simp [intOf]; omega
        · obtain rfl : t = f + 1 := by omega
          have HF := Lib.hid (show S.fallAt (memOf n g) f = false by
            cases e : S.fallAt (memOf n g) f
            · rfl
            · unfold Sh.fallAt at e; rw [← HL.out, Sh.fallsAt_iff hlf (by omega)] at e
              obtain ⟨i, h1, h2, h3⟩ := e
              exact absurd h3 (HM.out i h1 (by omega)))
          have HG2 := Lib.hid ((HG.out.mono hbel).mono hbel2)
          cases hm : memOf n g (f + 1)
          · have hm2 := memOf_at hm
            have HLS := Lib.hid (show lastS (memOf n g) (f + 1) = l by rw [lastS, hm]; simp [HL.out])
            clear hm
            go_wp2_with (go_at_call 38; refine (in_any _ _ _ g _ _ hn HG2.out).mono ?_; rintro e w1 ⟨rfl, hb1⟩)
            go_roundw
            case rel => exact ⟨f + 1, by omega, by go_num, by rw [HLS.out], forall_lt_succ HN.out HF.out, bTrans (bTrans hbel hbel2) hb1⟩
            case measure => simp [intOf]; omega
          · have hm2 := memOf_at hm
            have HLS := Lib.hid (show lastS (memOf n g) (f + 1) = f + 1 by rw [lastS, hm]; simp)
            clear hm
            go_wp2_with (go_at_call 38; refine (in_any _ _ _ g _ _ hn HG2.out).mono ?_; rintro e w1 ⟨rfl, hb1⟩)
            go_roundw
            case rel => exact ⟨f + 1, by omega, by go_num, by rw [HLS.out]; go_num, forall_lt_succ HN.out HF.out, bTrans (bTrans hbel hbel2) hb1⟩
            case measure => simp [intOf]; omega
    · obtain rfl : f = S.nf := by omega
      go_wp2_with fail
      go_ret
      exact ⟨ret_int (Sh.fallsOf_none HN.out).symm, bTrans HB.out hbel⟩
end Go.Proofs.YtbbnpneabmldnaaDoor
