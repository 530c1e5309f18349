/- Walks of the package levels: said, of a valid town that has a truth. -/
import Derived.Test.YtdboicnlkbnbnaaDoorLvA
namespace Go.Proofs.YtdboicnlkbnbnaaDoor
open Go.RowKit Go.Sort
def SndsAt (w : World) (A : Option Addr) (n : Nat) (f : Nat → Snd) : Prop :=
  n = 0 ∨ ∃ b o, A = some ⟨b, o, none⟩ ∧ b < w.heap.size ∧ ∀ i, i < n → w.cell? ⟨b, o + i * 3, none⟩ = some (.int .i64 (f i).well) ∧ w.cell? ⟨b, o + i * 3 + 1, none⟩ = some (.int .i64 (f i).low) ∧ w.cell? ⟨b, o + i * 3 + 2, none⟩ = some (.int .i64 (f i).high)
def SlpsAt (w : World) (A : Option Addr) (n : Nat) (f : Nat → Slp) : Prop :=
  n = 0 ∨ ∃ b o, A = some ⟨b, o, none⟩ ∧ b < w.heap.size ∧ ∀ i, i < n → w.cell? ⟨b, o + i * 4, none⟩ = some (.int .i64 (f i).a) ∧ w.cell? ⟨b, o + i * 4 + 1, none⟩ = some (.int .i64 (f i).b) ∧ w.cell? ⟨b, o + i * 4 + 2, none⟩ = some (.int .i64 (f i).low) ∧ w.cell? ⟨b, o + i * 4 + 3, none⟩ = some (.int .i64 (f i).high)
theorem SndsAt.mono {w w' : World} {A : Option Addr} {n : Nat} {f : Nat → Snd} (h : SndsAt w A n f) (hb : Below w.heap.size w w') : SndsAt w' A n f := by
  rcases h with h | ⟨b, o, rfl, hlt, hc⟩
  · exact .inl h
  · exact .inr ⟨b, o, rfl, Nat.lt_of_lt_of_le hlt hb.size, fun i hi => ⟨(hb.cell (p := ⟨b, _, none⟩) hlt).trans (hc i hi).1, (hb.cell (p := ⟨b, _, none⟩) hlt).trans (hc i hi).2.1, (hb.cell (p := ⟨b, _, none⟩) hlt).trans (hc i hi).2.2⟩⟩
theorem SlpsAt.mono {w w' : World} {A : Option Addr} {n : Nat} {f : Nat → Slp} (h : SlpsAt w A n f) (hb : Below w.heap.size w w') : SlpsAt w' A n f := by
  rcases h with h | ⟨b, o, rfl, hlt, hc⟩
  · exact .inl h
  · exact .inr ⟨b, o, rfl, Nat.lt_of_lt_of_le hlt hb.size, fun i hi => ⟨(hb.cell (p := ⟨b, _, none⟩) hlt).trans (hc i hi).1, (hb.cell (p := ⟨b, _, none⟩) hlt).trans (hc i hi).2.1, (hb.cell (p := ⟨b, _, none⟩) hlt).trans (hc i hi).2.2.1, (hb.cell (p := ⟨b, _, none⟩) hlt).trans (hc i hi).2.2.2⟩⟩
structure LtAt (w : World) (As Al : Option Addr) (t : Lt) : Prop where
  snd : SndsAt w As t.ns t.snd
  slp : SlpsAt w Al t.nl t.slp
theorem LtAt.mono {w w' : World} {As Al : Option Addr} {t : Lt} (h : LtAt w As Al t) (hb : Below w.heap.size w w') : LtAt w' As Al t := ⟨h.snd.mono hb, h.slp.mono hb⟩
theorem all_any (n : Int) (w : World) : Calls Tryd.prog 36 #[.int .i64 n] w fun e w' => e = .returned (.bool true) ∧ w = w' := by
  go_enter Tryd.func36, Tryd.ntmps36
  go_wp2_with fail
  go_ret
  exact ⟨rfl, rfl⟩
/-- what said hands back, where there is a truth -/
def SaidOut (w w' : World) (t : Lt) (e : Ending) : Prop := ∃ a, e = .returned (.tuple #[.pointer (some ⟨a, 0, none⟩), .bool true]) ∧ BdAt w' a t.shut ∧ w.heap.size ≤ a ∧ Below w.heap.size w w'
theorem open_fine {t : Lt} {l : Nat → Int} (ok : t.Ok) (h : t.Truth l) : Fine (onGround t.wells l) t.open_ :=
  ⟨slopes_keeps ok h _ (Nat.le_refl _), ground_bd h, fun i j => by
    have h1 : LeB t.open_ bare := (slopesB_le _ _ _).trans ((soundsB_le _ _ _).trans (rock_bare _))
    have h2 := h1 i j
    unfold bare at h2
    by_cases e : i = j
    · rw [if_pos e] at h2; unfold free; omega
    · rw [if_neg e] at h2; exact h2⟩
where rock_bare : ∀ w, LeB (rockB w) bare
  | 0 => LeB.refl _
  | w + 1 => ((leave_le _ _ _ _).trans (leave_le _ _ _ _)).trans (rock_bare w)
theorem rock_at (ni : Int) (n : Nat) (h : ni = n) (w : World) (hn : n ≤ 6) : Calls Tryd.prog 43 #[.int .i64 ni] w fun e w' => Rocked w w' (rockB n) e := by
  subst h
  exact rock_any2 n w hn
set_option maxHeartbeats 8000000 in
set_option maxRecDepth 100000 in
theorem said_any (As Al : Option Addr) (cs cl : Nat) (t : Lt) (l : Nat → Int) (w : World) (ok : t.Ok) (ht : t.Truth l) (hT : LtAt w As Al t) :
    Calls Tryd.prog 35 #[.agg #[.int .i64 t.wells, .slice As t.ns cs, .slice Al t.nl cl], .func (.func 36) #[] #[]] w fun e w' => SaidOut w w' t e := by
  have hb0 := bAlloc (Below.refl w.heap.size w) (.cells #[.int .i64 t.wells, .slice As t.ns cs, .slice Al t.nl cl] 25)
  have HT := Lib.hid (hT.mono hb0)
  have HB := Lib.hid hb0
  have HF := Lib.hid (open_fine ok ht)
  have w0 := ok.w0
  have w1 := ok.w1
  have ns8 := ok.ns
  have nl8 := ok.nl
  have HOK := Lib.hid ok
  have HW := Lib.hid (show t.wells = (t.wells.toNat : Int) by omega)
  clear hT hb0 ok ht
  go_enter Tryd.func35, Tryd.ntmps35
  go_wp2_with fail
  refine (rock_at _ t.wells.toNat HW.out _ (by omega)).mono ?_
  rintro e w2 ⟨a, rfl, h2, ha, hb2⟩
  have HB2 := Lib.hid h2
  have HL2 := Lib.hid hb2
  have HA := Lib.hid ha
  obtain ⟨bc2, bf2⟩ := bcell hb2
  have hz2 := hb2.size
  simp only [World.size_alloc] at hz2 ha
  have hy2 : w.heap.size < w2.heap.size := by omega
  clear h2 hb2
  go_wp2_with fail
  clear bc2 bf2
  go_loopw [17] (fun i wr => ∃ k : Nat, i = .int .i64 k ∧ k ≤ t.ns ∧ BdAt wr a (soundsB (rockB t.wells.toNat) t.snd k) ∧ Below (w.alloc (.cells #[.int .i64 t.wells, .slice As t.ns cs, .slice Al t.nl cl] 25)).heap.size (w.alloc (.cells #[.int .i64 t.wells, .slice As t.ns cs, .slice Al t.nl cl] 25)) wr) (fun i _ => t.ns - (intOf i).toNat)
  case atStart => exact ⟨0, rfl, Nat.zero_le _, HB2.out, HL2.out⟩
  case round =>
    obtain ⟨k, rfl, hk, hB, hbel⟩ := hrel
    have HB3 := Lib.hid hB
    have HL3 := Lib.hid hbel
    obtain ⟨bc3, bf3⟩ := bcell hbel
    have hz3 := hbel.size
    simp only [World.size_alloc] at hz3
    have hy3 : w.heap.size < wr.heap.size := hz3
    clear hB hbel
    by_cases hlt : k < t.ns
    · rcases (HT.out.mono HL3.out).snd with h0 | ⟨b, o, hA, hb, hcell⟩
      · omega
      obtain ⟨c0, c1, c2⟩ := hcell k hlt
      clear hcell
      have k1 : (k : Int) < (t.ns : Int) := by omega
      have HK := Lib.hid hlt
      subst hA
      go_wp2_with (go_at_call 36; refine (all_any _ _).mono ?_; rintro e w3' ⟨rfl, rfl⟩)
      refine (sound_any a (t.snd k) t.wells _ _ (HOK.out.snd k HK.out) w1 (HB3.out.mono (bAlloc (Below.refl _ _) _))).mono ?_
      rintro e w4 ⟨rfl, h4, g4⟩
      have HB4 := Lib.hid h4
      have HL4 := Lib.hid ((bAlloc HL3.out _).grown g4 (bAlloc HL3.out _).size (fun q hq => by injection hq with hq; rw [← hq]; exact HA.out))
      clear h4 g4 c0 c1 c2 hb bc3 bf3
      go_wp2_with fail
      go_roundw
      case rel =>
        first
        | exact ⟨k + 1, by go_num, by omega, HB4.out, HL4.out⟩
        | ((repeat apply Exists.intro)
           refine ⟨⟨k + 1, ?_, by omega, HB4.out, HL4.out⟩, rfl⟩
           go_num)
      case measure => simp [intOf]; omega
    · obtain rfl : k = t.ns := by omega
      go_wp2_with fail
      clear bc3 bf3
      go_loopw [32] (fun i wr => ∃ k : Nat, i = .int .i64 k ∧ k ≤ t.nl ∧ BdAt wr a (slopesB (soundsB (rockB t.wells.toNat) t.snd t.ns) t.slp k) ∧ Below (w.alloc (.cells #[.int .i64 t.wells, .slice As t.ns cs, .slice Al t.nl cl] 25)).heap.size (w.alloc (.cells #[.int .i64 t.wells, .slice As t.ns cs, .slice Al t.nl cl] 25)) wr) (fun i _ => t.nl - (intOf i).toNat)
      case atStart => exact ⟨0, rfl, Nat.zero_le _, HB3.out, HL3.out⟩
      case round =>
        obtain ⟨k, rfl, hk, hB, hbel⟩ := hrel
        have HB5 := Lib.hid hB
        have HL5 := Lib.hid hbel
        obtain ⟨bc5, bf5⟩ := bcell hbel
        have hz5 := hbel.size
        simp only [World.size_alloc] at hz5
        have hy5 : w.heap.size < wr.heap.size := hz5
        clear hB hbel
        by_cases hlt : k < t.nl
        · rcases (HT.out.mono HL5.out).slp with h0 | ⟨b, o, hA, hb, hcell⟩
          · omega
          obtain ⟨c0, c1, c2, c3⟩ := hcell k hlt
          clear hcell
          have k1 : (k : Int) < (t.nl : Int) := by omega
          have HK := Lib.hid hlt
          subst hA
          go_wp2_with (go_at_call 36; refine (all_any _ _).mono ?_; rintro e w3' ⟨rfl, rfl⟩)
          refine (slope_any a (t.slp k) t.wells _ _ (HOK.out.slp k HK.out) w1 (HB5.out.mono (bAlloc (Below.refl _ _) _))).mono ?_
          rintro e w6 ⟨rfl, h6, g6⟩
          have HB6 := Lib.hid h6
          have HL6 := Lib.hid ((bAlloc HL5.out _).grown g6 (bAlloc HL5.out _).size (fun q hq => by injection hq with hq; rw [← hq]; exact HA.out))
          clear h6 g6 c0 c1 c2 c3 hb bc5 bf5
          go_wp2_with fail
          go_roundw
          case rel =>
            first
            | exact ⟨k + 1, by go_num, by omega, HB6.out, HL6.out⟩
            | ((repeat apply Exists.intro)
               refine ⟨⟨k + 1, ?_, by omega, HB6.out, HL6.out⟩, rfl⟩
               go_num)
          case measure => simp [intOf]; omega
        · obtain rfl : k = t.nl := by omega
          go_wp2_with fail
          refine (close_any a _ _ _ HF.out HB5.out).mono ?_
          rintro e w7 ⟨rfl, h7, g7⟩
          have HB7 := Lib.hid h7
          have HL7 := Lib.hid (HL5.out.grown g7 HL5.out.size (fun q hq => by injection hq with hq; rw [← hq]; exact HA.out))
          clear h7 g7 bc5 bf5
          go_wp2_with fail
          go_ret2
          exact ⟨a, rfl, HB7.out, by omega, bTrans HB.out HL7.out⟩
end Go.Proofs.YtdboicnlkbnbnaaDoor
