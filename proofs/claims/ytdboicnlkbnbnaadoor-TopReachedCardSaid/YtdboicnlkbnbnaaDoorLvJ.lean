/- The walk of Spans of the reference of levels, of a valid town: if it says that there is a truth, there is one. -/
import Derived.Test.YtdboicnlkbnbnaaDoorLvK
namespace Go.Proofs.YtdboicnlkbnbnaaDoor
open Go.RowKit Go.Sort
theorem infoSpan : (Tryd.prog.info? 43).map (fun i => (i.zero, i.size, i.bytes)) = some (some (.agg #[.int .i64 0, .int .i64 0]), 2, 16) := by kernel_rfl
theorem spanMake (n : Nat) (h : n ≤ 1000) : ∃ Z : Array Value, (∀ j, j < n * 2 → Z[j]? = some (.int .i64 0)) ∧ ∀ w : World, (Instr.makeSlice 81 (.int .i64 (n : Int)) (.int .i64 (n : Int))).run Tryd.prog w = .ok (.slice (some ⟨w.heap.size, 0, none⟩) n n) (w.alloc (.cells Z 43)) := by
  obtain ⟨i0, hi, iz0, iz1, iz2⟩ := info_parts infoSpan
  refine ⟨madeCells (Value.agg #[.int .i64 0, .int .i64 0]).cells (n * 2), fun j hj => ?_, fun w => ?_⟩
  · have h2 : (Value.agg #[.int .i64 0, .int .i64 0]).cells = #[.int .i64 0, .int .i64 0] := rfl
    rw [h2]
    rcases (by omega : j % 2 = 0 ∨ j % 2 = 1) with e | e <;> simp [madeCells, hj, e]
  · have := run_make (P := Tryd.prog) w 81 43 i0 _ Tryd.underlying81 hi iz0 .i64 .i64 (n : Int) (n : Int) (by omega) (Int.le_refl _) (by rw [iz2]; omega) (by omega)
    rw [iz1] at this
    simpa using this
/-- the spans behind k soundings -/
structure SpSnd (t : Lt) (n k : Nat) (l : Sp) : Prop where
  bd : ∀ i, i < n → 0 ≤ (l i).1 ∧ (l i).1 ≤ 99 ∧ 0 ≤ (l i).2 ∧ (l i).2 ≤ 99
  snd : ∀ j, j < k → (t.snd j).low ≤ (l (t.snd j).well.toNat).1 ∧ (l (t.snd j).well.toNat).2 ≤ (t.snd j).high
def soundS (s : Snd) (l : Sp) : Sp := setS l s.well.toNat (cutS (l s.well.toNat) (s.low, s.high))
theorem soundS_nar (s : Snd) (l : Sp) : Nar (soundS s l) l := setS_nar (cut_nar _ _)
theorem SpSnd.step {t : Lt} {n k : Nat} {l : Sp} (h : SpSnd t n k l) (hok : (t.snd k).Ok n) : SpSnd t n (k + 1) (soundS (t.snd k) l) := by
  have w0 := hok.w0
  have w1 := hok.w1
  have l0 := hok.l0
  have l1 := hok.l1
  have h1 := hok.h1
  refine ⟨fun i hi => ?_, fun j hj => ?_⟩
  · have c := h.bd i hi
    by_cases e : i = (t.snd k).well.toNat
    · unfold soundS
      rw [e, setS_at, ← e]
      unfold cutS
      exact ⟨by show 0 ≤ max _ _; omega, by show max _ _ ≤ _; omega, by show 0 ≤ min _ _; omega, by show min _ _ ≤ _; omega⟩
    · unfold soundS
      rw [setS_ne _ _ e]
      exact c
  · rcases Nat.lt_or_ge j k with h2 | h2
    · have a := h.snd j h2
      have b := soundS_nar (t.snd k) l (t.snd j).well.toNat
      omega
    · obtain rfl : j = k := by omega
      unfold soundS
      rw [setS_at]
      exact ⟨Int.le_max_right _ _, Int.min_le_right _ _⟩
theorem SpSnd.head {t : Lt} {n : Nat} {l : Sp} (h : SpSnd t n t.ns l) (hn : (n : Int) = t.wells) : SpHead t n true l :=
  ⟨⟨fun w hw => (h.bd w (by omega)).1, fun w hw => (h.bd w (by omega)).2.2.2, h.snd⟩, fun i hi => by have := h.bd i hi; omega, fun hc => by cases hc⟩
/-- what Spans hands back -/
def SpansOut (t : Lt) (e : Ending) : Prop := (∃ v, e = .returned (.tuple #[v, .bool false])) ∨ ((∃ v, e = .returned (.tuple #[v, .bool true])) ∧ ∃ l, t.Truth l)
/-- the first spans, k of them whole -/
def firstS (k : Nat) : Sp := fun i => if i < k then (0, 99) else (0, 0)
theorem firstS_step (k : Nat) : ∀ i, setS (firstS k) k ((firstS k k).1, 99) i = firstS (k + 1) i := fun i => by
  unfold firstS setS
  by_cases e : i = k
  · subst e; simp
  · by_cases h : i < k
    · simp [e, h]; omega
    · simp [e, h]; omega
theorem firstS_snd (t : Lt) (n : Nat) : SpSnd t n 0 (firstS n) := ⟨fun i hi => by unfold firstS; rw [if_pos hi]; decide, fun j hj => by omega⟩
set_option maxHeartbeats 8000000 in
set_option maxRecDepth 100000 in
theorem spans_any (As Al : Option Addr) (cs cl : Nat) (t : Lt) (w : World) (ok : t.Ok) (hT : LtAt w As Al t) :
    Calls Tryd.prog 33 #[.agg #[.int .i64 t.wells, .slice As t.ns cs, .slice Al t.nl cl]] w fun e w' => SpansOut t e ∧ Below w.heap.size w w' := by
  obtain ⟨n, hn⟩ : ∃ n : Nat, t.wells = (n : Int) := ⟨t.wells.toNat, by have := ok.w0; omega⟩
  have HN := Lib.hid (show (n : Int) = t.wells by omega)
  have HOKS := Lib.hid (show ∀ j, j < t.ns → (t.snd j).Ok n from fun j hj => hn ▸ ok.snd j hj)
  have HOKL := Lib.hid (show ∀ j, j < t.nl → (t.slp j).Ok n from fun j hj => hn ▸ ok.slp j hj)
  have hn6 : n ≤ 6 := by have := ok.w1; omega
  have ns8 := ok.ns
  have nl8 := ok.nl
  have HOK := Lib.hid ok
  rw [hn]
  clear hn ok
  have hb0 := bAlloc (Below.refl w.heap.size w) (.cells #[.int .i64 n, .slice As t.ns cs, .slice Al t.nl cl] 25)
  have HT := Lib.hid (hT.mono hb0)
  have HB := Lib.hid hb0
  clear hT hb0
  obtain ⟨Z, hZ, hmk⟩ := spanMake n (by omega)
  have HZ := Lib.hid hZ
  clear hZ
  go_enter Tryd.func33, Tryd.ntmps33
  go_wp2_with fail
  clear hmk
  go_loopw [5] (fun i wr => ∃ k : Nat, i = .int .i64 k ∧ k ≤ n ∧ SpAt wr (w.heap.size + 1) n (firstS k) ∧ Below (w.alloc (.cells #[.int .i64 n, .slice As t.ns cs, .slice Al t.nl cl] 25)).heap.size (w.alloc (.cells #[.int .i64 n, .slice As t.ns cs, .slice Al t.nl cl] 25)) wr) (fun i _ => n - (intOf i).toNat)
  case atStart =>
    refine ⟨0, rfl, Nat.zero_le _, ⟨by simp, fun i hi => ?_, fun k => by simp⟩, bAlloc (Below.refl _ _) _⟩
    have z0 := HZ.out (i * 2) (by omega)
    have z1 := HZ.out (i * 2 + 1) (by omega)
    simp [go_sem, firstS, z0, z1]
  case round =>
    obtain ⟨k, rfl, hk, hS, hbel⟩ := hrel
    have HS := Lib.hid hS
    have HL3 := Lib.hid hbel
    obtain ⟨bc3, bf3⟩ := bcell hbel
    have hz3 := hbel.size
    simp only [World.size_alloc] at hz3
    have hy3 : w.heap.size < wr.heap.size := hz3
    clear hbel
    by_cases hlt : k < n
    · obtain ⟨c0, c1⟩ := hS.cell k hlt
      have f1 := hS.frz (k * 2 + 1)
      have hl1 := hS.lt
      have k1 : (k : Int) < (n : Int) := by omega
      have HS4 := Lib.hid ((hS.high hlt 99).congr fun i _ => firstS_step k i)
      have HL4 := Lib.hid (bSet (p := ⟨w.heap.size + 1, k * 2 + 1, none⟩) (by simp) HL3.out (.int .i64 99))
      clear hS
      go_wp2_with fail
      go_roundw
      case rel =>
        first
        | exact ⟨k + 1, by go_num, by omega, HS4.out, HL4.out⟩
        | ((repeat apply Exists.intro)
           refine ⟨⟨k + 1, ?_, by omega, HS4.out, HL4.out⟩, rfl⟩
           go_num)
      case measure => simp [intOf]; omega
    · obtain rfl : n = k := by omega
      clear hS
      have HF := Lib.hid (firstS_snd t n)
      go_wp2_with fail
      clear bc3 bf3
      go_loopw [6] (fun i wr => ∃ (k : Nat) (l : Sp), i = .int .i64 k ∧ k ≤ t.ns ∧ SpSnd t n k l ∧ SpAt wr (w.heap.size + 1) n l ∧ Below (w.alloc (.cells #[.int .i64 n, .slice As t.ns cs, .slice Al t.nl cl] 25)).heap.size (w.alloc (.cells #[.int .i64 n, .slice As t.ns cs, .slice Al t.nl cl] 25)) wr) (fun i _ => t.ns - (intOf i).toNat)
      case atStart => exact ⟨0, _, rfl, Nat.zero_le _, HF.out, HS.out, HL3.out⟩
      case round =>
        obtain ⟨k, l, rfl, hk, hl, hS, hbel⟩ := hrel
        have HSN := Lib.hid hl
        have HS5 := Lib.hid hS
        have HL5 := Lib.hid hbel
        obtain ⟨bc5, bf5⟩ := bcell hbel
        have hz5 := hbel.size
        simp only [World.size_alloc] at hz5
        have hy5 : w.heap.size < wr.heap.size := hz5
        have hx5 := hS.lt
        clear hbel hl hS
        by_cases hlt : k < t.ns
        · rcases (HT.out.mono HL5.out).snd with h0 | ⟨b, o, hA, hb, hcell⟩
          · omega
          obtain ⟨c0, c1, c2⟩ := hcell k hlt
          clear hcell
          have k1 : (k : Int) < (t.ns : Int) := by omega
          have HK := Lib.hid hlt
          subst hA
          have hs := HOKS.out k hlt
          obtain ⟨p, hp⟩ : ∃ p : Nat, (t.snd k).well = (p : Int) := ⟨(t.snd k).well.toNat, by have := hs.w0; omega⟩
          rw [hp] at c0
          have hpn : p < n := by have := hs.w1; omega
          have HP := Lib.hid (show (t.snd k).well.toNat = p by omega)
          have HPN := Lib.hid hpn
          clear hp hs
          have p1 : (p : Int) < (n : Int) := by omega
          have p0 : (0 : Int) ≤ (p : Int) := by omega
          obtain ⟨d0, d1⟩ := HS5.out.cell p hpn
          obtain ⟨x, hx⟩ : ∃ x, (l p).1 = x := ⟨_, rfl⟩
          obtain ⟨y, hy⟩ : ∃ y, (l p).2 = y := ⟨_, rfl⟩
          rw [hx] at d0
          rw [hy] at d1
          obtain ⟨x2, hx2⟩ : ∃ x2, (cutS (x, y) ((t.snd k).low, (t.snd k).high)).1 = x2 := ⟨_, rfl⟩
          obtain ⟨y2, hy2⟩ : ∃ y2, (cutS (x, y) ((t.snd k).low, (t.snd k).high)).2 = y2 := ⟨_, rfl⟩
          have HCUT := Lib.hid (fun w => hx2 ▸ hy2 ▸ cut_any x y (t.snd k).low (t.snd k).high w : ∀ w : World, Calls Tryd.prog 42 #[.agg #[.int .i64 x, .int .i64 y], .agg #[.int .i64 (t.snd k).low, .int .i64 (t.snd k).high]] w fun e w' => e = .returned (.agg #[.int .i64 x2, .int .i64 y2]) ∧ Below w.heap.size w w')
          have HST := Lib.hid (show soundS (t.snd k) l = setS l p (x2, y2) by
            unfold soundS
            rw [HP.out]
            congr 1
            rw [← hx2, ← hy2, ← hx, ← hy])
          clear hx hy hx2 hy2 hpn
          go_wp2_with fail
          refine wp_region_last 15 (by kernel_rfl) (by kernel_rfl) rfl ?_
          repeat (first | (refine wpCalm_skip rfl ?_) | (refine wpCalm_step rfl (fun K hK => ?_); go_simp; (first | (refine hK _ ?_; clear hK K) | (apply Exists.intro; refine ⟨fun _ => ?_, hK _ ?_⟩; (go_at_call 42; exact HCUT.out _); clear hK K))))
          refine wpCalm_nil ?_
          intro w6 hb6
          have hS6 := HS5.out.mono (bTrans (bAlloc (Below.refl wr.heap.size wr) _) hb6)
          obtain ⟨e0, e1⟩ := hS6.cell p HPN.out
          have f0 := hS6.frz (p * 2)
          have f1 := hS6.frz (p * 2 + 1)
          have hx6 := hS6.lt
          have HS7 := Lib.hid (show SpAt _ (w.heap.size + 1) n (soundS (t.snd k) l) from HST.out ▸ hS6.set HPN.out x2 y2)
          have HL7 := Lib.hid (bSet (p := ⟨w.heap.size + 1, p * 2 + 1, none⟩) (by simp) (bSet (p := ⟨w.heap.size + 1, p * 2, none⟩) (by simp) (bTrans (bAlloc HL5.out _) hb6) (.int .i64 x2)) (.int .i64 y2))
          have HSN7 := Lib.hid (HSN.out.step (HOKS.out k HK.out))
          clear hS6 hb6 bc5 bf5 c0 c1 c2 d0 d1 hb
          go_wp2_with fail
          go_roundw
          case rel =>
            first
            | exact ⟨k + 1, _, by go_num, by omega, HSN7.out, HS7.out, HL7.out⟩
            | ((repeat apply Exists.intro)
               refine ⟨⟨k + 1, _, ?_, by omega, HSN7.out, HS7.out, HL7.out⟩, rfl⟩
               go_num)
          case measure => simp [intOf]; omega
        · obtain rfl : k = t.ns := by omega
          have HHD := Lib.hid (HSN.out.head HN.out)
          go_wp2_with fail
          clear bc5 bf5
          -- OUTER
          go_loopw [8] (fun c wr => ∃ (ch : Bool) (l : Sp), c = .bool ch ∧ SpHead t n ch l ∧ SpAt wr (w.heap.size + 1) n l ∧ Below (w.alloc (.cells #[.int .i64 n, .slice As t.ns cs, .slice Al t.nl cl] 25)).heap.size (w.alloc (.cells #[.int .i64 n, .slice As t.ns cs, .slice Al t.nl cl] 25)) wr) (fun c wr => spMeas n (w.heap.size + 1) c wr)
          case atStart => exact ⟨true, _, rfl, HHD.out, HS5.out, HL5.out⟩
          case round =>
            obtain ⟨ch, l, rfl, hh, hS, hbel⟩ := hrel
            have HH := Lib.hid hh
            have HS8 := Lib.hid hS
            have HL8 := Lib.hid hbel
            clear hh hS hbel
            cases ch
            · have HTR := Lib.hid (HH.out.truth HOK.out HN.out)
              go_wp2_with fail
              go_ret2
              exact ⟨.inr ⟨⟨_, rfl⟩, HTR.out⟩, bTrans HB.out HL8.out⟩
            have HME := Lib.hid (spMeas_true HS8.out)
            go_wp2_with fail
            go_loopw [9] (fun i wr => ∃ k : Nat, i = .int .i64 k ∧ k ≤ n ∧ (∀ j, j < k → (l j).1 ≤ (l j).2) ∧ SpAt wr (w.heap.size + 1) n l ∧ Below (w.alloc (.cells #[.int .i64 n, .slice As t.ns cs, .slice Al t.nl cl] 25)).heap.size (w.alloc (.cells #[.int .i64 n, .slice As t.ns cs, .slice Al t.nl cl] 25)) wr) (fun i _ => n - (intOf i).toNat)
            case atStart => exact ⟨0, rfl, Nat.zero_le _, fun j hj => absurd hj (Nat.not_lt_zero _), HS8.out, HL8.out⟩
            case round =>
              obtain ⟨k, rfl, hk, hle, hS, hbel⟩ := hrel
              have HLE := Lib.hid hle
              have HS9 := Lib.hid hS
              have HL9 := Lib.hid hbel
              have hx9 := hS.lt
              clear hle hS hbel
              by_cases hlt : k < n
              · obtain ⟨d0, d1⟩ := HS9.out.cell k hlt
                obtain ⟨x, hx⟩ : ∃ x, (l k).1 = x := ⟨_, rfl⟩
                obtain ⟨y, hy⟩ : ∃ y, (l k).2 = y := ⟨_, rfl⟩
                rw [hx] at d0
                rw [hy] at d1
                have HX := Lib.hid hx
                have HY := Lib.hid hy
                have k1 : (k : Int) < (n : Int) := by omega
                clear hx hy
                by_cases hxy : y < x
                · have hd : decide (y < x) = true := by simpa using hxy
                  go_wp2_with fail
                  refine wp_region_quiet_below (by kernel_rfl) (by kernel_rfl) ?_
                  repeat (go_big_quiet_step ((fail)))
                  refine wpQuiet_nil ?_
                  intro w10 hw10
                  have HB10 := Lib.hid (below_of_regrown hw10)
                  clear hw10
                  go_wp2_with fail
                  go_ret2
                  exact ⟨.inl ⟨_, rfl⟩, bTrans HB.out (bTrans HL9.out HB10.out)⟩
                · have hd : decide (y < x) = false := by simpa using hxy
                  have HLE2 := Lib.hid (show ∀ j, j < k + 1 → (l j).1 ≤ (l j).2 from fun j hj => by
                    rcases Nat.lt_or_ge j k with h1 | h1
                    · exact HLE.out j h1
                    · obtain rfl : j = k := by omega
                      rw [HX.out, HY.out]
                      omega)
                  go_wp2_with fail
                  refine wp_region_quiet_below (by kernel_rfl) (by kernel_rfl) ?_
                  repeat (go_big_quiet_step ((fail)))
                  refine wpQuiet_nil ?_
                  intro w10 hw10
                  have HB10 := Lib.hid (below_of_regrown hw10)
                  have HS10 := Lib.hid (HS9.out.mono HB10.out)
                  have HL10 := Lib.hid (bTrans HL9.out HB10.out)
                  clear hw10
                  go_wp2_with fail
                  go_roundw
                  case rel =>
                    first
                    | exact ⟨k + 1, by go_num, by omega, HLE2.out, HS10.out, HL10.out⟩
                    | ((repeat apply Exists.intro)
                       refine ⟨⟨k + 1, ?_, by omega, HLE2.out, HS10.out, HL10.out⟩, rfl⟩
                       go_num)
                  case measure => simp [intOf]; omega
              · obtain rfl : n = k := by omega
                have HRS := Lib.hid (SpRound.start HH.out HN.out HLE.out)
                go_wp2_with fail
                go_loopw [8, 10] (fun c i wr => ∃ (k : Nat) (ch : Bool) (l' : Sp), c = .bool ch ∧ i = .int .i64 k ∧ k ≤ t.nl ∧ SpRound t n l k ch l' ∧ SpAt wr (w.heap.size + 1) n l' ∧ Below (w.alloc (.cells #[.int .i64 n, .slice As t.ns cs, .slice Al t.nl cl] 25)).heap.size (w.alloc (.cells #[.int .i64 n, .slice As t.ns cs, .slice Al t.nl cl] 25)) wr) (fun _ i _ => t.nl - (intOf i).toNat)
                case atStart => exact ⟨0, false, _, rfl, rfl, Nat.zero_le _, HRS.out, HS9.out, HL9.out⟩
                case round =>
                  obtain ⟨k, ch, l', rfl, rfl, hk, hr, hS, hbel⟩ := hrel
                  have HR := Lib.hid hr
                  have HS11 := Lib.hid hS
                  have HL11 := Lib.hid hbel
                  obtain ⟨bc11, bf11⟩ := bcell hbel
                  have hz11 := hbel.size
                  simp only [World.size_alloc] at hz11
                  have hy11 : w.heap.size < wr.heap.size := hz11
                  have hx11 := hS.lt
                  clear hr hS hbel
                  by_cases hlt : k < t.nl
                  · rcases (HT.out.mono HL11.out).slp with h0 | ⟨b, o, hA, hb, hcell⟩
                    · omega
                    obtain ⟨c0, c1, c2, c3⟩ := hcell k hlt
                    clear hcell
                    have k1 : (k : Int) < (t.nl : Int) := by omega
                    have HK := Lib.hid hlt
                    subst hA
                    have hs := HOKL.out k hlt
                    have hro := HR.out.step hs
                    obtain ⟨p, hp⟩ : ∃ p : Nat, (t.slp k).a = (p : Int) := ⟨(t.slp k).a.toNat, by have := hs.a0; omega⟩
                    obtain ⟨q, hq⟩ : ∃ q : Nat, (t.slp k).b = (q : Int) := ⟨(t.slp k).b.toNat, by have := hs.b0; omega⟩
                    rw [hp] at c0
                    rw [hq] at c1
                    have hpn : p < n := by have := hs.a1; omega
                    have hqn : q < n := by have := hs.b1; omega
                    have hpq : p ≠ q := fun e => hs.ne (by rw [hp, hq, e])
                    have ea : (t.slp k).a.toNat = p := by omega
                    have eb : (t.slp k).b.toNat = q := by omega
                    obtain ⟨lo, hlo⟩ : ∃ lo, (t.slp k).low = lo := ⟨_, rfl⟩
                    obtain ⟨hi, hhi⟩ : ∃ hi, (t.slp k).high = hi := ⟨_, rfl⟩
                    obtain ⟨x, hx⟩ : ∃ x, (l' p).1 = x := ⟨_, rfl⟩
                    obtain ⟨y, hy⟩ : ∃ y, (l' p).2 = y := ⟨_, rfl⟩
                    obtain ⟨u, hu⟩ : ∃ u, (l' q).1 = u := ⟨_, rfl⟩
                    obtain ⟨v, hv⟩ : ∃ v, (l' q).2 = v := ⟨_, rfl⟩
                    obtain ⟨x2, hx2⟩ : ∃ x2, (cutS (u, v) (x + lo, y + hi)).1 = x2 := ⟨_, rfl⟩
                    obtain ⟨y2, hy2⟩ : ∃ y2, (cutS (u, v) (x + lo, y + hi)).2 = y2 := ⟨_, rfl⟩
                    obtain ⟨x3, hx3⟩ : ∃ x3, (cutS (x, y) (u - hi, v - lo)).1 = x3 := ⟨_, rfl⟩
                    obtain ⟨y3, hy3⟩ : ∃ y3, (cutS (x, y) (u - hi, v - lo)).2 = y3 := ⟨_, rfl⟩
                    have eB : stepB (t.slp k) l' = (x2, y2) := by
                      unfold stepB
                      rw [ea, eb, hlo, hhi, ← hx2, ← hy2, ← hx, ← hy, ← hu, ← hv]
                    have eA : stepA (t.slp k) l' = (x3, y3) := by
                      unfold stepA
                      rw [ea, eb, hlo, hhi, ← hx3, ← hy3, ← hx, ← hy, ← hu, ← hv]
                    have HSTEP := Lib.hid (show stepS (t.slp k) l' = setS (setS l' q (x2, y2)) p (x3, y3) by
                      unfold stepS
                      rw [eA, eB, ea, eb])
                    have HTURN := Lib.hid (show turnS (t.slp k) l' = (diffS x3 y3 x y || diffS x2 y2 u v) by
                      unfold turnS diffS
                      rw [eA, eB, ea, eb, show l' p = (x, y) from Prod.ext hx hy, show l' q = (u, v) from Prod.ext hu hv]
                      simp)
                    have HCB := Lib.hid (fun w => hx2 ▸ hy2 ▸ cut_any u v (x + lo) (y + hi) w : ∀ w : World, Calls Tryd.prog 42 #[.agg #[.int .i64 u, .int .i64 v], .agg #[.int .i64 (x + lo), .int .i64 (y + hi)]] w fun e w' => e = .returned (.agg #[.int .i64 x2, .int .i64 y2]) ∧ Below w.heap.size w w')
                    have HCA := Lib.hid (fun w => hx3 ▸ hy3 ▸ cut_any x y (u - hi) (v - lo) w : ∀ w : World, Calls Tryd.prog 42 #[.agg #[.int .i64 x, .int .i64 y], .agg #[.int .i64 (u - hi), .int .i64 (v - lo)]] w fun e w' => e = .returned (.agg #[.int .i64 x3, .int .i64 y3]) ∧ Below w.heap.size w w')
                    obtain ⟨r0, r1, r2, r3⟩ := HR.out.bd p hpn
                    obtain ⟨r4, r5, r6, r7⟩ := HR.out.bd q hqn
                    obtain ⟨d0, d1⟩ := HS11.out.cell p hpn
                    obtain ⟨d2, d3⟩ := HS11.out.cell q hqn
                    have s0 := hs.l0
                    have s1 := hs.l1
                    have s2 := hs.h1
                    rw [hlo] at c2 s0 s1
                    rw [hhi] at c3 s1 s2
                    rw [hx] at d0 r0 r1
                    rw [hy] at d1 r2 r3
                    rw [hu] at d2 r4 r5
                    rw [hv] at d3 r6 r7
                    have HRO := Lib.hid (show SpRound t n l (k + 1) (ch || (diffS x3 y3 x y || diffS x2 y2 u v)) (setS (setS l' q (x2, y2)) p (x3, y3)) by
                      rw [← HSTEP.out, ← HTURN.out]
                      exact hro)
                    have HPN := Lib.hid hpn
                    have HQN := Lib.hid hqn
                    have HPQ := Lib.hid hpq
                    have e1 : IntKind.i64.wrap (x + lo) = x + lo := IntWalk.i64_in _ (by omega)
                    have e2 : IntKind.i64.wrap (y + hi) = y + hi := IntWalk.i64_in _ (by omega)
                    have e3 : IntKind.i64.wrap (u - hi) = u - hi := IntWalk.i64_in _ (by omega)
                    have e4 : IntKind.i64.wrap (v - lo) = v - lo := IntWalk.i64_in _ (by omega)
                    have p1 : (p : Int) < (n : Int) := by omega
                    have p0 : (0 : Int) ≤ (p : Int) := by omega
                    have q1 : (q : Int) < (n : Int) := by omega
                    have q0 : (0 : Int) ≤ (q : Int) := by omega
                    clear hx hy hu hv hx2 hy2 hx3 hy3 eA eB ea eb hlo hhi hp hq hs hro hpn hqn hpq
                    have cT : wr.cell? ⟨w.heap.size, 2, none⟩ = some (.slice (some ⟨b, o, none⟩) t.nl cl) := (bc11 _ _ (by simp)).trans (by simp [go_sem])
                    clear bc11 bf11
                    refine Code.wp_mono (fun e a w' h => onlyN_of h) (spans_round b o cl n k p q t.nl ch lo hi x y u v x2 y2 x3 y3 l' w wr _ _ _ _ _ _ _ _ _ _ _ _ _ _ _ _ _ _ _ _ _ _ _ _ _ _ _ _ _ _ _ _ _ _ _ _ _ _ _ _ _ _ _ _ _ _ _ _ _ _ _ _ _ _ _ _ _ _ _ _ _ _ _ _ _ _ _ _ _ _ _ _ _ _ _ _ _ _ _ _ _ _ _ _ _ _ _ _ _ _ _ _ _ _ _ _ _ _ _ _ _ _ _ _ _ _ _ _ _ _ _ _ _ _ _ _ _ _ _ _ _ _ _ _ _ _ _ _ _ _ _ _ _ _ _ _ _ _ _ _ _ _ _ _ _ hn6 nl8 cT hy11 hx11 hb k1 c0 c1 c2 c3 d0 d1 d2 d3 HCB HCA HS11 HPN HQN HPQ p1 p0 q1 q0 e1 e2 e3 e4 ?_)
                    intro z11 z12 z13 z72 z73 z74 z75 z76 z77 z78 z79 z80 z81 z82 z83 z84 z85 z86 z87 z88 z89 z90 z91 z92 z93 z94 z95 z96 z97 z98 z99 z100 z101 z102 z103 z104 z105 z106 z107 z108 z109 z110 z111 z112 z113 z114 z115 z116 z117 z118 z119 z120 z121 z122 z123 z124 z125 z126 z127 z128 z129 z130 z131 z132 z133 z134 z135 z136 z137 z138 z139 z140 z141 z142 z143 z144 z145 z146 ch' hch w' hS hB
                    subst hch
                    have HS12 := Lib.hid hS
                    have HL12 := Lib.hid (show Below _ _ w' from HL11.out.trans (by simpa using hB))
                    clear hS hB cT c0 c1 c2 c3 d0 d1 d2 d3 e1 e2 e3 e4
                    go_roundw
                    case rel =>
                      first
                      | exact ⟨k + 1, _, _, rfl, by go_num, by omega, HRO.out, HS12.out, HL12.out⟩
                      | ((repeat apply Exists.intro)
                         refine ⟨⟨k + 1, _, _, rfl, ?_, by omega, HRO.out, HS12.out, HL12.out⟩, rfl⟩
                         go_num)
                    case measure => simp [intOf]; omega
                  · obtain rfl : k = t.nl := by omega
                    have HHD2 := Lib.hid (HR.out.head HH.out nl8 HLE.out)
                    have HM2 := Lib.hid (show spMeas n (w.heap.size + 1) (.bool ch) wr < (widthS l n + 1).toNat + 1 by
                      cases ch
                      · exact Nat.succ_pos _
                      · rw [spMeas_true HS11.out]
                        have h1 := HR.out.turn rfl
                        have h2 := widthS_nonneg n HLE.out
                        omega)
                    go_wp2_with fail
                    clear bc11 bf11
                    go_roundw
                    case rel => exact ⟨_, _, rfl, HHD2.out, HS11.out, HL11.out⟩
                    case measure => rw [HME.out]; exact HM2.out
end Go.Proofs.YtdboicnlkbnbnaaDoor
