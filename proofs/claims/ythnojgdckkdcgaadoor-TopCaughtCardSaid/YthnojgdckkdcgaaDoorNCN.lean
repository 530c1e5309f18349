/- Parts joined: what all claims of this seat need. -/
import Derived.Test.YthnojgdckkdcgaaDoorNCM
import Derived.Test.YthnojgdckkdcgaaDoorNCI
import Derived.Test.YthnojgdckkdcgaaDoorNCL
import Derived.Test.YthnojgdckkdcgaaDoorNCJ
set_option linter.unusedSimpArgs false
set_option linter.unusedVariables false
namespace Go.Proofs.YthnojgdckkdcgaaDoor
open Go.RowKit Go.Sort
theorem intL_eqv {f g : Nat → Int} {n : Nat} (he : ∀ j, j < n → f j = g j) : intL f n = intL g n := by
  refine List.ext_getElem? fun i => ?_
  rcases Nat.lt_or_ge i n with h | h
  · rw [intL_get f h, intL_get g h, he i h]
  · rw [List.getElem?_eq_none (by rw [intL_len]; exact h), List.getElem?_eq_none (by rw [intL_len]; exact h)]
theorem intL_put {f g : Nat → Int} {n k : Nat} {v : Int} (hv : g k = v) (he : ∀ j, j ≠ k → g j = f j) : (intL f n).set k (.int .i64 v) = intL g n := by
  refine List.ext_getElem? fun i => ?_
  rw [List.getElem?_set, intL_len]
  rcases Nat.lt_or_ge i n with h | h
  · by_cases e : k = i
    · subst e
      rw [if_pos rfl, if_pos h, intL_get g h, hv]
    · rw [if_neg e, intL_get f h, intL_get g h, he i fun h => e h.symm]
  · have h1 : (intL f n)[i]? = none := List.getElem?_eq_none (by rw [intL_len]; exact h)
    have h2 : (intL g n)[i]? = none := List.getElem?_eq_none (by rw [intL_len]; exact h)
    rw [h1, h2]
    split
    · rw [if_neg (by omega)]
    · rfl
/-- the first j numbers of a row, and 0 behind -/
def upF (f : Nat → Int) (j : Nat) : Nat → Int := fun i => if i < j then f i else 0
theorem upF_hit {f : Nat → Int} {j : Nat} {v : Int} (h : f j = v) (n : Nat) : (intL (upF f j) n).set j (.int .i64 v) = intL (upF f (j + 1)) n :=
  intL_put (by unfold upF; rw [if_pos (Nat.lt_succ_self j)]; exact h) fun i hi => by
    unfold upF
    by_cases h2 : i < j
    · rw [if_pos h2, if_pos (by omega)]
    · rw [if_neg h2, if_neg (by omega)]
theorem upF_miss {f : Nat → Int} {j : Nat} (h : f j = 0) (n : Nat) : intL (upF f j) n = intL (upF f (j + 1)) n := intL_eqv fun i _ => by
  unfold upF
  rcases Nat.lt_trichotomy i j with h2 | h2 | h2
  · rw [if_pos h2, if_pos (by omega)]
  · subst h2; rw [if_neg (Nat.lt_irrefl i), if_pos (by omega), h]
  · rw [if_neg (by omega), if_neg (by omega)]
theorem upF_all (f : Nat → Int) (n : Nat) : intL (upF f n) n = intL f n := intL_eqv fun _ h => if_pos h
theorem made4 (f : Nat → Int) : (madeCells (Value.int .i64 0).cells (4 * 1)).toList = intL (upF f 0) 4 := by
  have e : intL (upF f 0) 4 = intL (fun _ => 0) 4 := intL_eqv fun j _ => rfl
  rw [e]
  simp [madeCells, intL, Value.cells]
  rfl
theorem owns_int {w : World} {base g n c : Nat} {f : Nat → Int} (h : w.ownsRow base 3 1 (.slice (some ⟨g, 0, none⟩) n c) n (intL f n)) {k : Nat} (hk : k < n) : ∃ cur, TBox w g 3 cur ∧ w.cell? ⟨g, k, none⟩ = some (.int .i64 (f k)) := by
  obtain ⟨hb, cur, htb, e⟩ := owns_box h
  refine ⟨cur, htb, (htb.cell k).trans ?_⟩
  have h2 := intL_get f hk
  rw [← e, List.getElem?_take, if_pos (by omega), Array.getElem?_toList] at h2
  exact h2
theorem cell_new {w : World} {u : Value} {T : TypeId} : ∀ j v, [u][j]? = some v → (w.alloc (.cells #[u] T)).cell? ((⟨w.heap.size, 0, none⟩ : Addr).add j) = some v := by
  intro j v hj
  have hc := cell_of_row (w.alloc (.cells #[u] T)) w.heap.size j _ _ _ (show (w.alloc (.cells #[u] T)).heap[w.heap.size]? = some (Obj.cells #[u] T (0, 0)) from heap_alloc_new _ _)
  rw [show (⟨w.heap.size, 0, none⟩ : Addr).add j = ⟨w.heap.size, j, none⟩ from by unfold Addr.add; split <;> simp_all, hc]
  simpa using hj
def ThOut (w : World) (m : Nat) (e : Ending) : Prop := ∃ A c, e = .returned (.agg #[.int .i64 4, .slice A m c, .slice none 0 0]) ∧ QAt w A none (thT m)
set_option maxHeartbeats 8000000 in
set_option maxRecDepth 100000 in
theorem thieves_any (m : Nat) (w : World) (h6 : m ≤ 6) :
    Calls Tryd.prog 9 #[.int .i64 (m : Int)] w fun e w' => ThOut w' m e ∧ Below w.heap.size w w' := by
  have HBR := Lib.hid (bAlloc (Below.refl w.heap.size w) (.cells #[.int .i64 0, .slice none 0 0, .slice none 0 0] 39))
  have HTR := Lib.hid (TBox.new w #[.int .i64 0, .slice none 0 0, .slice none 0 0] 39)
  obtain ⟨r0, hr, rz0, rz1, rz2⟩ := info_parts infoRow
  obtain ⟨d0, hd, dz0, dz1, dz2⟩ := info_parts infoWorld
  go_enter Tryd.func9, Tryd.ntmps9
  go_wp2_with fail
  go_loopw [4] (fun s wr => ∃ (k : Nat) (V : Value) (us : List Value), k ≤ m ∧ s = .int .i64 (k : Int) ∧ TBox wr (w.heap.size + 1) 39 #[.int .i64 4, V, .slice none 0 0] ∧ wr.ownsRow (w.heap.size + 2) 60 1 V k us ∧ WsRows wr (thW m) k us ∧ Below (w.alloc (.cells #[.int .i64 0, .slice none 0 0, .slice none 0 0] 39)).heap.size (w.alloc (.cells #[.int .i64 0, .slice none 0 0, .slice none 0 0] 39)) wr) (fun s _ => m - (intOf s).toNat)
  case atStart => exact ⟨0, .slice none 0 0, [], Nat.zero_le _, rfl, by have := TBox.new (w.alloc (.cells #[.int .i64 0, .slice none 0 0, .slice none 0 0] 39)) #[.int .i64 4, .slice none 0 0, .slice none 0 0] 39; simpa using this, World.ownsRow_nil _ _ _ _, ⟨rfl, fun j u h => by simp at h⟩, bAlloc (Below.refl _ _) _⟩
  case round =>
    obtain ⟨k, V, us, hk, rfl, hbx, hown, hrows, hbel⟩ := hrel
    have HX := Lib.hid hbx
    have HO := Lib.hid hown
    have HR := Lib.hid hrows
    have HL := Lib.hid hbel
    have k0 : (0 : Int) ≤ (k : Int) := by omega
    have hsz : w.heap.size + 2 ≤ wr.heap.size := hbx.lt
    clear hbx hown hrows hbel
    by_cases hlt : k < m
    · have q1 : (k : Int) < (m : Int) := by omega
      go_wp2_with fail
      obtain ⟨wk, hwk⟩ : ∃ y, y = wr := ⟨_, rfl⟩
      subst hwk
      go_loopw [6] (fun s wr => ∃ (q : Nat) (U : Value) (vs : List Value), q ≤ 4 ∧ s = .int .i64 (q : Int) ∧ TBox wr wk.heap.size 60 #[U] ∧ wr.ownsRow (wk.heap.size + 1) 23 1 U q vs ∧ WdRows wr (thW m k) q vs ∧ Below wk.heap.size wk wr) (fun s _ => 4 - (intOf s).toNat)
      case atStart => exact ⟨0, .slice none 0 0, [], Nat.zero_le _, rfl, TBox.new _ _ _, World.ownsRow_nil _ _ _ _, ⟨rfl, fun j u h => by simp at h⟩, bAlloc (Below.refl _ _) _⟩
      case round =>
        obtain ⟨q, U, vs, hq, rfl, hbw, hown, hrows, hbel⟩ := hrel
        have HW := Lib.hid hbw
        have HOW := Lib.hid hown
        have HRW := Lib.hid hrows
        have HLW := Lib.hid hbel
        have q0 : (0 : Int) ≤ (q : Int) := by omega
        have hszw : wk.heap.size + 1 ≤ wr.heap.size := hbw.lt
        clear hbw hown hrows hbel
        by_cases hltq : q < 4
        · have q2 : (q : Int) < 4 := by omega
          obtain ⟨i0, hi, iz0, iz1, iz2⟩ := info_parts infoInt
          go_wp2_with (at_make; refine wpList_make_full _ rfl _ _ 23 rfl wr.heap.size 3 i0 (.int .i64 0) 1 Tryd.underlying23 hi iz0 iz1 .i64 .i64 _ _ 4 rfl rfl rfl rfl (by rw [iz2]; decide) (by unfold maxLen; omega) (Nat.le_refl _) ?_)
          intro w5 hown5 hgrow5
          have HO5 := Lib.hid (show w5.ownsRow wr.heap.size 3 1 (.slice (some ⟨wr.heap.size, 0, none⟩) 4 4) 4 (intL (upF ((thW m k).fall q) 0) 4) from by have h := made4 ((thW m k).fall q); rw [← h]; exact hown5)
          have HL5 := Lib.hid (below_grownBy hgrow5 (Nat.le_refl wr.heap.size) (fun _ e => nomatch e))
          clear hown5 hgrow5
          obtain ⟨wq, hwq⟩ : ∃ y, y = wr := ⟨_, rfl⟩
          subst hwq
          go_wp2_with fail
          go_loopw [8] (fun s wr => ∃ j : Nat, j ≤ 4 ∧ s = .int .i64 (j : Int) ∧ wr.ownsRow wq.heap.size 3 1 (.slice (some ⟨wq.heap.size, 0, none⟩) 4 4) 4 (intL (upF ((thW m k).fall q) j) 4) ∧ Below wq.heap.size wq wr) (fun s _ => 4 - (intOf s).toNat)
          case atStart => exact ⟨0, Nat.zero_le _, rfl, HO5.out, HL5.out⟩
          case round =>
            obtain ⟨j, hj, rfl, hown, hb⟩ := hrel
            have HOJ := Lib.hid hown
            have HLJ := Lib.hid hb
            have j0 : (0 : Int) ≤ (j : Int) := by omega
            clear hown hb
            by_cases hltj : j < 4
            · have j2 : (j : Int) < 4 := by omega
              obtain ⟨a, ha⟩ : ∃ a, 4 * q = a := ⟨_, rfl⟩
              obtain ⟨b, hb⟩ : ∃ b, a + j = b := ⟨_, rfl⟩
              obtain ⟨p, hp⟩ : ∃ p, b + 1 = p := ⟨_, rfl⟩
              have e1 : IntKind.i64.wrap (4 * (q : Int)) = (a : Int) := by rw [← ha]; push_cast; exact IntWalk.i64_in _ (by omega)
              have e2 : IntKind.i64.wrap ((a : Int) + (j : Int)) = (b : Int) := by rw [← hb]; push_cast; exact IntWalk.i64_in _ (by omega)
              have e3 : IntKind.i64.wrap ((b : Int) + 1) = (p : Int) := by rw [← hp]; push_cast; exact IntWalk.i64_in _ (by omega)
              have hpe : 4 * q + j + 1 = p := by omega
              have HPE := Lib.hid hpe
              obtain ⟨cur, htb, hc5⟩ := owns_int HOJ.out hltj
              have hf5 := htb.frozen j
              have hl5 := htb.lt
              clear ha hb hp hpe htb
              by_cases h1 : p < m
              · have g1 : (p : Int) < (m : Int) := by omega
                by_cases h2 : k < p
                · have g2 : (k : Int) < (p : Int) := by omega
                  have HV := Lib.hid (show (thW m k).fall q j = 1 by unfold thW; show (if 4 * q + j + 1 < m ∧ k < 4 * q + j + 1 then (1 : Int) else 0) = 1; rw [HPE.out]; exact if_pos ⟨h1, h2⟩)
                  go_wp2_with fail
                  go_roundw
                  case rel =>
                    refine ⟨j + 1, by omega, by go_num, ?_, Below.setCell (p := ⟨wq.heap.size, j, none⟩) HLJ.out (Nat.le_refl _) _⟩
                    have h := owns_put HOJ.out j (.int .i64 1)
                    rw [upF_hit HV.out] at h
                    exact h
                  case measure => simp [intOf]; omega
                · have g2 : ¬ (k : Int) < (p : Int) := by omega
                  have g3 : decide ((k : Int) < (p : Int)) = false := by simp; omega
                  have g4 : decide (k < p) = false := by simp; omega
                  have HV := Lib.hid (show (thW m k).fall q j = 0 by unfold thW; show (if 4 * q + j + 1 < m ∧ k < 4 * q + j + 1 then (1 : Int) else 0) = 0; rw [HPE.out]; exact if_neg fun h => h2 h.2)
                  go_wp2_with fail
                  go_roundw
                  case rel => exact ⟨j + 1, by omega, by go_num, by rw [← upF_miss HV.out]; exact HOJ.out, HLJ.out⟩
                  case measure => simp [intOf]; omega
              · have g1 : ¬ (p : Int) < (m : Int) := by omega
                have g3 : decide ((p : Int) < (m : Int)) = false := by simp; omega
                have g4 : decide (p < m) = false := by simp; omega
                have HV := Lib.hid (show (thW m k).fall q j = 0 by unfold thW; show (if 4 * q + j + 1 < m ∧ k < 4 * q + j + 1 then (1 : Int) else 0) = 0; rw [HPE.out]; exact if_neg fun h => h1 h.1)
                go_wp2_with fail
                go_roundw
                case rel => exact ⟨j + 1, by omega, by go_num, by rw [← upF_miss HV.out]; exact HOJ.out, HLJ.out⟩
                case measure => simp [intOf]; omega
            · obtain rfl : j = 4 := by omega
              have HFA := Lib.hid (show RowK wr (some ⟨wq.heap.size, 0, none⟩) 3 (intL ((thW m k).fall q) 4) from by
                have h := HOJ.out
                rw [upF_all] at h
                obtain ⟨A, c, e, h2⟩ := RowK.own h
                injection e with e _ _
                subst e
                exact h2)
              have HWJ := Lib.hid (HW.out.mono HLJ.out)
              have HOWJ := Lib.hid (owns_below HOW.out HLJ.out)
              have HRWJ := Lib.hid (HRW.out.kept (Kept.of_below (l := [3]) HLJ.out) (by simp))
              have hbw0 : wr.cell? ⟨wk.heap.size, 0, none⟩ = some U := HWJ.out.cell 0
              have hbwf := HWJ.out.frozen 0
              have hbwl := HWJ.out.lt
              have HOA := Lib.hid (HOWJ.out.alloc (.cells #[.slice (some ⟨wq.heap.size, 0, none⟩) 4 4] 23))
              go_wp2_with (at_builtin; refine wpList_append_own _ rfl (Operand.tmp 42) (Operand.tmp 44) 58 rfl (wk.heap.size + 1) 23 r0 (.slice none 0 0) 1 24 Tryd.underlying58 hr rz0 rz1 rz2 rfl (by decide) U q vs rfl HOA.out ⟨wr.heap.size, 0, none⟩ 1 1 [.slice (some ⟨wq.heap.size, 0, none⟩) 4 4] rfl rfl cell_new ?c2 ?c3 ?c5 ?c4 ?_)
              case c2 => exact one1c rfl
              case c3 => unfold maxLen; omega
              case c5 => omega
              case c4 => simp <;> omega
              intro v' w7 hown7 hg7 _
              obtain ⟨A9, c9, rfl, _⟩ := RowK.own hown7
              have hne7 : some wk.heap.size ≠ U.ownBlock := fun e => by have := HOWJ.out.lt _ e.symm; omega
              have HW7 := Lib.hid ((HWJ.out.mono (bAlloc (Below.refl _ _) (.cells #[.slice (some ⟨wq.heap.size, 0, none⟩) 4 4] 23))).grown hg7 hne7)
              have hk7 : Kept [3] wr w7 := (Kept.of_below (bAlloc (Below.refl _ _) (.cells #[.slice (some ⟨wq.heap.size, 0, none⟩) 4 4] 23))).trans (Kept.of_own hg7 HOA.out (by decide))
              have HF7 := Lib.hid (HFA.out.kept hk7 (by simp))
              have HR7 := Lib.hid (HRWJ.out.kept hk7 (by simp))
              have HO7 := Lib.hid hown7
              have hb7 : Below wk.heap.size wk w7 := (bTrans (bTrans HLW.out HLJ.out) (bAlloc (Below.refl _ _) (.cells #[.slice (some ⟨wq.heap.size, 0, none⟩) 4 4] 23))).grown hg7 (by have := HLJ.out.size; simp <;> omega) (fun b hb => by have := (HOA.out.lt b hb).1; omega)
              have HL7 := Lib.hid hb7
              have c7 : w7.cell? ⟨wk.heap.size, 0, none⟩ = some U := HW7.out.cell 0
              have f7 := HW7.out.frozen 0
              have l7 := HW7.out.lt
              clear hown7 hg7 hne7 hk7 hb7 hbw0 hbwf hbwl
              go_wp2_with fail
              go_roundw
              case rel =>
                have hk8 : Kept [3] w7 (w7.setCell ⟨wk.heap.size, 0, none⟩ (.slice A9 (q + 1) c9)) := Kept.set HW7.out (by decide) 0 _
                refine ⟨q + 1, .slice A9 (q + 1) c9, vs ++ [.slice (some ⟨wq.heap.size, 0, none⟩) 4 4], by omega, by go_num, HW7.out.set 0 (.slice A9 (q + 1) c9), owns_set HO7.out (by omega) 0 (.slice A9 (q + 1) c9), ?_, Below.setCell (p := ⟨wk.heap.size, 0, none⟩) HL7.out (Nat.le_refl _) (.slice A9 (q + 1) c9)⟩
                exact (HR7.out.kept hk8 (by simp)).snoc (HF7.out.kept hk8 (by simp)) (by show (4 : Nat) ≤ _; decide)
              case measure => simp [intOf]; omega
        · obtain rfl : q = 4 := by omega
          obtain ⟨A6, c6, rfl, hrw6⟩ := RowK.own HOW.out
          have HWK := Lib.hid (show WdK wr (.slice A6 4 c6) (thW m k) from ⟨A6, c6, vs, rfl, hrw6, HRW.out⟩)
          have HXJ := Lib.hid (HX.out.mono HLW.out)
          have HOXJ := Lib.hid (owns_below HO.out HLW.out)
          have HRXJ := Lib.hid (HR.out.mono HLW.out)
          have cx := HXJ.out.cell 1
          have fx := HXJ.out.frozen 1
          have lx := HXJ.out.lt
          have cw : wr.cell? ⟨wk.heap.size, 0, none⟩ = some (.slice A6 4 c6) := HW.out.cell 0
          have hszr := HLW.out.size
          have HOA := Lib.hid (HOXJ.out.alloc (.cells #[.slice A6 4 c6] 60))
          clear hrw6
          have cx1 : wr.cell? ⟨w.heap.size + 1, 1, none⟩ = some V := cx
          clear cx
          go_wp2_with (at_builtin; refine wpList_append_own _ rfl (Operand.tmp 48) (Operand.tmp 50) 36 rfl (w.heap.size + 2) 60 d0 (.agg #[.slice none 0 0]) 1 24 Tryd.underlying36 hd dz0 dz1 dz2 rfl (by decide) V k us rfl HOA.out ⟨wr.heap.size, 0, none⟩ 1 1 [.slice A6 4 c6] rfl rfl cell_new ?c2 ?c3 ?c5 ?c4 ?_)
          case c2 => exact one1c rfl
          case c3 => unfold maxLen; omega
          case c5 => omega
          case c4 => simp <;> omega
          intro v' w7 hown7 hg7 _
          obtain ⟨A9, c9, rfl, _⟩ := RowK.own hown7
          have hne7 : some (w.heap.size + 1) ≠ V.ownBlock := fun e => by have := HOXJ.out.lt _ e.symm; omega
          have HX7 := Lib.hid ((HXJ.out.mono (bAlloc (Below.refl _ _) (.cells #[.slice A6 4 c6] 60))).grown hg7 hne7)
          have hk7 : Kept [3, 23] wr w7 := (Kept.of_below (bAlloc (Below.refl _ _) (.cells #[.slice A6 4 c6] 60))).trans (Kept.of_own hg7 HOA.out (by decide))
          have HK7 := Lib.hid (HWK.out.kept hk7 (by simp) (by simp))
          have HR7 := Lib.hid (HRXJ.out.kept hk7 (by simp) (by simp))
          have HO7 := Lib.hid hown7
          have hb7 : Below (w.alloc (.cells #[.int .i64 0, .slice none 0 0, .slice none 0 0] 39)).heap.size (w.alloc (.cells #[.int .i64 0, .slice none 0 0, .slice none 0 0] 39)) w7 := (bTrans (bTrans HL.out HLW.out) (bAlloc (Below.refl _ _) (.cells #[.slice A6 4 c6] 60))).grown hg7 (by simp <;> omega) (fun b hb => by have := (HOA.out.lt b hb).1; simp <;> omega)
          have HL7 := Lib.hid hb7
          have c7 : w7.cell? ⟨w.heap.size + 1, 1, none⟩ = some V := HX7.out.cell 1
          have f7 := HX7.out.frozen 1
          have l7 := HX7.out.lt
          clear hown7 hg7 hne7 hk7 hb7 cx1 fx lx cw
          go_wp2_with fail
          go_roundw
          case rel =>
            have hk8 : Kept [3, 23] w7 (w7.setCell ⟨w.heap.size + 1, 1, none⟩ (.slice A9 (k + 1) c9)) := Kept.set HX7.out (by decide) 1 _
            refine ⟨k + 1, .slice A9 (k + 1) c9, us ++ [.slice A6 4 c6], by omega, by go_num, HX7.out.set 1 (.slice A9 (k + 1) c9), owns_set HO7.out (by omega) 1 (.slice A9 (k + 1) c9), ?_, Below.setCell (p := ⟨w.heap.size + 1, 1, none⟩) HL7.out (by simp) (.slice A9 (k + 1) c9)⟩
            exact (HR7.out.kept hk8 (by simp) (by simp)).snoc (HK7.out.kept hk8 (by simp) (by simp)) (by show (4 : Nat) ≤ _; decide)
          case measure => simp [intOf]; omega
    · obtain rfl : k = m := by omega
      obtain ⟨A6, c6, rfl, hrw6⟩ := RowK.own HO.out
      have HCA := Lib.hid (show CopyAt wr (w.heap.size + 2) (.slice A6 k c6) (.slice none 0 0) (thT k) from ⟨⟨us, HO.out, HR.out⟩, World.ownsRow_nil _ _ _ _⟩)
      have hTR := (HTR.out.mono (show Below _ _ wr from HL.out))
      have HTR9 := Lib.hid (show TBox wr w.heap.size 39 #[.int .i64 0, .slice none 0 0, .slice none 0 0] from hTR)
      obtain ⟨s0, s1, s2, sl⟩ := TBox.c3 HTR9.out
      have t0 := TBox.frozen HTR9.out 0
      have t1 := TBox.frozen HTR9.out 1
      have t2 := TBox.frozen HTR9.out 2
      obtain ⟨x0, x1, x2, xl⟩ := TBox.c3 HX.out
      clear hTR hrw6
      go_wp2_with fail
      have hT0 := HTR9.out.set 0 (.int .i64 4)
      have hT1 := hT0.set 1 (.slice A6 k c6)
      have hk9 : Kept [3, 23, 60, 63] wr (((wr.setCell ⟨w.heap.size, 0, none⟩ (.int .i64 4)).setCell ⟨w.heap.size, 1, none⟩ (.slice A6 k c6)).setCell ⟨w.heap.size, 2, none⟩ (.slice none 0 0)) := ((Kept.set HTR9.out (by decide) 0 _).trans (Kept.set hT0 (by decide) 1 _)).trans (Kept.set hT1 (by decide) 2 _)
      refine bodyPost_ret (v := .agg #[.int .i64 4, .slice A6 k c6, .slice none 0 0]) (by simp [results, Tryd.results9, go_sem, *]) rfl ⟨⟨A6, c6, rfl, ?_⟩, ?_⟩
      · have h := HCA.out.kept hk9 (by simp) (by simp) (by simp) (by simp)
        obtain ⟨Aw, cw, Af, cf, e1, e2, hq⟩ := h.qat
        injection e1 with e1 _ _
        injection e2 with e2 _ _
        subst e1 e2
        exact hq
      · exact Below.setCell (p := ⟨w.heap.size, 2, none⟩) (Below.setCell (p := ⟨w.heap.size, 1, none⟩) (Below.setCell (p := ⟨w.heap.size, 0, none⟩) (bTrans HBR.out HL.out) (Nat.le_refl _) _) (Nat.le_refl _) _) (Nat.le_refl _) _
end Go.Proofs.YthnojgdckkdcgaaDoor

namespace Go.Proofs.YthnojgdckkdcgaaDoor
open Go.RowKit Go.Sort
def ex6 : Dk := ⟨5, fun i => ([⟨20, 22, 0⟩, ⟨15, 25, 3⟩, ⟨18, 19, 1⟩, ⟨10, 19, 4⟩, ⟨9, 12, 0⟩] : List Pnt)[i]?.getD ⟨0, 0, 0⟩, 4, fun i => ([1, 1, 2, 4] : List Int)[i]?.getD 0⟩
theorem ex6_ok : ex6.Ok := ⟨by decide, rfl, fun i hi => by
  have h : i < 4 := hi
  match i, h with
  | 0, _ => decide
  | 1, _ => decide
  | 2, _ => decide
  | 3, _ => decide
  | n + 4, h => omega, fun i hi => by
  have h : i < 5 := hi
  match i, h with
  | 0, _ => decide
  | 1, _ => decide
  | 2, _ => decide
  | 3, _ => decide
  | 4, _ => decide
  | n + 5, h => omega⟩
theorem ex6_worst : (tabAll ex6.cost ex6.no 0 4).1 = 5 := by decide +kernel
def Ex6 (w : World) (e : Ending) : Prop := ∃ b1 b2, e = .returned (.agg #[.slice (some ⟨b1, 0, none⟩) 5 5, .slice (some ⟨b2, 0, none⟩) 4 4]) ∧ DAt w (some ⟨b1, 0, none⟩) (some ⟨b2, 0, none⟩) ex6
theorem exG_small6 : exG.Small := exG_fits.small
theorem exG_depthOut : exG.depthOut = 1 := by
  unfold Qt.depthOut
  rw [exG_know, if_pos rfl]
  exact ex_depth
set_option maxHeartbeats 4000000 in
set_option maxRecDepth 100000 in
theorem point6_any (a b c : Int) (w : World) :
    Calls Tryd.prog 38 #[.int .i64 a, .int .i64 b, .int .i64 c] w fun e w' => e = .returned (.agg #[.int .i64 a, .int .i64 b, .int .i64 c]) ∧ Below w.heap.size w w' := by
  have HD0 := Lib.hid (Below.refl w.heap.size w)
  go_enter Tryd.func38, Tryd.ntmps38
  go_wp2_with fail
  refine bodyPost_ret (v := .agg #[.int .i64 a, .int .i64 b, .int .i64 c]) (by simp [results, Tryd.results38, go_sem, *]) rfl ⟨rfl, bAlloc (Below.refl _ _) _⟩
set_option maxHeartbeats 8000000 in
set_option maxRecDepth 100000 in
theorem example6_any  (w : World) :
    Calls Tryd.prog 20 #[] w fun e w' => Ex6 w' e ∧ Below w.heap.size w w' := by
  have HD0 := Lib.hid (Below.refl w.heap.size w)
  go_enter Tryd.func20, Tryd.ntmps20
  go_wp2_with fail
  refine (point6_any 20 22 0 _).mono ?_
  rintro e w1 ⟨rfl, hb⟩
  have hB1 : Below w.heap.size w w1 := bTrans (bAlloc (Below.refl _ _) (.cells #[.slice none 0 0, .slice none 0 0] 25)) hb
  have HD1 := Lib.hid (bTrans HD0.out hB1)
  have D1 := Lib.hid (show TBox w1 w.heap.size 25 #[.slice none 0 0, .slice none 0 0] from by have := ((TBox.new w #[.slice none 0 0, .slice none 0 0] 25).mono (Below.refl _ _)).mono hb; simpa using this)
  clear hb hB1 HD0
  obtain ⟨D_0, D_1, D_l⟩ := D1.out.c2
  go_wp2_with fail
  refine (point6_any 15 25 3 _).mono ?_
  rintro e w2 ⟨rfl, hb⟩
  have hB2 : Below w1.heap.size w1 w2 := bTrans (Below.refl _ _) hb
  have HD2 := Lib.hid (bTrans HD1.out hB2)
  have D2 := Lib.hid (D1.out.mono hB2)
  clear hb hB2 HD1 D1 D_0 D_1 D_l
  obtain ⟨D_0, D_1, D_l⟩ := D2.out.c2
  go_wp2_with fail
  refine (point6_any 18 19 1 _).mono ?_
  rintro e w3 ⟨rfl, hb⟩
  have hB3 : Below w2.heap.size w2 w3 := bTrans (Below.refl _ _) hb
  have HD3 := Lib.hid (bTrans HD2.out hB3)
  have D3 := Lib.hid (D2.out.mono hB3)
  clear hb hB3 HD2 D2 D_0 D_1 D_l
  obtain ⟨D_0, D_1, D_l⟩ := D3.out.c2
  go_wp2_with fail
  refine (point6_any 10 19 4 _).mono ?_
  rintro e w4 ⟨rfl, hb⟩
  have hB4 : Below w3.heap.size w3 w4 := bTrans (Below.refl _ _) hb
  have HD4 := Lib.hid (bTrans HD3.out hB4)
  have D4 := Lib.hid (D3.out.mono hB4)
  clear hb hB4 HD3 D3 D_0 D_1 D_l
  obtain ⟨D_0, D_1, D_l⟩ := D4.out.c2
  go_wp2_with fail
  refine (point6_any 9 12 0 _).mono ?_
  rintro e w5 ⟨rfl, hb⟩
  have hB5 : Below w4.heap.size w4 w5 := bTrans (Below.refl _ _) hb
  have HD5 := Lib.hid (bTrans HD4.out hB5)
  have D5 := Lib.hid (D4.out.mono hB5)
  clear hb hB5 HD4 D4 D_0 D_1 D_l
  obtain ⟨D_0, D_1, D_l⟩ := D5.out.c2
  have y0 := D5.out.frozen 0
  have y1 := D5.out.frozen 1
  go_wp2_with fail
  have hlw : w.heap.size < w5.heap.size := D_l
  refine bodyPost_ret (v := .agg #[.slice (some ⟨w5.heap.size, 0, none⟩) 5 5, .slice (some ⟨w5.heap.size + 1, 0, none⟩) 4 4]) (by simp [results, Tryd.results20, go_sem, *]) rfl ⟨⟨_, _, rfl, ⟨?_, ?_⟩⟩, ?_⟩
  · refine .inr ⟨_, 0, rfl, by simp <;> omega, fun i hi => ?_⟩
    have h : i < 5 := hi
    match i, h with
    | 0, _ => simp [go_sem, ex6]
    | 1, _ => simp [go_sem, ex6]
    | 2, _ => simp [go_sem, ex6]
    | 3, _ => simp [go_sem, ex6]
    | 4, _ => simp [go_sem, ex6]
    | n + 5, h => omega
  · refine .inr ⟨_, 0, rfl, by simp <;> omega, fun i hi => ?_⟩
    have h : i < 4 := hi
    match i, h with
    | 0, _ => simp [go_sem, ex6]
    | 1, _ => simp [go_sem, ex6]
    | 2, _ => simp [go_sem, ex6]
    | 3, _ => simp [go_sem, ex6]
    | n + 4, h => omega
  · exact bAlloc (bAlloc (Below.setCell (p := ⟨w.heap.size, 1, none⟩) (Below.setCell (p := ⟨w.heap.size, 0, none⟩) HD5.out (Nat.le_refl _) _) (Nat.le_refl _) _) _) _
set_option maxHeartbeats 8000000 in
set_option maxRecDepth 100000 in
theorem caught_any (w : World) (hB : TabAt w) : Calls Tryd.prog 7 #[] w fun e w' => e = .returned (.bool true) ∧ Below w.heap.size w w' := by
  have HD0 := Lib.hid (Below.refl w.heap.size w)
  have HTB0 := Lib.hid hB
  clear hB
  go_enter Tryd.func7, Tryd.ntmps7
  go_wp2_with fail
  refine (example5_any _).mono ?_
  rintro e w1 ⟨⟨Ew, ew, Ef, ef, Gw, gw, rfl, hE, hG⟩, hb⟩
  have hB1 : Below w.heap.size w w1 := bTrans (Below.refl _ _) hb
  have HD1 := Lib.hid (bTrans HD0.out hB1)
  have HTB1 := Lib.hid (HTB0.out.mono hB1)
  have HG1 := Lib.hid (hG)
  clear hb hB1 HD0 HTB0
  clear hE hG
  go_wp2_with fail
  refine ((by have := depthQ_any Gw none gw 0 exG ((w1.alloc (.cells #[.int .i64 2, .slice Ew 3 ew, .slice Ef 1 ef] 39)).alloc (.cells #[.int .i64 2, .slice Gw 3 gw, .slice none 0 0] 39)) exG_small6 (HG1.out.mono (bAlloc (bAlloc (Below.refl _ _) (.cells #[.int .i64 2, .slice Ew 3 ew, .slice Ef 1 ef] 39)) (.cells #[.int .i64 2, .slice Gw 3 gw, .slice none 0 0] 39))) (HTB1.out.mono (bAlloc (bAlloc (Below.refl _ _) (.cells #[.int .i64 2, .slice Ew 3 ew, .slice Ef 1 ef] 39)) (.cells #[.int .i64 2, .slice Gw 3 gw, .slice none 0 0] 39))); rw [exG_know, exG_depthOut] at this; exact this : Calls Tryd.prog 12 #[.agg #[.int .i64 2, .slice Gw 3 gw, .slice none 0 0]] ((w1.alloc (.cells #[.int .i64 2, .slice Ew 3 ew, .slice Ef 1 ef] 39)).alloc (.cells #[.int .i64 2, .slice Gw 3 gw, .slice none 0 0] 39)) fun e w' => e = .returned (.tuple #[.int .i64 1, .int .i64 0]) ∧ Below ((w1.alloc (.cells #[.int .i64 2, .slice Ew 3 ew, .slice Ef 1 ef] 39)).alloc (.cells #[.int .i64 2, .slice Gw 3 gw, .slice none 0 0] 39)).heap.size ((w1.alloc (.cells #[.int .i64 2, .slice Ew 3 ew, .slice Ef 1 ef] 39)).alloc (.cells #[.int .i64 2, .slice Gw 3 gw, .slice none 0 0] 39)) w')).mono ?_
  rintro e w2 ⟨rfl, hb⟩
  have hB2 : Below w1.heap.size w1 w2 := bTrans (bAlloc (bAlloc (Below.refl _ _) (.cells #[.int .i64 2, .slice Ew 3 ew, .slice Ef 1 ef] 39)) (.cells #[.int .i64 2, .slice Gw 3 gw, .slice none 0 0] 39)) hb
  have HD2 := Lib.hid (bTrans HD1.out hB2)
  have HTB2 := Lib.hid (HTB1.out.mono hB2)
  have HG2 := Lib.hid (HG1.out.mono hB2)
  have E2 := Lib.hid (show TBox w2 w1.heap.size 39 #[.int .i64 2, .slice Ew 3 ew, .slice Ef 1 ef] from by have := ((TBox.new w1 #[.int .i64 2, .slice Ew 3 ew, .slice Ef 1 ef] 39).mono (bAlloc (Below.refl _ _) (.cells #[.int .i64 2, .slice Gw 3 gw, .slice none 0 0] 39))).mono hb; simpa using this)
  have G2 := Lib.hid (show TBox w2 (w1.heap.size + 1) 39 #[.int .i64 2, .slice Gw 3 gw, .slice none 0 0] from by have := ((TBox.new (w1.alloc (.cells #[.int .i64 2, .slice Ew 3 ew, .slice Ef 1 ef] 39)) #[.int .i64 2, .slice Gw 3 gw, .slice none 0 0] 39).mono (Below.refl _ _)).mono hb; simpa using this)
  clear hb hB2 HD1 HTB1 HG1
  obtain ⟨E_0, E_1, E_2, E_l⟩ := E2.out.c3
  obtain ⟨G_0, G_1, G_2, G_l⟩ := G2.out.c3
  go_wp2_with fail
  refine (example6_any _).mono ?_
  rintro e w3 ⟨⟨b1, b2, rfl, hD⟩, hb⟩
  have hB3 : Below w2.heap.size w2 w3 := bTrans (Below.refl _ _) hb
  have HD3 := Lib.hid (bTrans HD2.out hB3)
  have HTB3 := Lib.hid (HTB2.out.mono hB3)
  have HG3 := Lib.hid (HG2.out.mono hB3)
  have HDA3 := Lib.hid (hD)
  have E3 := Lib.hid (E2.out.mono hB3)
  have G3 := Lib.hid (G2.out.mono hB3)
  clear hb hB3 HD2 HTB2 HG2 E2 E_0 E_1 E_2 E_l G2 G_0 G_1 G_2 G_l
  obtain ⟨E_0, E_1, E_2, E_l⟩ := E3.out.c3
  obtain ⟨G_0, G_1, G_2, G_l⟩ := G3.out.c3
  clear hD
  go_wp2_with fail
  refine ((by have := worstD_any (some ⟨b1, 0, none⟩) (some ⟨b2, 0, none⟩) 5 4 ex6 0 4 w3 ex6_ok HDA3.out (by decide) (by decide); rw [ex6_worst] at this; exact this : Calls Tryd.prog 11 #[.agg #[.slice (some ⟨b1, 0, none⟩) 5 5, .slice (some ⟨b2, 0, none⟩) 4 4], .int .i64 0, .int .i64 4] w3 fun e w' => e = .returned (.tuple #[.int .i64 5, .int .i64 0]) ∧ Below w3.heap.size w3 w')).mono ?_
  rintro e w4 ⟨rfl, hb⟩
  have hB4 : Below w3.heap.size w3 w4 := bTrans (Below.refl _ _) hb
  have HD4 := Lib.hid (bTrans HD3.out hB4)
  have HTB4 := Lib.hid (HTB3.out.mono hB4)
  have HG4 := Lib.hid (HG3.out.mono hB4)
  have HDA4 := Lib.hid (HDA3.out.mono hB4)
  have E4 := Lib.hid (E3.out.mono hB4)
  have G4 := Lib.hid (G3.out.mono hB4)
  clear hb hB4 HD3 HTB3 HG3 HDA3 E3 E_0 E_1 E_2 E_l G3 G_0 G_1 G_2 G_l
  obtain ⟨E_0, E_1, E_2, E_l⟩ := E4.out.c3
  obtain ⟨G_0, G_1, G_2, G_l⟩ := G4.out.c3
  go_wp2_with fail
  go_ret
  exact ⟨rfl, HD4.out⟩
end Go.Proofs.YthnojgdckkdcgaaDoor

