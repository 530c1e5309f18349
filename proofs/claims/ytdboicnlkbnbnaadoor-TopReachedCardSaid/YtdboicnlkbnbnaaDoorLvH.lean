/- Walks of Copy and Sounded of the reference of levels. Condition: what is copied is small. -/
import Derived.Test.YtdboicnlkbnbnaaDoorLvG
namespace Go.Proofs.YtdboicnlkbnbnaaDoor
open Go.RowKit Go.Sort
theorem infoSnd : (Tryd.prog.info? 31).map (fun i => (i.zero, i.size, i.bytes)) = some (some (.agg #[.int .i64 0, .int .i64 0, .int .i64 0]), 3, 24) := by kernel_rfl
theorem infoSlp : (Tryd.prog.info? 56).map (fun i => (i.zero, i.size, i.bytes)) = some (some (.agg #[.int .i64 0, .int .i64 0, .int .i64 0, .int .i64 0]), 4, 32) := by kernel_rfl
def SndHand (N : Nat) (t : Lt) (w : World) (v : Value) : Prop := AtHand N 31 3 t.ns (catL (sndV t.snd) t.ns) w v
def SlpHand (N : Nat) (t : Lt) (w : World) (v : Value) : Prop := AtHand N 56 4 t.nl (catL (slpV t.slp) t.nl) w v
/-- an empty row of its own -/
def emptyV (v : Value) : Prop := ∃ b, v = .slice (some ⟨b, 0, none⟩) 0 0
def anyR (_ : World) (_ : Value) : Prop := True
theorem anyG : (Stir.held emptyV anyR).good := ⟨⟨_, 0, rfl⟩, fun _ _ _ _ _ => trivial⟩
theorem shapeG (N : Nat) (e : TypeId) (size n : Nat) (xs : List Value) : (Stir.held (ShapeOf n) (AtHand N e size n xs)).good := ⟨⟨_, 0, 0, rfl⟩, fun _ _ _ hb h => h.below hb⟩
def builtS (t : Lt) (v : Value) : Prop := ∃ v1 v2, v = .agg #[.int .i64 t.wells, v1, v2] ∧ ShapeOf t.ns v1 ∧ ShapeOf t.nl v2
def builtR (t : Lt) (N : Nat) (w : World) (v : Value) : Prop := ∃ v1 v2, v = .agg #[.int .i64 t.wells, v1, v2] ∧ SndHand N t w v1 ∧ SlpHand N t w v2
theorem builtG (t : Lt) (N : Nat) : (Stir.held (builtS t) (builtR t N)).good :=
  ⟨⟨_, .slice (some ⟨0, 0, none⟩) t.ns 0, .slice (some ⟨0, 0, none⟩) t.nl 0, rfl, ⟨_, _, rfl⟩, ⟨_, _, rfl⟩⟩, fun _ _ _ hb ⟨v1, v2, e, h1, h2⟩ => ⟨v1, v2, e, AtHand.below hb h1, AtHand.below hb h2⟩⟩
theorem builtR_get {t : Lt} {N : Nat} {w : World} {v1 v2 : Value} (h : builtR t N w (.agg #[.int .i64 t.wells, v1, v2])) : SndHand N t w v1 ∧ SlpHand N t w v2 := by
  obtain ⟨u1, u2, e, h1, h2⟩ := h
  injection e with e
  have e1 := congrArg (fun x : Array Value => x[1]?) e
  have e2 := congrArg (fun x : Array Value => x[2]?) e
  simp at e1 e2
  subst e1 e2
  exact ⟨h1, h2⟩
/-- what Copy hands back -/
def CopiedLv (N : Nat) (w : World) (t : Lt) (e : Ending) : Prop := ∃ v1 v2, e = .returned (.agg #[.int .i64 t.wells, v1, v2]) ∧ (ShapeOf t.ns v1 ∧ ShapeOf t.nl v2) ∧ SndHand N t w v1 ∧ SlpHand N t w v2
set_option maxHeartbeats 4000000 in
set_option maxRecDepth 100000 in
theorem lvCopy_any (As Al : Option Addr) (cs cl : Nat) (t : Lt) (w : World) (hs : t.ns ≤ 1000) (hl : t.nl ≤ 1000) (hT : LtAt w As Al t) :
    Calls Tryd.prog 32 #[.agg #[.int .i64 t.wells, .slice As t.ns cs, .slice Al t.nl cl]] w fun e w' => CopiedLv w.heap.size w' t e ∧ Below w.heap.size w w' := by
  have hb0 := bAlloc (bAlloc (Below.refl w.heap.size w) (.cells #[.int .i64 t.wells, .slice As t.ns cs, .slice Al t.nl cl] 25)) (.cells #[.int .i64 0, .slice none 0 0, .slice none 0 0] 25)
  have HT := Lib.hid (hT.mono hb0)
  have HB := Lib.hid hb0
  clear hT hb0
  go_enter Tryd.func32, Tryd.ntmps32
  go_wp2_with fail
  refine wp_region_stir 11 [.const (.pointer (some ⟨w.heap.size, 0, none⟩)), .const (.int .i64 t.wells), .held emptyV anyR, .const (.pointer (some ⟨w.heap.size, 1, none⟩)), .const (.slice As t.ns cs), .held (ShapeOf t.ns) (AtHand (w.heap.size + 2) 31 3 t.ns (catL (sndV t.snd) t.ns)),
    .held emptyV anyR, .const (.pointer (some ⟨w.heap.size, 2, none⟩)), .const (.slice Al t.nl cl), .held (ShapeOf t.nl) (AtHand (w.heap.size + 2) 56 4 t.nl (catL (slpV t.slp) t.nl)), .held (builtS t) (builtR t (w.heap.size + 2))] (by kernel_rfl) (by kernel_rfl) rfl
    ⟨trivial, trivial, anyG, trivial, trivial, shapeG _ _ _ _ _, anyG, trivial, trivial, shapeG _ _ _ _ _, builtG _ _, trivial⟩ (crossAll_no _ _ _ _ trivial) ?_
  refine wpStir_const (by go_simp) ?_
  refine wpStir_const (by go_simp) ?_
  refine wpStir_held rfl (fun w' hb hd => ?_) (fun v hv => ?_)
  · go_simp
    exact ⟨bAlloc (Below.refl _ _) _, ⟨_, rfl⟩, trivial⟩
  obtain ⟨b0, rfl⟩ := hv
  refine wpStir_const (by go_simp) ?_
  refine wpStir_const (by go_simp) ?_
  simp only [Act.put, List.setIfInBounds_toArray, List.set_cons_succ, List.set_cons_zero]
  refine wpStir_held rfl (fun w' hb hd => ?_) (fun v hv => ?_)
  · refine stir_copy w' (Operand.tmp 5) (Operand.tmp 7) 22 ?_ 31 (.agg #[.int .i64 0, .int .i64 0, .int .i64 0]) 3 24 ?_ ?_ ?_ ?_ b0 As t.ns cs (catL (sndV t.snd) t.ns) ?_ ?_ ?_ ?_ ?_ ?_ _ ?_
    · rfl
    · exact infoSnd
    · exact Tryd.underlying22
    · rfl
    · decide
    · rfl
    · rfl
    · exact catL_len (sndV_len _) _
    · exact (sndsAt_row.1 HT.out.snd).mono hb
    · omega
    · decide
    · have := hb.size
      simpa using this
  obtain ⟨b1, c1, rfl⟩ := hv
  refine wpStir_held rfl (fun w' hb hd => ?_) (fun v hv => ?_)
  · go_simp
    exact ⟨bAlloc (Below.refl _ _) _, ⟨_, rfl⟩, trivial⟩
  obtain ⟨b2, rfl⟩ := hv
  refine wpStir_const (by go_simp) ?_
  refine wpStir_const (by go_simp) ?_
  simp only [Act.put, List.setIfInBounds_toArray, List.set_cons_succ, List.set_cons_zero]
  refine wpStir_held rfl (fun w' hb hd => ?_) (fun v hv => ?_)
  · refine stir_copy w' (Operand.tmp 9) (Operand.tmp 11) 23 ?_ 56 (.agg #[.int .i64 0, .int .i64 0, .int .i64 0, .int .i64 0]) 4 32 ?_ ?_ ?_ ?_ b2 Al t.nl cl (catL (slpV t.slp) t.nl) ?_ ?_ ?_ ?_ ?_ ?_ _ ?_
    · rfl
    · exact infoSlp
    · exact Tryd.underlying23
    · rfl
    · decide
    · rfl
    · rfl
    · exact catL_len (slpV_len _) _
    · exact (slpsAt_row.1 HT.out.slp).mono hb
    · omega
    · decide
    · have := hb.size
      simpa using this
  obtain ⟨b3, c3, rfl⟩ := hv
  refine wpStir_held rfl (fun w' hb hd => ?_) (fun v hv => ?_)
  · have h2 : AtHand (w.heap.size + 2) 56 4 t.nl (catL (slpV t.slp) t.nl) w' (.slice (some ⟨b3, 0, none⟩) t.nl c3) := hd.1 (by kernel_rfl)
    have h1 : AtHand (w.heap.size + 2) 31 3 t.ns (catL (sndV t.snd) t.ns) w' (.slice (some ⟨b1, 0, none⟩) t.ns c1) := hd.2.2.1 (by kernel_rfl)
    clear hd
    go_simp
    exact ⟨⟨_, _, rfl, ⟨_, _, rfl⟩, ⟨_, _, rfl⟩⟩, _, _, rfl, h1, h2⟩
  obtain ⟨v1, v2, rfl, ⟨g1, k1, rfl⟩, ⟨g2, k2, rfl⟩⟩ := hv
  refine wpStir_end (fun w5 hb5 hd => ?_)
  have h5 := builtR_get hd.1
  have H5 := Lib.hid h5
  have HB5 := Lib.hid hb5
  clear hd
  simp only [List.drop_succ_cons, List.drop_zero]
  simp only [Act.put, List.setIfInBounds_toArray, List.set_cons_succ, List.set_cons_zero]
  obtain ⟨bc5, bf5⟩ := bcell hb5
  have hz5 := hb5.size
  simp only [World.size_alloc] at hz5
  clear hb5 h5
  go_wp2_with fail
  refine bodyPost_ret (v := .agg #[.int .i64 t.wells, .slice (some ⟨g1, 0, none⟩) t.ns k1, .slice (some ⟨g2, 0, none⟩) t.nl k2]) (by simp [results, Tryd.results32, go_sem, *]) rfl ?_
  have hbx := bTrans HB.out HB5.out
  have hA : AboveH (w.heap.size + 2) w5 (((w5.setCell ⟨w.heap.size + 1, 0, none⟩ (.int .i64 t.wells)).setCell ⟨w.heap.size + 1, 1, none⟩ (.slice (some ⟨g1, 0, none⟩) t.ns k1)).setCell ⟨w.heap.size + 1, 2, none⟩ (.slice (some ⟨g2, 0, none⟩) t.nl k2)) := by (repeat (first | (with_reducible exact AboveH.refl _ _) | ((with_reducible refine AboveH.setCell ?_ ?_ _); (focus (simp; done))) | ((with_reducible refine AboveH.setCell ?_ ?_ _); (focus (simp; omega))) | (with_reducible refine AboveH.alloc ?_ _) | (with_reducible refine AboveH.drew ?_)))
  exact ⟨⟨_, _, rfl, ⟨⟨_, _, rfl⟩, ⟨_, _, rfl⟩⟩, (H5.out.1.aboveH hA).lower (by omega), (H5.out.2.aboveH hA).lower (by omega)⟩, by (repeat (first | (with_reducible exact Below.refl _ _) | (with_reducible refine bAlloc ?_ _) | (with_reducible refine bDrew ?_) | (with_reducible refine bGrow ?_ _ _) | (with_reducible refine bSet ?_ ?_ _; (first | exact Nat.le_refl _ | exact Nat.le_add_right _ _ | (simp; omega))) | (with_reducible refine bTrans ?_ (by assumption))))⟩
theorem RowOn.other {N : Nat} {e T : TypeId} {size n : Nat} {w w' : World} (h : RowOn N e size n w w') {b : Nat} {cs : Array Value} {fr : Nat × Nat} (hb : w.heap[b]? = some (.cells cs T fr)) (hT : T ≠ e) : w'.heap[b]? = w.heap[b]? := by
  have hlt := (Array.getElem?_eq_some_iff.1 hb).1
  rcases h with h | ⟨_, g, cur, cur', h1, h2, h3, h4, h5, h6⟩
  · exact h.block b hlt
  · refine h6.block b hlt fun hg => ?_
    injection hg with hg
    subst hg
    rw [hb] at h2
    injection h2 with h2
    injection h2 with _ h2
    exact hT h2
theorem RowOn.apart {N base : Nat} {e e' : TypeId} {size size' n k : Nat} {w w' : World} (h : RowOn N e size n w w') {v : Value} {xs : List Value} (hT : e' ≠ e) (ho : w.ownsRow base e' size' v k xs) : w'.ownsRow base e' size' v k xs := by
  rcases h with h | ⟨_, g, cur, cur', h1, h2, h3, h4, h5, h6⟩
  · exact owns_below ho h
  · refine ho.kept h6 (.inr fun hg => ?_)
    obtain ⟨_, c2, h7⟩ := owns_typed ho g hg
    rw [h7] at h2
    injection h2 with h2
    injection h2 with _ h2
    exact hT h2
theorem AtHand.apart {N base : Nat} {e e' : TypeId} {size size' n k : Nat} {w w' : World} (h : RowOn N e size n w w') {v : Value} {xs : List Value} (hT : e' ≠ e) (ho : AtHand base e' size' k xs w v) : AtHand base e' size' k xs w' v :=
  ho.imp id fun ho => ⟨ho.1, h.apart hT ho.2⟩
theorem cell_of_heap {w w' : World} {b : Nat} (h : w'.heap[b]? = w.heap[b]?) (o : Nat) : w'.cell? ⟨b, o, none⟩ = w.cell? ⟨b, o, none⟩ := World.cell?_of_block (a := ⟨b, o, none⟩) h
theorem frozen_of_heap {w w' : World} {b : Nat} (h : w'.heap[b]? = w.heap[b]?) (o : Nat) : w'.frozen? ⟨b, o, none⟩ = w.frozen? ⟨b, o, none⟩ := World.frozen?_of_block (a := ⟨b, o, none⟩) h
theorem AtHand.setTyped {N : Nat} {e T : TypeId} {size n : Nat} {xs : List Value} {w : World} {v : Value} {b : Nat} {cs : Array Value} {fr : Nat × Nat} (hb : w.heap[b]? = some (.cells cs T fr)) (hT : T ≠ e) (h : AtHand N e size n xs w v) (o : Nat) (u : Value) : AtHand N e size n xs (w.setCell ⟨b, o, none⟩ u) v := by
  refine h.imp id fun ⟨hn, ho⟩ => ⟨hn, ho.1, ?_⟩
  rcases ho.2 with h0 | ⟨g, cap, cur, h1, h2, h3, h4⟩
  · exact .inl h0
  · refine .inr ⟨g, cap, cur, h1, h2, ?_, h4⟩
    rw [Below.heap_setCell w ⟨b, o, none⟩ u g fun e' => ?_]
    · exact h3
    · have e' : g = b := e'
      subst e'
      rw [h3] at hb
      injection hb with hb
      injection hb with _ hb
      exact hT hb.symm
/-- what Sounded hands back -/
def SoundedLv (w : World) (t : Lt) (s : Snd) (e : Ending) : Prop := ∃ As cs Al cl, e = .returned (.agg #[.int .i64 t.wells, .slice As (t.ns + 1 : Nat) cs, .slice Al t.nl cl]) ∧ LtAt w As Al (t.sounded s)
theorem sounded_cat (t : Lt) (s : Snd) : catL (sndV (t.sounded s).snd) (t.ns + 1) = catL (sndV t.snd) t.ns ++ [.int .i64 s.well, .int .i64 s.low, .int .i64 s.high] := by
  simp only [catL]
  rw [catL_congr (g := sndV t.snd) t.ns fun i hi => by simp only [sndV, Lt.sounded]; rw [if_neg (by omega)]]
  congr 1
  simp only [sndV, Lt.sounded]
  rw [if_pos trivial]
theorem sounded_given {N : Nat} {w w' : World} {t : Lt} {s : Snd} {g c g2 c2 : Nat} (h1 : w.ownsRow N 31 3 (.slice (some ⟨g, 0, none⟩) (t.ns + 1) c) (t.ns + 1) (catL (sndV t.snd) t.ns ++ [.int .i64 s.well, .int .i64 s.low, .int .i64 s.high])) (h2 : SlpHand N t w (.slice (some ⟨g2, 0, none⟩) t.nl c2)) (ha : AboveH N w w') :
    SoundedLv w' t s (.returned (.agg #[.int .i64 t.wells, .slice (some ⟨g, 0, none⟩) (t.ns + 1 : Nat) c, .slice (some ⟨g2, 0, none⟩) t.nl c2])) := by
  have k1 : AtHand N 31 3 (t.ns + 1) (catL (sndV (t.sounded s).snd) (t.ns + 1)) w' (.slice (some ⟨g, 0, none⟩) (t.ns + 1) c) := by
    rw [sounded_cat]
    exact AtHand.aboveH ha (.inr ⟨Nat.succ_pos _, h1⟩)
  obtain ⟨A1, d1, e1, r1⟩ := k1.row
  obtain ⟨A2, d2, e2, r2⟩ := (AtHand.aboveH ha h2).row
  injection e1 with e1 _ _
  injection e2 with e2 _ _
  subst e1 e2
  exact ⟨_, _, _, _, rfl, sndsAt_row.2 r1, slpsAt_row.2 r2⟩
set_option maxHeartbeats 2000000 in
set_option maxRecDepth 100000 in
theorem lvSounded_any (As Al : Option Addr) (cs cl : Nat) (t : Lt) (s : Snd) (w : World) (hs : t.ns ≤ 1000) (hl : t.nl ≤ 1000) (hT : LtAt w As Al t) :
    Calls Tryd.prog 15 #[.agg #[.int .i64 t.wells, .slice As t.ns cs, .slice Al t.nl cl], .agg #[.int .i64 s.well, .int .i64 s.low, .int .i64 s.high]] w fun e w' => SoundedLv w' t s e ∧ Below w.heap.size w w' := by
  have hb0 := bAlloc (bAlloc (bAlloc (Below.refl w.heap.size w) (.cells #[.int .i64 t.wells, .slice As t.ns cs, .slice Al t.nl cl] 25)) (.cells #[.int .i64 s.well, .int .i64 s.low, .int .i64 s.high] 31)) (.cells #[.int .i64 0, .slice none 0 0, .slice none 0 0] 25)
  have HT := Lib.hid (hT.mono hb0)
  have HB := Lib.hid hb0
  clear hT hb0
  go_enter Tryd.func15, Tryd.ntmps15
  go_wp2_with fail
  refine (lvCopy_any _ _ _ _ t _ hs hl HT.out).mono ?_
  rintro e w2 ⟨⟨v1, v2, rfl, ⟨⟨g1, k1, rfl⟩, ⟨g2, k2, rfl⟩⟩, h1, h2⟩, hb2⟩
  have H1 := Lib.hid h1
  have H2 := Lib.hid h2
  have HB2 := Lib.hid hb2
  obtain ⟨bc2, bf2⟩ := bcell hb2
  have hz2 := hb2.size
  simp only [World.size_alloc] at hz2
  have hy2 : w.heap.size < w2.heap.size := by omega
  have hx2 : w.heap.size + 1 < w2.heap.size := by omega
  have hv2 : w.heap.size + 1 + 1 < w2.heap.size := by omega
  clear hb2 h1 h2
  go_wp2_with (at_builtin; refine wpList_append_hand _ rfl (Operand.tmp 9) (Operand.tmp 11) 22 ?q0 31 (.agg #[.int .i64 0, .int .i64 0, .int .i64 0]) 3 24 ?q1 ?q2 ?q3 ?q4 (.slice (some ⟨g1, 0, none⟩) t.ns k1) t.ns (catL (sndV t.snd) t.ns) (some ⟨w2.heap.size + 1, 0, none⟩) 1 1 [.int .i64 s.well, .int .i64 s.low, .int .i64 s.high] (w.heap.size + 3) ?q5 ?q6 ?q7 ?q8 ?q9 ?q10 ?q11 ?q12 ?q13 ?q14 ?_)
  case q0 => rfl
  case q1 => exact infoSnd
  case q2 => exact Tryd.underlying22
  case q3 => rfl
  case q4 => decide
  case q5 =>
    have h := H1.out
    unfold SndHand at h
    simp only [World.size_alloc] at h
    exact (h.below (bAlloc (Below.refl _ _) _)).below (bAlloc (Below.refl _ _) _)
  case q6 => rfl
  case q7 => rfl
  case q8 => decide
  case q9 => rfl
  case q10 =>
    refine .inr ⟨w2.heap.size + 1, 0, rfl, by simp, fun j u hj => ?_⟩
    match j, hj with
    | 0, hj => simp at hj; subst hj; simp [go_sem]
    | 1, hj => simp at hj; subst hj; simp [go_sem]
    | 2, hj => simp at hj; subst hj; simp [go_sem]
  case q11 => intro u hu; simp at hu; rcases hu with rfl | rfl | rfl <;> rfl
  case q12 => omega
  case q13 => decide
  case q14 => simp; omega
  intro g3 k3 w3 hon hown
  have hbl3 := hon.below (show w.heap.size + 3 ≤ ((w2.alloc (.cells #[.int .i64 t.wells, .slice (some ⟨g1, 0, none⟩) t.ns k1, .slice (some ⟨g2, 0, none⟩) t.nl k2] 25)).alloc (.cells #[.int .i64 s.well, .int .i64 s.low, .int .i64 s.high] 31)).heap.size by simp; omega)
  have hh2 : ((w2.alloc (.cells #[.int .i64 t.wells, .slice (some ⟨g1, 0, none⟩) t.ns k1, .slice (some ⟨g2, 0, none⟩) t.nl k2] 25)).alloc (.cells #[.int .i64 s.well, .int .i64 s.low, .int .i64 s.high] 31)).heap[w2.heap.size]? = some (.cells #[.int .i64 t.wells, .slice (some ⟨g1, 0, none⟩) t.ns k1, .slice (some ⟨g2, 0, none⟩) t.nl k2] 25 (0, 0)) :=
    ((bAlloc (Below.refl _ _) _).block w2.heap.size (by simp)).trans (heap_alloc_new _ _)
  have hh3 := hon.other hh2 (by decide)
  have hc3 := cell_of_heap hh3
  have hf3 := frozen_of_heap hh3
  have HH3 := Lib.hid (hh3.trans hh2)
  have h2 := H2.out
  unfold SlpHand at h2
  simp only [World.size_alloc] at h2
  have HS3 := Lib.hid (((h2.below (bAlloc (Below.refl _ _) _)).below (bAlloc (Below.refl _ _) _)).apart hon (by decide))
  have HO3 := Lib.hid hown
  have HL3 := Lib.hid hbl3
  have bc3 : ∀ b o, b < w.heap.size + 3 → w3.cell? ⟨b, o, none⟩ = ((w2.alloc (.cells #[.int .i64 t.wells, .slice (some ⟨g1, 0, none⟩) t.ns k1, .slice (some ⟨g2, 0, none⟩) t.nl k2] 25)).alloc (.cells #[.int .i64 s.well, .int .i64 s.low, .int .i64 s.high] 31)).cell? ⟨b, o, none⟩ := fun b o h => hbl3.cell (p := ⟨b, o, none⟩) h
  have bf3 : ∀ b o, b < w.heap.size + 3 → w3.frozen? ⟨b, o, none⟩ = ((w2.alloc (.cells #[.int .i64 t.wells, .slice (some ⟨g1, 0, none⟩) t.ns k1, .slice (some ⟨g2, 0, none⟩) t.nl k2] 25)).alloc (.cells #[.int .i64 s.well, .int .i64 s.low, .int .i64 s.high] 31)).frozen? ⟨b, o, none⟩ := fun b o h => hbl3.frozen (p := ⟨b, o, none⟩) h
  have hz3 := hbl3.size
  simp only [World.size_alloc] at hz3
  have hy3 : w2.heap.size < w3.heap.size := by omega
  clear hbl3 hon hown hh2 hh3 h2
  go_wp2_with fail
  refine bodyPost_ret (v := .agg #[.int .i64 t.wells, .slice (some ⟨g3, 0, none⟩) (t.ns + 1) k3, .slice (some ⟨g2, 0, none⟩) t.nl k2]) (by simp [results, Tryd.results15, go_sem, *]) rfl ?_
  have h4 := AtHand.setTyped HH3.out (by decide) (.inr ⟨Nat.succ_pos _, HO3.out⟩) 1 (.slice (some ⟨g3, 0, none⟩) (t.ns + 1) k3)
  have h5 := AtHand.setTyped HH3.out (by decide) HS3.out 1 (.slice (some ⟨g3, 0, none⟩) (t.ns + 1) k3)
  have hbb := HB.out
  have hb2 := HB2.out
  have hb3 := HL3.out
  have hb4 := bTrans hbb hb2
  refine ⟨sounded_given (N := w.heap.size + 3) (h4.resolve_left (fun h => by omega)).2 h5 ?_, ?_⟩
  · (repeat (first | (with_reducible exact AboveH.refl _ _) | ((with_reducible refine AboveH.setCell ?_ ?_ _); (focus (simp; done))) | ((with_reducible refine AboveH.setCell ?_ ?_ _); (focus (simp; omega))) | (with_reducible refine AboveH.alloc ?_ _) | (with_reducible refine AboveH.drew ?_)))
  · have h6 : Below w.heap.size w w3 := (bAlloc (bAlloc hb4 _) _).trans (hb3.mono (by omega))
    exact bSet (by show w.heap.size ≤ w.heap.size + 1 + 1; omega) (bSet (by show w.heap.size ≤ w.heap.size + 1 + 1; omega) (bSet (by show w.heap.size ≤ w.heap.size + 1 + 1; omega) (bSet (by show w.heap.size ≤ w2.heap.size; omega) h6 _) _) _) _
end Go.Proofs.YtdboicnlkbnbnaaDoor
