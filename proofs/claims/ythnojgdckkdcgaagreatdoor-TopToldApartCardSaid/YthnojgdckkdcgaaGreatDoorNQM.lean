/- Parts joined: what all claims of this seat need. -/
import Derived.Test.YthnojgdckkdcgaaGreatDoorNQL
import Derived.Test.YthnojgdckkdcgaaGreatDoorNQK
import Derived.Test.YthnojgdckkdcgaaGreatDoorNQG
import Derived.Test.YthnojgdckkdcgaaGreatDoorNQC
import Derived.Test.YthnojgdckkdcgaaGreatDoorNQH
set_option linter.unusedSimpArgs false
set_option linter.unusedVariables false
namespace Go.Proofs.YthnojgdckkdcgaaGreatDoor
open Go.RowKit Go.Sort
theorem spots_at {w : World} {A : Option Addr} {n : Nat} {f : Nat → Spot} (h : SpotsAt w A n f) {i : Nat} (hi : i < n) : ∃ b o Ar Af Ax cr cf cx, A = some ⟨b, o, none⟩ ∧ b < w.heap.size ∧ ShAt w Ar Af (f i).sh ∧ RowsAt w Ax (f i).fl ∧ True ∧ w.cell? ⟨b, o + i * 7, none⟩ = some (.int .i64 (f i).at_) ∧ w.cell? ⟨b, o + i * 7 + 1, none⟩ = some (.slice Ar (f i).sh.nr cr) ∧ w.cell? ⟨b, o + i * 7 + 2, none⟩ = some (.slice Af (f i).sh.nf cf) ∧ w.cell? ⟨b, o + i * 7 + 3, none⟩ = some (.int .i64 (f i).sh.deep) ∧ w.cell? ⟨b, o + i * 7 + 4, none⟩ = some (.int .i64 (f i).sh.haul) ∧ w.cell? ⟨b, o + i * 7 + 5, none⟩ = some (.int .i64 (f i).sh.rest) ∧ w.cell? ⟨b, o + i * 7 + 6, none⟩ = some (.slice Ax (f i).fl.n cx) := by
  rcases h with h | ⟨b, o, rfl, hlt, hc⟩
  · omega
  · obtain ⟨Ar, Af, Ax, cr, cf, cx, h0, h1, h2, h3, h4, h5, h6, h7, h8⟩ := hc i hi
    exact ⟨b, o, Ar, Af, Ax, cr, cf, cx, rfl, hlt, h0, h1, trivial, h2, h3, h4, h5, h6, h7, h8⟩
theorem keep_apart {w w' : World} {base M n k size size' : Nat} {e e' : TypeId} {v V : Value} {xs us : List Value} (h : w.ownsRow base e size v n xs) (hl : ∀ q, v.ownBlock = some q → q < M) (hO : w.ownsRow M e' size' V k us) (hg : w.grownBy w' V.ownBlock) : w'.ownsRow base e size v n xs :=
  h.kept hg (by
    cases hq : v.ownBlock with
    | none => exact .inl rfl
    | some q => exact .inr fun e => by have := (hO.lt q e.symm).1; have := hl q hq; omega)
theorem CopyAt.grown {w w' : World} {base M k : Nat} {vW vF V : Value} {q : Qt} {us : List Value} (h : CopyAt w base vW vF q) (h1 : ∀ a, vW.ownBlock = some a → a < M) (h2 : ∀ a, vF.ownBlock = some a → a < M) (hO : w.ownsRow M 71 7 V k us) (hg : w.grownBy w' V.ownBlock) : CopyAt w' base vW vF q := by
  obtain ⟨⟨xs, g1, g2⟩, g3⟩ := h
  exact ⟨⟨xs, keep_apart g1 h1 hO hg, g2.kept (Kept.of_own (l := [3, 34]) hg hO (by decide)) (by simp) (by simp)⟩, keep_apart g3 h2 hO hg⟩
theorem CopyAt.setTy {w : World} {base : Nat} {vW vF : Value} {q : Qt} (h : CopyAt w base vW vF q) {b : Nat} (hb : ∃ cs, TBox w b 62 cs) (o : Nat) (u : Value) : CopyAt (w.setCell ⟨b, o, none⟩ u) base vW vF q := by
  obtain ⟨⟨xs, g1, g2⟩, g3⟩ := h
  refine ⟨⟨xs, owns_setTy g1 hb (by decide) o u, ?_⟩, owns_setTy g3 hb (by decide) o u⟩
  obtain ⟨cs, hb⟩ := hb
  exact g2.kept (Kept.set (l := [3, 34]) hb (by decide) o u) (by simp) (by simp)
/-- a copied town of facts, as a value -/
def qcV (q : Qt) (A A' : Option Addr) (c c' : Nat) : Value := .agg #[.int .i64 q.wells, .slice A q.nw c, .slice A' q.nf c']
def qcS (q : Qt) (v : Value) : Prop := ∃ A A' c c', v = qcV q A A' c c'
def qcR (N : Nat) (q : Qt) (w : World) (v : Value) : Prop := ∀ A A' c c', v = qcV q A A' c c' → CopyAt w N (.slice A q.nw c) (.slice A' q.nf c') q
theorem qcG {N : Nat} {q : Qt} : (Stir.held (qcS q) (qcR N q)).good := ⟨⟨_, none, none, 0, 0, rfl⟩, fun _ _ _ hb h a b c d e => (h a b c d e).mono hb⟩
theorem qcV_inj {q : Qt} {a b : Option Addr} {c d : Nat} {a' b' : Option Addr} {c' d' : Nat} (h : qcV q a b c d = qcV q a' b' c' d') : a = a' ∧ b = b' ∧ c = c' ∧ d = d' := by
  unfold qcV at h
  simp only [Value.agg.injEq, Array.mk.injEq, List.cons.injEq, Value.slice.injEq, and_true, true_and] at h
  exact ⟨h.1.1, h.2.1, h.1.2, h.2.2⟩
/-- a copied spot, as a value -/
def cp9S (y : Spot) (v : Value) : Prop := ∃ Ar Ar2 Ax cr cr2 cx, v = .agg #[.int .i64 y.at_, .slice Ar y.sh.nr cr, .slice Ar2 y.sh.nf cr2, .int .i64 y.sh.deep, .int .i64 y.sh.haul, .int .i64 y.sh.rest, .slice Ax y.fl.n cx]
def cp9R (y : Spot) (w : World) (v : Value) : Prop := ∀ cs, v = .agg (List.toArray cs) → SpK w cs y
theorem cp9G {y : Spot} : (Stir.held (cp9S y) (cp9R y)).good := ⟨⟨_, none, none, none, 0, 0, 0, rfl⟩, fun _ _ _ hb h a e => (h a e).mono hb⟩
def spIn (y : Spot) (w : World) (v : Value) : Prop := ∀ b, v = .slice (some ⟨b, 0, none⟩) 1 1 → ∃ cs, (∀ j u, cs[j]? = some u → w.cell? ⟨b, j, none⟩ = some u) ∧ SpK w cs y
theorem spInG {y : Spot} : (Stir.held one1 (spIn y)).good := ⟨⟨_, 0, rfl⟩, fun _ _ _ hb h b e => by
  obtain ⟨cs, h1, h2⟩ := h b e
  exact ⟨cs, fun j u hj => (hb.cell (World.block_lt_of_cell? _ _ (h1 j u hj))).trans (h1 j u hj), h2.mono hb⟩⟩
def CopyOut9 (w : World) (base : Nat) (t : Pt) (e : Ending) : Prop := ∃ vW vF vO vP vS, e = .returned (.agg #[.int .i64 t.q.wells, vW, vF, vO, vP, vS, .int .i64 t.far, .int .i64 t.harm, .int .i64 t.many]) ∧ CopyAt9 w base vW vF vO vP vS t
set_option maxHeartbeats 8000000 in
set_option maxRecDepth 100000 in
theorem copy9_any (Aw Af Ao Ap As : Option Addr) (cw cf co cp cs : Nat) (t : Pt) (w : World) (hf : t.Fits) (hT : PAt w Aw Af Ao Ap As t) :
    Calls Tryz.prog 25 #[.agg #[.int .i64 t.q.wells, .slice Aw t.q.nw cw, .slice Af t.q.nf cf, .slice Ao t.no co, .slice Ap t.np cp, .slice As t.ns cs, .int .i64 t.far, .int .i64 t.harm, .int .i64 t.many]] w fun e w' => CopyOut9 w' w.heap.size t e ∧ Below w.heap.size w w' := by
  have hb2 := bAlloc (bAlloc (Below.refl w.heap.size w) (.cells #[.int .i64 t.q.wells, .slice Aw t.q.nw cw, .slice Af t.q.nf cf, .slice Ao t.no co, .slice Ap t.np cp, .slice As t.ns cs, .int .i64 t.far, .int .i64 t.harm, .int .i64 t.many] 62)) (.cells #[.int .i64 0, .slice none 0 0, .slice none 0 0, .slice none 0 0, .slice none 0 0, .slice none 0 0, .int .i64 0, .int .i64 0, .int .i64 0] 62)
  have hb3 := bAlloc hb2 (.cells #[.int .i64 t.q.wells, .slice Aw t.q.nw cw, .slice Af t.q.nf cf, .slice Ao t.no co, .slice Ap t.np cp, .slice As t.ns cs, .int .i64 t.far, .int .i64 t.harm, .int .i64 t.many] 62)
  have HT := Lib.hid (hT.mono hb3)
  have HB := Lib.hid hb2
  have HF := Lib.hid hf
  have hn63 : t.ns ≤ 9223372036854775807 := by have := hf.ns; omega
  have HTR := Lib.hid (TBox.new (w.alloc (.cells #[.int .i64 t.q.wells, .slice Aw t.q.nw cw, .slice Af t.q.nf cf, .slice Ao t.no co, .slice Ap t.np cp, .slice As t.ns cs, .int .i64 t.far, .int .i64 t.harm, .int .i64 t.many] 62)) #[.int .i64 0, .slice none 0 0, .slice none 0 0, .slice none 0 0, .slice none 0 0, .slice none 0 0, .int .i64 0, .int .i64 0, .int .i64 0] 62)
  have HTA := Lib.hid (TBox.new ((w.alloc (.cells #[.int .i64 t.q.wells, .slice Aw t.q.nw cw, .slice Af t.q.nf cf, .slice Ao t.no co, .slice Ap t.np cp, .slice As t.ns cs, .int .i64 t.far, .int .i64 t.harm, .int .i64 t.many] 62)).alloc (.cells #[.int .i64 0, .slice none 0 0, .slice none 0 0, .slice none 0 0, .slice none 0 0, .slice none 0 0, .int .i64 0, .int .i64 0, .int .i64 0] 62)) #[.int .i64 t.q.wells, .slice Aw t.q.nw cw, .slice Af t.q.nf cf, .slice Ao t.no co, .slice Ap t.np cp, .slice As t.ns cs, .int .i64 t.far, .int .i64 t.harm, .int .i64 t.many] 62)
  have hSpots := Lib.hid (hT.spots.mono hb2)
  have HBA := Lib.hid (bAlloc (Below.refl ((w.alloc (.cells #[.int .i64 t.q.wells, .slice Aw t.q.nw cw, .slice Af t.q.nf cf, .slice Ao t.no co, .slice Ap t.np cp, .slice As t.ns cs, .int .i64 t.far, .int .i64 t.harm, .int .i64 t.many] 62)).alloc (.cells #[.int .i64 0, .slice none 0 0, .slice none 0 0, .slice none 0 0, .slice none 0 0, .slice none 0 0, .int .i64 0, .int .i64 0, .int .i64 0] 62)).heap.size ((w.alloc (.cells #[.int .i64 t.q.wells, .slice Aw t.q.nw cw, .slice Af t.q.nf cf, .slice Ao t.no co, .slice Ap t.np cp, .slice As t.ns cs, .int .i64 t.far, .int .i64 t.harm, .int .i64 t.many] 62)).alloc (.cells #[.int .i64 0, .slice none 0 0, .slice none 0 0, .slice none 0 0, .slice none 0 0, .slice none 0 0, .int .i64 0, .int .i64 0, .int .i64 0] 62))) (.cells #[.int .i64 t.q.wells, .slice Aw t.q.nw cw, .slice Af t.q.nf cf, .slice Ao t.no co, .slice Ap t.np cp, .slice As t.ns cs, .int .i64 t.far, .int .i64 t.harm, .int .i64 t.many] 62))
  clear hT hb2 hb3 hf
  go_enter Tryz.func25, Tryz.ntmps25
  go_wp2_with fail
  have HZ := Lib.hid (fun w' (hb : Below ((((w.alloc (.cells #[.int .i64 t.q.wells, .slice Aw t.q.nw cw, .slice Af t.q.nf cf, .slice Ao t.no co, .slice Ap t.np cp, .slice As t.ns cs, .int .i64 t.far, .int .i64 t.harm, .int .i64 t.many] 62)).alloc (.cells #[.int .i64 0, .slice none 0 0, .slice none 0 0, .slice none 0 0, .slice none 0 0, .slice none 0 0, .int .i64 0, .int .i64 0, .int .i64 0] 62))).alloc (.cells #[.int .i64 t.q.wells, .slice Aw t.q.nw cw, .slice Af t.q.nf cf, .slice Ao t.no co, .slice Ap t.np cp, .slice As t.ns cs, .int .i64 t.far, .int .i64 t.harm, .int .i64 t.many] 62)).heap.size ((((w.alloc (.cells #[.int .i64 t.q.wells, .slice Aw t.q.nw cw, .slice Af t.q.nf cf, .slice Ao t.no co, .slice Ap t.np cp, .slice As t.ns cs, .int .i64 t.far, .int .i64 t.harm, .int .i64 t.many] 62)).alloc (.cells #[.int .i64 0, .slice none 0 0, .slice none 0 0, .slice none 0 0, .slice none 0 0, .slice none 0 0, .int .i64 0, .int .i64 0, .int .i64 0] 62))).alloc (.cells #[.int .i64 t.q.wells, .slice Aw t.q.nw cw, .slice Af t.q.nf cf, .slice Ao t.no co, .slice Ap t.np cp, .slice As t.ns cs, .int .i64 t.far, .int .i64 t.harm, .int .i64 t.many] 62)) w') => (show w.heap.size + 3 ≤ w'.heap.size from by have := hb.size; simpa using this))
  refine wp_region_stir 12 [.const (.pointer (some ⟨w.heap.size, 0, none⟩)), .const (.agg #[.int .i64 t.q.wells, .slice Aw t.q.nw cw, .slice Af t.q.nf cf]), .held (qcS t.q) (qcR (w.heap.size + 3) t.q),
    .held emptyV (ownsV (w.heap.size + 3) 3 1 0 []), .const (.pointer (some ⟨w.heap.size, 3, none⟩)), .const (.slice Ao t.no co), .held (ShapeOf t.no) (ownsV (w.heap.size + 3) 3 1 t.no (intL t.old t.no)),
    .held emptyV (ownsV (w.heap.size + 3) 3 1 0 []), .const (.pointer (some ⟨w.heap.size, 4, none⟩)), .const (.slice Ap t.np cp), .held (ShapeOf t.np) (ownsV (w.heap.size + 3) 3 1 t.np (intL t.pence t.np)), .const (.pointer (some ⟨w.heap.size + 2, 0, none⟩))]
    (by kernel_rfl) (by kernel_rfl) rfl ⟨trivial, trivial, qcG, ⟨⟨_, 0, rfl⟩, fun _ _ _ hb h => owns_below h hb⟩, trivial, trivial, ownsG, ⟨⟨_, 0, rfl⟩, fun _ _ _ hb h => owns_below h hb⟩, trivial, trivial, ownsG, trivial, trivial⟩ (crossAll_no _ _ _ _ trivial) ?_
  iterate 2 refine wpStir_const (by go_simp) ?_
  simp only [Act.put, List.setIfInBounds_toArray, List.set_cons_succ, List.set_cons_zero]
  refine wpStir_held rfl (fun w' hb hd => ?_) (fun v hv => ?_)
  · clear hd
    have hz := HZ.out _ hb
    have hc := Lib.hid (copy5_any Aw Af cw cf t.q w' HF.out.q (HT.out.q.mono hb))
    go_simp
    refine hc.out.mono ?_
    rintro e w'' ⟨⟨vW, vF, rfl, h1⟩, hb'⟩
    obtain ⟨A1, c1, A2, c2, rfl, rfl, _⟩ := h1.qat
    refine ⟨_, rfl, hb', ⟨A1, A2, c1, c2, rfl⟩, fun a b c d e => ?_⟩
    obtain ⟨rfl, rfl, rfl, rfl⟩ := qcV_inj (show qcV t.q A1 A2 c1 c2 = qcV t.q a b c d from e)
    exact h1.lower hz
  obtain ⟨A1, A2, c1, c2, rfl⟩ := hv
  refine wpStir_held rfl (fun w' hb hd => ?_) (fun v hv => ?_)
  · clear hd
    have hl := World.ownsRow_lit (base := w.heap.size + 3) (e := 3) (size := 1) w' #[] 0 (HZ.out _ hb) (by decide) rfl
    go_simp
    exact ⟨bAlloc (Below.refl _ _) _, ⟨_, rfl⟩, hl⟩
  obtain ⟨be1, rfl⟩ := hv
  iterate 2 refine wpStir_const (by go_simp) ?_
  simp only [Act.put, List.setIfInBounds_toArray, List.set_cons_succ, List.set_cons_zero]
  refine wpStir_held rfl (fun w' hb hd => ?_) (fun v hv => ?_)
  · have h1 : ownsV (w.heap.size + 3) 3 1 0 [] w' (.slice (some ⟨be1, 0, none⟩) 0 0) := hd.1 (by kernel_rfl)
    clear hd
    exact stir_copy3 w' _ _ 34 rfl 3 _ 1 8 infoInt Tryz.underlying34 rfl (by decide) be1 Ao t.no co (intL t.old t.no) rfl rfl (by rw [intL_len, Nat.mul_one]) ((intsAt_row.1 HT.out.old).mono hb) (by unfold maxLen; have := HF.out.no; omega) (by have := HF.out.no; omega) _ (HZ.out _ hb) h1
  obtain ⟨go, c3, rfl⟩ := hv
  refine wpStir_held rfl (fun w' hb hd => ?_) (fun v hv => ?_)
  · clear hd
    have hl := World.ownsRow_lit (base := w.heap.size + 3) (e := 3) (size := 1) w' #[] 0 (HZ.out _ hb) (by decide) rfl
    go_simp
    exact ⟨bAlloc (Below.refl _ _) _, ⟨_, rfl⟩, hl⟩
  obtain ⟨be2, rfl⟩ := hv
  iterate 2 refine wpStir_const (by go_simp) ?_
  simp only [Act.put, List.setIfInBounds_toArray, List.set_cons_succ, List.set_cons_zero]
  refine wpStir_held rfl (fun w' hb hd => ?_) (fun v hv => ?_)
  · have h1 : ownsV (w.heap.size + 3) 3 1 0 [] w' (.slice (some ⟨be2, 0, none⟩) 0 0) := hd.1 (by kernel_rfl)
    clear hd
    exact stir_copy3 w' _ _ 34 rfl 3 _ 1 8 infoInt Tryz.underlying34 rfl (by decide) be2 Ap t.np cp (intL t.pence t.np) rfl rfl (by rw [intL_len, Nat.mul_one]) ((intsAt_row.1 HT.out.pence).mono hb) (by unfold maxLen; have := HF.out.np; omega) (by have := HF.out.np; omega) _ (HZ.out _ hb) h1
  obtain ⟨gp, c4, rfl⟩ := hv
  refine wpStir_const (by go_simp) ?_
  simp only [Act.put, List.setIfInBounds_toArray, List.set_cons_succ, List.set_cons_zero]
  refine wpStir_end (fun w5 hb5 hd => ?_)
  have hp5 : ownsV (w.heap.size + 3) 3 1 t.np (intL t.pence t.np) w5 (.slice (some ⟨gp, 0, none⟩) t.np c4) := hd.1
  have ho5 : ownsV (w.heap.size + 3) 3 1 t.no (intL t.old t.no) w5 (.slice (some ⟨go, 0, none⟩) t.no c3) := hd.2.2.1
  have hq5 := (show qcR (w.heap.size + 3) t.q w5 (qcV t.q A1 A2 c1 c2) from hd.2.2.2.2.1) A1 A2 c1 c2 rfl
  clear hd
  have HP5 := Lib.hid hp5
  have HO5 := Lib.hid ho5
  have HQ5 := Lib.hid hq5
  have HB5 := Lib.hid (bTrans HBA.out hb5)
  have HTB := Lib.hid (show TBox w5 (w.heap.size + 2) 62 #[.int .i64 t.q.wells, .slice Aw t.q.nw cw, .slice Af t.q.nf cf, .slice Ao t.no co, .slice Ap t.np cp, .slice As t.ns cs, .int .i64 t.far, .int .i64 t.harm, .int .i64 t.many] by have := HTA.out.mono hb5; simpa using this)
  have hlt7 := HTB.out.lt
  obtain ⟨bc, bf⟩ := bcell hb5
  have hz5 := HZ.out _ hb5
  clear hp5 ho5 hq5
  simp only [List.drop_succ_cons, List.drop_zero]
  unfold qcV
  go_wp2_with fail
  have ty5 : ∃ cs, TBox w5 (w.heap.size + 2) 62 cs := ⟨_, HTB.out⟩
  have HT6 := Lib.hid (((((((HTB.out.set 0 (.int .i64 t.q.wells)).set 1 (.slice A1 t.q.nw c1)).set 2 (.slice A2 t.q.nf c2)).set 3 (.slice (some ⟨go, 0, none⟩) t.no c3)).set 4 (.slice (some ⟨gp, 0, none⟩) t.np c4)).set 5 (.slice none 0 0)))
  have HQ6 := Lib.hid (show CopyAt (((((((w5.setCell ⟨w.heap.size + 2, 0, none⟩ (.int .i64 t.q.wells)).setCell ⟨w.heap.size + 2, 1, none⟩ (.slice A1 t.q.nw c1)).setCell ⟨w.heap.size + 2, 2, none⟩ (.slice A2 t.q.nf c2)).setCell ⟨w.heap.size + 2, 3, none⟩ (.slice (some ⟨go, 0, none⟩) t.no c3)).setCell ⟨w.heap.size + 2, 4, none⟩ (.slice (some ⟨gp, 0, none⟩) t.np c4)).setCell ⟨w.heap.size + 2, 5, none⟩ (.slice none 0 0))) (w.heap.size + 3) (.slice A1 t.q.nw c1) (.slice A2 t.q.nf c2) t.q from by
    have h := HQ5.out
    repeat with_reducible refine CopyAt.setTy ?_ ?_ _ _
    with_reducible exact h
    all_goals repeat (first | with_reducible refine TyB.set ?_ _ _ _ | with_reducible exact ty5))
  have HO6 := Lib.hid (show (((((((w5.setCell ⟨w.heap.size + 2, 0, none⟩ (.int .i64 t.q.wells)).setCell ⟨w.heap.size + 2, 1, none⟩ (.slice A1 t.q.nw c1)).setCell ⟨w.heap.size + 2, 2, none⟩ (.slice A2 t.q.nf c2)).setCell ⟨w.heap.size + 2, 3, none⟩ (.slice (some ⟨go, 0, none⟩) t.no c3)).setCell ⟨w.heap.size + 2, 4, none⟩ (.slice (some ⟨gp, 0, none⟩) t.np c4)).setCell ⟨w.heap.size + 2, 5, none⟩ (.slice none 0 0))).ownsRow (w.heap.size + 3) 3 1 (.slice (some ⟨go, 0, none⟩) t.no c3) t.no (intL t.old t.no) from by
    have h := HO5.out
    unfold ownsV at h
    repeat with_reducible refine owns_setTy (t := 62) ?_ ?_ (by decide) _ _
    with_reducible exact h
    all_goals repeat (first | with_reducible refine TyB.set ?_ _ _ _ | with_reducible exact ty5))
  have HP6 := Lib.hid (show (((((((w5.setCell ⟨w.heap.size + 2, 0, none⟩ (.int .i64 t.q.wells)).setCell ⟨w.heap.size + 2, 1, none⟩ (.slice A1 t.q.nw c1)).setCell ⟨w.heap.size + 2, 2, none⟩ (.slice A2 t.q.nf c2)).setCell ⟨w.heap.size + 2, 3, none⟩ (.slice (some ⟨go, 0, none⟩) t.no c3)).setCell ⟨w.heap.size + 2, 4, none⟩ (.slice (some ⟨gp, 0, none⟩) t.np c4)).setCell ⟨w.heap.size + 2, 5, none⟩ (.slice none 0 0))).ownsRow (w.heap.size + 3) 3 1 (.slice (some ⟨gp, 0, none⟩) t.np c4) t.np (intL t.pence t.np) from by
    have h := HP5.out
    unfold ownsV at h
    repeat with_reducible refine owns_setTy (t := 62) ?_ ?_ (by decide) _ _
    with_reducible exact h
    all_goals repeat (first | with_reducible refine TyB.set ?_ _ _ _ | with_reducible exact ty5))
  have HB6 := Lib.hid (show Below (w.heap.size + 2) ((w.alloc (.cells #[.int .i64 t.q.wells, .slice Aw t.q.nw cw, .slice Af t.q.nf cf, .slice Ao t.no co, .slice Ap t.np cp, .slice As t.ns cs, .int .i64 t.far, .int .i64 t.harm, .int .i64 t.many] 62)).alloc (.cells #[.int .i64 0, .slice none 0 0, .slice none 0 0, .slice none 0 0, .slice none 0 0, .slice none 0 0, .int .i64 0, .int .i64 0, .int .i64 0] 62)) _ from (Below.setCell (p := ⟨w.heap.size + 2, 5, none⟩) (Below.setCell (p := ⟨w.heap.size + 2, 4, none⟩) (Below.setCell (p := ⟨w.heap.size + 2, 3, none⟩) (Below.setCell (p := ⟨w.heap.size + 2, 2, none⟩) (Below.setCell (p := ⟨w.heap.size + 2, 1, none⟩) (Below.setCell (p := ⟨w.heap.size + 2, 0, none⟩) (by have := HB5.out; simpa using this) (Nat.le_refl _) (.int .i64 t.q.wells)) (Nat.le_refl _) (.slice A1 t.q.nw c1)) (Nat.le_refl _) (.slice A2 t.q.nf c2)) (Nat.le_refl _) (.slice (some ⟨go, 0, none⟩) t.no c3)) (Nat.le_refl _) (.slice (some ⟨gp, 0, none⟩) t.np c4)) (Nat.le_refl _) (.slice none 0 0)))
  have hlW : ∀ q, (Value.slice A1 t.q.nw c1).ownBlock = some q → q < w5.heap.size := by
    obtain ⟨⟨us, h1, _⟩, _⟩ := HQ5.out
    exact fun q hq => (h1.lt q hq).2
  have hlF : ∀ q, (Value.slice A2 t.q.nf c2).ownBlock = some q → q < w5.heap.size := fun q hq => (HQ5.out.facts.lt q hq).2
  have hlO : ∀ q, (Value.slice (some ⟨go, 0, none⟩) t.no c3).ownBlock = some q → q < w5.heap.size := fun q hq => ((show w5.ownsRow _ _ _ _ _ _ from HO5.out).lt q hq).2
  have hlP : ∀ q, (Value.slice (some ⟨gp, 0, none⟩) t.np c4).ownBlock = some q → q < w5.heap.size := fun q hq => ((show w5.ownsRow _ _ _ _ _ _ from HP5.out).lt q hq).2
  have HLW := Lib.hid hlW
  have HLF := Lib.hid hlF
  have HLO := Lib.hid hlO
  have HLP := Lib.hid hlP
  clear hlW hlF hlO hlP ty5 bc bf
  go_loopw [4] (fun s wr => ∃ (k : Nat) (V : Value) (us : List Value), k ≤ t.ns ∧ s = .int .i64 k ∧ TBox wr (w.heap.size + 2) 62 #[.int .i64 t.q.wells, .slice A1 t.q.nw c1, .slice A2 t.q.nf c2, .slice (some ⟨go, 0, none⟩) t.no c3, .slice (some ⟨gp, 0, none⟩) t.np c4, V, .int .i64 t.far, .int .i64 t.harm, .int .i64 t.many] ∧ wr.ownsRow w5.heap.size 71 7 V k us ∧ SpRows wr t.spot k us ∧ w5.heap.size ≤ wr.heap.size ∧ CopyAt wr (w.heap.size + 3) (.slice A1 t.q.nw c1) (.slice A2 t.q.nf c2) t.q ∧ wr.ownsRow (w.heap.size + 3) 3 1 (.slice (some ⟨go, 0, none⟩) t.no c3) t.no (intL t.old t.no) ∧ wr.ownsRow (w.heap.size + 3) 3 1 (.slice (some ⟨gp, 0, none⟩) t.np c4) t.np (intL t.pence t.np) ∧ Below (w.heap.size + 2) ((w.alloc (.cells #[.int .i64 t.q.wells, .slice Aw t.q.nw cw, .slice Af t.q.nf cf, .slice Ao t.no co, .slice Ap t.np cp, .slice As t.ns cs, .int .i64 t.far, .int .i64 t.harm, .int .i64 t.many] 62)).alloc (.cells #[.int .i64 0, .slice none 0 0, .slice none 0 0, .slice none 0 0, .slice none 0 0, .slice none 0 0, .int .i64 0, .int .i64 0, .int .i64 0] 62)) wr) (fun s _ => t.ns - (intOf s).toNat)
  case atStart => exact ⟨0, .slice none 0 0, [], Nat.zero_le _, rfl, HT6.out, World.ownsRow_nil _ _ _ _, SpRows.nil, by simp, HQ6.out, HO6.out, HP6.out, HB6.out⟩
  case round =>
    obtain ⟨k, V, us, hk, rfl, hbx, hown, hrows, hsz5, hqq, hoo, hpp, hbel⟩ := hrel
    have HX := Lib.hid hbx
    have HV := Lib.hid hown
    have HR := Lib.hid hrows
    have HQ := Lib.hid hqq
    have HO := Lib.hid hoo
    have HP := Lib.hid hpp
    have HL := Lib.hid hbel
    have hbw : Below w.heap.size w wr := bTrans HB.out (by simpa using hbel)
    have HW := Lib.hid hbw
    have HXW := Lib.hid (hSpots.out.mono (show Below ((w.alloc (.cells #[.int .i64 t.q.wells, .slice Aw t.q.nw cw, .slice Af t.q.nf cf, .slice Ao t.no co, .slice Ap t.np cp, .slice As t.ns cs, .int .i64 t.far, .int .i64 t.harm, .int .i64 t.many] 62)).alloc (.cells #[.int .i64 0, .slice none 0 0, .slice none 0 0, .slice none 0 0, .slice none 0 0, .slice none 0 0, .int .i64 0, .int .i64 0, .int .i64 0] 62)).heap.size _ wr by simpa using hbel))
    have p0 := (hbel.cell (p := ⟨w.heap.size, 5, none⟩) (by show w.heap.size < w.heap.size + 2; omega)).trans (show _ = some (.slice As t.ns cs) by simp [go_sem])
    have q1 : wr.cell? ⟨w.heap.size + 2, 5, none⟩ = some V := hbx.cell 5
    have q2 := hbx.frozen 5
    have hz : w.heap.size + 2 < wr.heap.size := hbx.lt
    have hy : w.heap.size < wr.heap.size := by omega
    clear hbx hown hrows hqq hoo hpp hbel hbw
    by_cases hlt : k < t.ns
    · obtain ⟨b, o, Ar, Ar2, Ax, cr, cr2, cx, hA, hlb, hsh, hrw, _, i0, i1, i2, i3, i4, i5, i6⟩ := spots_at HXW.out hlt
      subst hA
      obtain ⟨y, hy'⟩ : ∃ y, t.spot k = y := ⟨_, rfl⟩
      rw [hy'] at hsh hrw i0 i1 i2 i3 i4 i5 i6
      have HYE := Lib.hid hy'
      have HYF := Lib.hid (show y.Fits by have := HF.out.spot k hlt; rw [hy'] at this; exact this)
      have HSH := Lib.hid hsh
      have HRW := Lib.hid hrw
      have k1 : (k : Int) < (t.ns : Int) := by omega
      have k0 : (0 : Int) ≤ (k : Int) := by omega
      have HN := Lib.hid (show (k + 1) * 104 ≤ 140737488351232 by have := HF.out.ns; omega)
      clear hsh hrw hy'
      go_wp2_with fail
      refine wp_region_pin 9 [.const (.pointer (some ⟨w.heap.size + 2, 5, none⟩)), .const V, .const (.pointer (some ⟨w.heap.size, 5, none⟩)), .const (.slice (some ⟨b, o, none⟩) t.ns cs), .const (.int .i64 k), .const (.pointer (some ⟨b, o + k * 7, none⟩)), .const (.agg #[.int .i64 y.at_, .slice Ar y.sh.nr cr, .slice Ar2 y.sh.nf cr2, .int .i64 y.sh.deep, .int .i64 y.sh.haul, .int .i64 y.sh.rest, .slice Ax y.fl.n cx]), .held (cp9S y) (cp9R y), .held one1 (spIn y)]
        [.pointer (some ⟨w.heap.size + 2, 5, none⟩)] (by kernel_rfl) (by kernel_rfl) rfl ⟨trivial, trivial, trivial, trivial, trivial, trivial, trivial, cp9G, spInG, trivial⟩ (crossAll_no _ _ _ _ trivial) rfl rfl (fun j u hj => ?_) ?_
      · match j, hj with
        | 0, hj =>
          obtain rfl : Value.pointer (some ⟨w.heap.size + 2, 5, none⟩) = u := by simpa using hj
          exact ⟨_, rfl, rfl, fun w' => by go_simp⟩
      iterate 7 refine wpStir_const (by go_simp) ?_
      simp only [Act.put, List.setIfInBounds_toArray, List.set_cons_succ, List.set_cons_zero]
      refine wpStir_held rfl (fun w' hb hd => ?_) (fun v hv => ?_)
      · clear hd
        have hcw := Lib.hid (copySpot_any Ar Ar2 Ax cr cr2 cx y w' HYF.out (HSH.out.mono hb) (HRW.out.mono hb))
        go_simp
        refine hcw.out.mono ?_
        rintro e w'' ⟨hso, hb'⟩
        obtain ⟨l, rfl, hl⟩ := hso.spk
        have hl2 := hl
        obtain ⟨_, _, _, _, u, rfl, _, _, hu⟩ := hl2
        obtain ⟨_, _, _, rfl, _⟩ := hu
        refine ⟨_, rfl, hb', ⟨_, _, _, _, _, _, rfl⟩, fun l' e => ?_⟩
        obtain rfl : _ = l' := by
          have := Value.agg.inj e
          exact congrArg Array.toList this
        exact hl
      obtain ⟨Br, Br2, Bx, dr, dr2, dx, rfl⟩ := hv
      refine wpStir_held rfl (fun w' hb hd => ?_) (fun v hv => ?_)
      · have h1 : SpK w' _ y := hd.1 (by kernel_rfl) _ rfl
        clear hd
        go_simp
        refine ⟨bAlloc (Below.refl _ _) _, ⟨_, rfl⟩, fun b' hb' => ?_⟩
        obtain rfl : w'.heap.size = b' := by simpa using hb'
        have h2 := h1.mono (bAlloc (Below.refl _ _) (.cells #[.int .i64 y.at_, .slice Br y.sh.nr dr, .slice Br2 y.sh.nf dr2, .int .i64 y.sh.deep, .int .i64 y.sh.haul, .int .i64 y.sh.rest, .slice Bx y.fl.n dx] 71))
        refine ⟨_, ?_, h2⟩
        intro j u hj
        exact ((TBox.new w' #[.int .i64 y.at_, .slice Br y.sh.nr dr, .slice Br2 y.sh.nf dr2, .int .i64 y.sh.deep, .int .i64 y.sh.haul, .int .i64 y.sh.rest, .slice Bx y.fl.n dx] 71).cell j).trans (by simpa using hj)
      obtain ⟨b9, rfl⟩ := hv
      simp only [Act.put, List.setIfInBounds_toArray, List.set_cons_succ, List.set_cons_zero]
      refine wpStir_end (fun w9 hb9 hd => ?_)
      obtain ⟨l, h4, h5⟩ := hd.1 b9 rfl
      clear hd
      have HX9 := Lib.hid (HX.out.mono hb9)
      have HV9 := Lib.hid (owns_below HV.out hb9)
      have HR9 := Lib.hid (HR.out.mono hb9)
      have HQ9 := Lib.hid (HQ.out.mono hb9)
      have HO9 := Lib.hid (owns_below HO.out hb9)
      have HP9 := Lib.hid (owns_below HP.out hb9)
      have HK9 := Lib.hid h5
      have HL9 := Lib.hid (HL.out.trans (hb9.mono (by have := HX.out.lt; omega)))
      refine stir_own (Operand.tmp 29) (Operand.tmp 36) 60 rfl w5.heap.size 71 (.agg #[.int .i64 0, .slice none 0 0, .slice none 0 0, .int .i64 0, .int .i64 0, .int .i64 0, .slice none 0 0]) 7 104 infoSpot Tryz.underlying60 rfl (by decide) V k us rfl HV9.out ⟨b9, 0, none⟩ 1 1 l rfl (by rw [h5.len]) (fun j u hj => by rw [add_none, Nat.zero_add]; exact h4 j u hj) h5.one (by unfold maxLen; have := HN.out; omega) (by have := HN.out; omega) (by have := hb9.size; omega) (fun v' w10 hown10 hg10 => ?_)
      obtain ⟨A6, c6, rfl, _⟩ := RowK.own hown10
      have hnb : some (w.heap.size + 2) ≠ V.ownBlock := fun e => by have := HV9.out.lt _ e.symm; omega
      have HX10 := Lib.hid (HX9.out.grown hg10 hnb)
      have hk10 : Kept [3, 34, 190] w9 w10 := Kept.of_own hg10 HV9.out (by decide)
      have HR10 := Lib.hid (HR9.out.kept hk10 (by simp) (by simp) (by simp))
      have HK10 := Lib.hid (HK9.out.kept hk10 (by simp) (by simp) (by simp))
      have HQ10 := Lib.hid (HQ9.out.grown HLW.out HLF.out HV9.out hg10)
      have HO10 := Lib.hid (keep_apart HO9.out HLO.out HV9.out hg10)
      have HP10 := Lib.hid (keep_apart HP9.out HLP.out HV9.out hg10)
      have HL10 := Lib.hid (HL9.out.grown hg10 (by have := HX9.out.lt; omega) (fun q hq => by have := (HV9.out.lt q hq).1; omega))
      have HV10 := Lib.hid hown10
      have hz10 : w5.heap.size ≤ w10.heap.size := by have := hg10.size; have := hb9.size; omega
      have r1 : w10.cell? ⟨w.heap.size + 2, 5, none⟩ = some V := HX10.out.cell 5
      have r2 := HX10.out.frozen 5
      clear hown10 hg10 h4 h5 hb9 p0 q1 q2 i0 i1 i2 i3 i4 i5 i6 hnb hk10
      simp only [putF, Act.put, List.setIfInBounds_toArray, List.set_cons_succ, List.set_cons_zero, List.drop_succ_cons, List.drop_zero]
      go_wp2_with fail
      go_roundw
      case rel =>
        have hk11 : Kept [3, 34, 190] w10 (w10.setCell ⟨w.heap.size + 2, 5, none⟩ (.slice A6 (k + 1) c6)) := Kept.set HX10.out (by decide) 5 _
        have hs11 : SpRows (w10.setCell ⟨w.heap.size + 2, 5, none⟩ (.slice A6 (k + 1) c6)) t.spot (k + 1) (us ++ l) := (HR10.out.kept hk11 (by simp) (by simp) (by simp)).snoc (by rw [HYE.out]; exact HK10.out.kept hk11 (by simp) (by simp) (by simp))
        refine ⟨k + 1, .slice A6 (k + 1) c6, _, by omega, ?_, HX10.out.set 5 (.slice A6 (k + 1) c6), owns_set HV10.out (by omega) 5 (.slice A6 (k + 1) c6), hs11, by simpa using hz10, HQ10.out.setTy ⟨_, HX10.out⟩ 5 _, owns_setT HO10.out HX10.out (by decide) 5 _, owns_setT HP10.out HX10.out (by decide) 5 _, HL10.out.setCell (p := ⟨w.heap.size + 2, 5, none⟩) (Nat.le_refl _) (.slice A6 (k + 1) c6)⟩
        go_num
      case measure => simp [intOf]; omega
    · obtain rfl : k = t.ns := by omega
      obtain ⟨A6, c6, rfl, _⟩ := RowK.own HV.out
      have q10 : wr.cell? ⟨w.heap.size + 2, 0, none⟩ = some (.int .i64 t.q.wells) := HX.out.cell 0
      have q11 : wr.cell? ⟨w.heap.size + 2, 1, none⟩ = some (.slice A1 t.q.nw c1) := HX.out.cell 1
      have q12 : wr.cell? ⟨w.heap.size + 2, 2, none⟩ = some (.slice A2 t.q.nf c2) := HX.out.cell 2
      have q13 : wr.cell? ⟨w.heap.size + 2, 3, none⟩ = some (.slice (some ⟨go, 0, none⟩) t.no c3) := HX.out.cell 3
      have q14 : wr.cell? ⟨w.heap.size + 2, 4, none⟩ = some (.slice (some ⟨gp, 0, none⟩) t.np c4) := HX.out.cell 4
      have q15 : wr.cell? ⟨w.heap.size + 2, 5, none⟩ = some (.slice A6 t.ns c6) := HX.out.cell 5
      have q16 : wr.cell? ⟨w.heap.size + 2, 6, none⟩ = some (.int .i64 t.far) := HX.out.cell 6
      have q17 : wr.cell? ⟨w.heap.size + 2, 7, none⟩ = some (.int .i64 t.harm) := HX.out.cell 7
      have q18 : wr.cell? ⟨w.heap.size + 2, 8, none⟩ = some (.int .i64 t.many) := HX.out.cell 8
      have hTR : TBox wr (w.heap.size + 1) 62 #[.int .i64 0, .slice none 0 0, .slice none 0 0, .slice none 0 0, .slice none 0 0, .slice none 0 0, .int .i64 0, .int .i64 0, .int .i64 0] := (HL.out.block (w.heap.size + 1) (by omega)).trans (by have := HTR.out; simpa [TBox] using this)
      have HTR9 := Lib.hid hTR
      have s0 : wr.cell? ⟨w.heap.size + 1, 0, none⟩ = some (.int .i64 0) := hTR.cell 0
      have f0 := hTR.frozen 0
      have s1 : wr.cell? ⟨w.heap.size + 1, 1, none⟩ = some (.slice none 0 0) := hTR.cell 1
      have f1 := hTR.frozen 1
      have s2 : wr.cell? ⟨w.heap.size + 1, 2, none⟩ = some (.slice none 0 0) := hTR.cell 2
      have f2 := hTR.frozen 2
      have s3 : wr.cell? ⟨w.heap.size + 1, 3, none⟩ = some (.slice none 0 0) := hTR.cell 3
      have f3 := hTR.frozen 3
      have s4 : wr.cell? ⟨w.heap.size + 1, 4, none⟩ = some (.slice none 0 0) := hTR.cell 4
      have f4 := hTR.frozen 4
      have s5 : wr.cell? ⟨w.heap.size + 1, 5, none⟩ = some (.slice none 0 0) := hTR.cell 5
      have f5 := hTR.frozen 5
      have s6 : wr.cell? ⟨w.heap.size + 1, 6, none⟩ = some (.int .i64 0) := hTR.cell 6
      have f6 := hTR.frozen 6
      have s7 : wr.cell? ⟨w.heap.size + 1, 7, none⟩ = some (.int .i64 0) := hTR.cell 7
      have f7 := hTR.frozen 7
      have s8 : wr.cell? ⟨w.heap.size + 1, 8, none⟩ = some (.int .i64 0) := hTR.cell 8
      have f8 := hTR.frozen 8
      have hy1 : w.heap.size + 1 < wr.heap.size := hTR.lt
      clear hTR
      go_wp2_with fail
      have hT0 := HTR9.out.set 0 (.int .i64 t.q.wells)
      have hT1 := hT0.set 1 (.slice A1 t.q.nw c1)
      have hT2 := hT1.set 2 (.slice A2 t.q.nf c2)
      have hT3 := hT2.set 3 (.slice (some ⟨go, 0, none⟩) t.no c3)
      have hT4 := hT3.set 4 (.slice (some ⟨gp, 0, none⟩) t.np c4)
      have hT5 := hT4.set 5 (.slice A6 t.ns c6)
      have hT6 := hT5.set 6 (.int .i64 t.far)
      have hT7 := hT6.set 7 (.int .i64 t.harm)
      have ty : ∃ cs, TBox wr (w.heap.size + 1) 62 cs := ⟨_, HTR9.out⟩
      refine bodyPost_ret (v := .agg #[.int .i64 t.q.wells, .slice A1 t.q.nw c1, .slice A2 t.q.nf c2, .slice (some ⟨go, 0, none⟩) t.no c3, .slice (some ⟨gp, 0, none⟩) t.np c4, .slice A6 t.ns c6, .int .i64 t.far, .int .i64 t.harm, .int .i64 t.many]) (by simp [results, Tryz.results25, go_sem, *]) rfl ⟨⟨_, _, _, _, _, rfl, ⟨?_, ?_, ?_, us, ?_, HR.out.kept ((show Kept [3, 34, 190] wr _ from (Kept.trans (Kept.trans (Kept.trans (Kept.trans (Kept.trans (Kept.trans (Kept.trans (Kept.trans (Kept.set HTR9.out (by decide) 0 _) (Kept.set hT0 (by decide) 1 _)) (Kept.set hT1 (by decide) 2 _)) (Kept.set hT2 (by decide) 3 _)) (Kept.set hT3 (by decide) 4 _)) (Kept.set hT4 (by decide) 5 _)) (Kept.set hT5 (by decide) 6 _)) (Kept.set hT6 (by decide) 7 _)) (Kept.set hT7 (by decide) 8 _)))) (by simp) (by simp) (by simp)⟩⟩, ?_⟩
      · refine CopyAt.lower (base := w.heap.size + 3) ?_ (by omega)
        have h := HQ.out
        repeat with_reducible refine CopyAt.setTy ?_ ?_ _ _
        with_reducible exact h
        all_goals repeat (first | with_reducible refine TyB.set ?_ _ _ _ | with_reducible exact ty)
      · refine owns_lower (base := w.heap.size + 3) ?_ (by omega)
        have h := HO.out
        repeat with_reducible refine owns_setTy (t := 62) ?_ ?_ (by decide) _ _
        with_reducible exact h
        all_goals repeat (first | with_reducible refine TyB.set ?_ _ _ _ | with_reducible exact ty)
      · refine owns_lower (base := w.heap.size + 3) ?_ (by omega)
        have h := HP.out
        repeat with_reducible refine owns_setTy (t := 62) ?_ ?_ (by decide) _ _
        with_reducible exact h
        all_goals repeat (first | with_reducible refine TyB.set ?_ _ _ _ | with_reducible exact ty)
      · refine owns_lower (base := w5.heap.size) ?_ (by omega)
        have h := HV.out
        repeat with_reducible refine owns_setTy (t := 62) ?_ ?_ (by decide) _ _
        with_reducible exact h
        all_goals repeat (first | with_reducible refine TyB.set ?_ _ _ _ | with_reducible exact ty)
      · exact (Below.setCell (p := ⟨w.heap.size + 1, 8, none⟩) (Below.setCell (p := ⟨w.heap.size + 1, 7, none⟩) (Below.setCell (p := ⟨w.heap.size + 1, 6, none⟩) (Below.setCell (p := ⟨w.heap.size + 1, 5, none⟩) (Below.setCell (p := ⟨w.heap.size + 1, 4, none⟩) (Below.setCell (p := ⟨w.heap.size + 1, 3, none⟩) (Below.setCell (p := ⟨w.heap.size + 1, 2, none⟩) (Below.setCell (p := ⟨w.heap.size + 1, 1, none⟩) (Below.setCell (p := ⟨w.heap.size + 1, 0, none⟩) HW.out (by simp) (.int .i64 t.q.wells)) (by simp) (.slice A1 t.q.nw c1)) (by simp) (.slice A2 t.q.nf c2)) (by simp) (.slice (some ⟨go, 0, none⟩) t.no c3)) (by simp) (.slice (some ⟨gp, 0, none⟩) t.np c4)) (by simp) (.slice A6 t.ns c6)) (by simp) (.int .i64 t.far)) (by simp) (.int .i64 t.harm)) (by simp) (.int .i64 t.many))
end Go.Proofs.YthnojgdckkdcgaaGreatDoor

namespace Go.Proofs.YthnojgdckkdcgaaGreatDoor
open Go.RowKit Go.Sort
theorem neqFact (w : World) (a b c d e : Int) : (binOp .neq 27 (.agg #[.int .i64 a, .int .i64 b, .int .i64 c, .int .i64 d, .int .i64 e]) (.agg #[.int .i64 a, .int .i64 b, .int .i64 c, .int .i64 d, .int .i64 e])).run Tryz.prog w = .ok (.bool false) w := by
  simp [go_sem]
attribute [local go_sem] neqFact
end Go.Proofs.YthnojgdckkdcgaaGreatDoor

namespace Go.Proofs.YthnojgdckkdcgaaGreatDoor
open Go.RowKit Go.Sort
theorem neqRock9 (w : World) (a b c d : Int) : (binOp .neq 190 (.agg #[.int .i64 a, .int .i64 b, .int .i64 c, .int .i64 d]) (.agg #[.int .i64 a, .int .i64 b, .int .i64 c, .int .i64 d])).run Tryz.prog w = .ok (.bool false) w := by
  simp [go_sem]
attribute [local go_sem ↓] neqRock9
end Go.Proofs.YthnojgdckkdcgaaGreatDoor

namespace Go.Proofs.YthnojgdckkdcgaaGreatDoor
open Go.RowKit Go.Sort
section
variable {w : World} {b : Nat} {t : TypeId}
theorem TBox.c1 {x : Value} (h : TBox w b t #[x]) : w.cell? ⟨b, 0, none⟩ = some x ∧ b < w.heap.size := ⟨h.cell 0, h.lt⟩
theorem TBox.c2 {x y : Value} (h : TBox w b t #[x, y]) : w.cell? ⟨b, 0, none⟩ = some x ∧ w.cell? ⟨b, 1, none⟩ = some y ∧ b < w.heap.size := ⟨h.cell 0, h.cell 1, h.lt⟩
theorem TBox.c3 {x y z : Value} (h : TBox w b t #[x, y, z]) : w.cell? ⟨b, 0, none⟩ = some x ∧ w.cell? ⟨b, 1, none⟩ = some y ∧ w.cell? ⟨b, 2, none⟩ = some z ∧ b < w.heap.size := ⟨h.cell 0, h.cell 1, h.cell 2, h.lt⟩
theorem TBox.c5 {x y z u v : Value} (h : TBox w b t #[x, y, z, u, v]) : w.cell? ⟨b, 0, none⟩ = some x ∧ w.cell? ⟨b, 1, none⟩ = some y ∧ w.cell? ⟨b, 2, none⟩ = some z ∧ w.cell? ⟨b, 3, none⟩ = some u ∧ w.cell? ⟨b, 4, none⟩ = some v ∧ b < w.heap.size := ⟨h.cell 0, h.cell 1, h.cell 2, h.cell 3, h.cell 4, h.lt⟩
end
theorem wpList_skip {P : Program} {ops : Array Oper} {Q : Exit → Act → World → Prop} {rest : List Oper} {o : Oper} {a : Act} {w w'' : World} (hg : o.guard = none) (hd : o.dst = none) (hrun : (execOp a.eval o).run P w = .ok .skip w'') (h : wpList P ops Q rest a w'') : wpList P ops Q (o :: rest) a w := by
  simp only [wpList]
  have hw : Region.wanted o (yielded ops a.tmps) = true := by unfold Region.wanted; rw [hg]
  rw [if_pos hw]
  refine .inl ?_
  unfold Oper.wp
  rw [hrun]
  simp only [Oper.upon]
  rw [hd]
  exact h
def Upto (w0 w : World) : Prop := Below w0.heap.size w0 w
theorem Upto.mono {w0 w w' : World} (h : Upto w0 w) (hb : Below w.heap.size w w') : Upto w0 w' := bTrans h hb
end Go.Proofs.YthnojgdckkdcgaaGreatDoor

namespace Go.Proofs.YthnojgdckkdcgaaGreatDoor
open Go.RowKit Go.Sort
section
variable {w : World} {b : Nat} {t : TypeId}
theorem TBox.c7 {x0 x1 x2 x3 x4 x5 x6 : Value} (h : TBox w b t #[x0, x1, x2, x3, x4, x5, x6]) : w.cell? ⟨b, 0, none⟩ = some x0 ∧ w.cell? ⟨b, 1, none⟩ = some x1 ∧ w.cell? ⟨b, 2, none⟩ = some x2 ∧ w.cell? ⟨b, 3, none⟩ = some x3 ∧ w.cell? ⟨b, 4, none⟩ = some x4 ∧ w.cell? ⟨b, 5, none⟩ = some x5 ∧ w.cell? ⟨b, 6, none⟩ = some x6 ∧ b < w.heap.size := ⟨h.cell 0, h.cell 1, h.cell 2, h.cell 3, h.cell 4, h.cell 5, h.cell 6, h.lt⟩
theorem TBox.c9 {x0 x1 x2 x3 x4 x5 x6 x7 x8 : Value} (h : TBox w b t #[x0, x1, x2, x3, x4, x5, x6, x7, x8]) : w.cell? ⟨b, 0, none⟩ = some x0 ∧ w.cell? ⟨b, 1, none⟩ = some x1 ∧ w.cell? ⟨b, 2, none⟩ = some x2 ∧ w.cell? ⟨b, 3, none⟩ = some x3 ∧ w.cell? ⟨b, 4, none⟩ = some x4 ∧ w.cell? ⟨b, 5, none⟩ = some x5 ∧ w.cell? ⟨b, 6, none⟩ = some x6 ∧ w.cell? ⟨b, 7, none⟩ = some x7 ∧ w.cell? ⟨b, 8, none⟩ = some x8 ∧ b < w.heap.size := ⟨h.cell 0, h.cell 1, h.cell 2, h.cell 3, h.cell 4, h.cell 5, h.cell 6, h.cell 7, h.cell 8, h.lt⟩
theorem TBox.c10 {x0 x1 x2 x3 x4 x5 x6 x7 x8 x9 : Value} (h : TBox w b t #[x0, x1, x2, x3, x4, x5, x6, x7, x8, x9]) : w.cell? ⟨b, 0, none⟩ = some x0 ∧ w.cell? ⟨b, 1, none⟩ = some x1 ∧ w.cell? ⟨b, 2, none⟩ = some x2 ∧ w.cell? ⟨b, 3, none⟩ = some x3 ∧ w.cell? ⟨b, 4, none⟩ = some x4 ∧ w.cell? ⟨b, 5, none⟩ = some x5 ∧ w.cell? ⟨b, 6, none⟩ = some x6 ∧ w.cell? ⟨b, 7, none⟩ = some x7 ∧ w.cell? ⟨b, 8, none⟩ = some x8 ∧ w.cell? ⟨b, 9, none⟩ = some x9 ∧ b < w.heap.size := ⟨h.cell 0, h.cell 1, h.cell 2, h.cell 3, h.cell 4, h.cell 5, h.cell 6, h.cell 7, h.cell 8, h.cell 9, h.lt⟩
end
end Go.Proofs.YthnojgdckkdcgaaGreatDoor

namespace Go.Proofs.YthnojgdckkdcgaaGreatDoor
open Go.RowKit Go.Sort
end Go.Proofs.YthnojgdckkdcgaaGreatDoor

namespace Go.Proofs.YthnojgdckkdcgaaGreatDoor
open Go.RowKit Go.Sort
set_option maxHeartbeats 4000000 in
set_option maxRecDepth 100000 in
theorem index_spot (A : Option Addr) (n c f : Nat) (cs : Array Value) (g : Nat → Spot) (p : Nat → Bool) (w : World) (hn : n ≤ 9223372036854775807) (hr : SpotsAt w A n g) (hcf : Enters f)
    (hf : ∀ i, i < n → ∀ w', Below w.heap.size w w' → ∀ (Ar Af Aw : Option Addr) (cr cf cw : Nat), ShAt w' Ar Af (g i).sh → RowsAt w' Aw (g i).fl → Calls Tryz.prog f (#[.agg #[.int .i64 (g i).at_, .slice Ar (g i).sh.nr cr, .slice Af (g i).sh.nf cf, .int .i64 (g i).sh.deep, .int .i64 (g i).sh.haul, .int .i64 (g i).sh.rest, .slice Aw (g i).fl.n cw]] ++ cs) w' fun e w'' => e = .returned (.bool (p i)) ∧ Below w'.heap.size w' w'') :
    Calls Tryz.prog 191 #[.slice A n c, .func (.func f) #[] cs] w (Found (anyB p n) w) := by
  have HC := Lib.hid hr
  have HF := Lib.hid hf
  unfold Enters at hcf
  clear hr hf
  go_enter Tryz.func191, Tryz.ntmps191
  go_wp2_with fail
  go_loopw [5, 8] (fun _ i wr => ∃ k : Nat, k ≤ n ∧ i = .int .i64 k ∧ anyB p k = false ∧ Below w.heap.size w wr) (fun _ i _ => n - (intOf i).toNat)
  case atStart => exact ⟨0, Nat.zero_le _, rfl, rfl, Below.refl _ _⟩
  case round =>
    obtain ⟨k, hk, rfl, hno, hbel⟩ := hrel
    have HN := Lib.hid hno
    have HL := Lib.hid hbel
    clear hno
    by_cases hlt : k < n
    · rcases HC.out with h0 | ⟨b, o, hA, hb, hcell⟩
      · omega
      obtain ⟨Ar, Af, Aw, cr, cf, cw, hsh, hfl, c0, c1, c2, c3, c4, c5, c6⟩ := hcell k hlt
      have HK := Lib.hid hlt
      obtain ⟨bk, hbk⟩ : ∃ bk, p k = bk := ⟨_, rfl⟩
      have HCC := Lib.hid (hbk ▸ HF.out k HK.out _ hbel Ar Af Aw cr cf cw (hsh.mono hbel) (hfl.mono hbel) : Calls Tryz.prog f (#[.agg #[.int .i64 (g k).at_, .slice Ar (g k).sh.nr cr, .slice Af (g k).sh.nf cf, .int .i64 (g k).sh.deep, .int .i64 (g k).sh.haul, .int .i64 (g k).sh.rest, .slice Aw (g k).fl.n cw]] ++ cs) wr fun e w'' => e = .returned (.bool bk) ∧ Below wr.heap.size wr w'')
      have HBK := Lib.hid hbk
      clear hbk hcell hsh hfl
      subst hA
      obtain ⟨bc, bf⟩ := bcell hbel
      go_wp2_with fail
      refine HCC.out.mono ?_
      rintro e w4 ⟨rfl, hb4⟩
      have HL4 := Lib.hid (bTrans HL.out hb4)
      clear hb4 hbel
      cases bk
      · go_wp2_with fail
        go_roundw
        case rel => exact ⟨k + 1, by omega, by go_num, anyB_step HN.out HBK.out, HL4.out⟩
        case measure => simp [intOf]; omega
      · go_wp2_with fail
        go_ret
        exact ⟨k, rfl, by rw [anyB_hit HK.out HBK.out]; simp, HL4.out⟩
    · obtain rfl : k = n := by omega
      go_wp2_with fail
      go_ret
      exact ⟨-1, rfl, by simp [HN.out], hbel⟩
theorem contains_spot (A : Option Addr) (n c f : Nat) (cs : Array Value) (g : Nat → Spot) (p : Nat → Bool) (w : World) (hn : n ≤ 9223372036854775807) (hr : SpotsAt w A n g) (hcf : Enters f)
    (hf : ∀ i, i < n → ∀ w', Below w.heap.size w w' → ∀ (Ar Af Aw : Option Addr) (cr cf cw : Nat), ShAt w' Ar Af (g i).sh → RowsAt w' Aw (g i).fl → Calls Tryz.prog f (#[.agg #[.int .i64 (g i).at_, .slice Ar (g i).sh.nr cr, .slice Af (g i).sh.nf cf, .int .i64 (g i).sh.deep, .int .i64 (g i).sh.haul, .int .i64 (g i).sh.rest, .slice Aw (g i).fl.n cw]] ++ cs) w' fun e w'' => e = .returned (.bool (p i)) ∧ Below w'.heap.size w' w'') :
    Calls Tryz.prog 164 #[.slice A n c, .func (.func f) #[] cs] w fun e w' => e = .returned (.bool (anyB p n)) ∧ Below w.heap.size w w' := by
  go_enter Tryz.func164, Tryz.ntmps164
  go_wp2_with (go_at_call 191; refine (index_spot A n c f cs g p _ hn hr hcf hf).mono ?_; rintro e w' ⟨k, rfl, hk, hb⟩; have HK := Lib.hid hk; clear hk)
  all_goals
    go_ret
    exact ⟨ret_bool (by rw [← HK.out]), hb⟩
end Go.Proofs.YthnojgdckkdcgaaGreatDoor

