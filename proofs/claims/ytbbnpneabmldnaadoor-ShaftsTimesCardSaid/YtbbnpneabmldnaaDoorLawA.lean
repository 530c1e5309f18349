/- Walk: Copy (reference): an equal shaft in new memory. Condition: at most 1000 of anything. -/
import Derived.Test.YtbbnpneabmldnaaDoorCellRows
import Derived.Test.YtbbnpneabmldnaaDoorWalkZc
namespace Go.Proofs.YtbbnpneabmldnaaDoor
open Go.RowKit Go.Sort
theorem infoRock : (Tryd.prog.info? 46).map (fun i => (i.zero, i.size, i.bytes)) = some (some (.agg #[.int .i64 0, .int .i64 0, .int .i64 0, .int .i64 0]), 4, 32) := by kernel_rfl
/-- what Copy hands back -/
def Copied (base : Nat) (w' : World) (S : Sh) (e : Ending) : Prop :=
  ∃ Ar Af cr cf, e = .returned (.agg #[.slice Ar S.nr cr, .slice Af S.nf cf, .int .i64 S.deep, .int .i64 S.haul, .int .i64 S.rest]) ∧ ShAt w' Ar Af S ∧ Fresh w' base Ar S.nr cr ∧ Fresh w' base Af S.nf cf
def emptyS (v : Value) : Prop := ∃ b, v = .slice (some ⟨b, 0, none⟩) 0 0
def emptyR (base : Nat) (_ : World) (v : Value) : Prop := ∃ b, v = .slice (some ⟨b, 0, none⟩) 0 0 ∧ base ≤ b
def copyS (n : Nat) (v : Value) : Prop := ∃ A c, v = .slice A n c
def copyR (base n : Nat) (L : List Value) (w : World) (v : Value) : Prop := ∃ A c, v = .slice A n c ∧ RowAt w A L ∧ Fresh w base A n c
theorem copyR_get {base n : Nat} {L : List Value} {w : World} {A : Option Addr} {c : Nat} (h : copyR base n L w (.slice A n c)) : RowAt w A L ∧ Fresh w base A n c := by
  obtain ⟨A', c', e, h1, h2⟩ := h
  injection e with e1 _ e2
  subst e1 e2
  exact ⟨h1, h2⟩
theorem emptyR_get {base b : Nat} {w : World} (h : emptyR base w (.slice (some ⟨b, 0, none⟩) 0 0)) : base ≤ b := by
  obtain ⟨b', e, h⟩ := h
  injection e with e
  injection e with e
  injection e with e
  subst e
  exact h
theorem emptyG (base : Nat) : (Held.held emptyS (emptyR base)).good := ⟨⟨_, 0, rfl⟩, fun _ _ _ _ h => h⟩
theorem copyG (base n : Nat) (L : List Value) : (Held.held (copyS n) (copyR base n L)).good :=
  ⟨⟨_, none, 0, rfl⟩, fun _ _ _ hb ⟨A, c, e, h1, h2⟩ => ⟨A, c, e, h1.mono hb, h2.mono hb⟩⟩
theorem copied_above {base base' : Nat} {w' w'' : World} {S : Sh} {Ar Af : Option Addr} {cr cf : Nat} (h : ShAt w' Ar Af S) (h1 : Fresh w' base' Ar S.nr cr) (h2 : Fresh w' base' Af S.nf cf) (hb : base ≤ base') (ha : Above base' w' w'') :
    ShAt w'' Ar Af S ∧ Fresh w'' base Ar S.nr cr ∧ Fresh w'' base Af S.nf cf :=
  ⟨⟨rocksAt_row.2 ((rocksAt_row.1 h.rocks).above ha h1.at_), intsAt_row.2 ((intsAt_row.1 h.feet).above ha h2.at_)⟩, (h1.above ha).base hb, (h2.above ha).base hb⟩
set_option maxHeartbeats 4000000 in
set_option maxRecDepth 100000 in
theorem Copy_any (Ar Af : Option Addr) (cr cf : Nat) (S : Sh) (w : World) (hr : S.nr ≤ 1000) (hf : S.nf ≤ 1000) (hS : ShAt w Ar Af S) :
    Calls Tryd.prog 17 #[.agg #[.slice Ar S.nr cr, .slice Af S.nf cf, .int .i64 S.deep, .int .i64 S.haul, .int .i64 S.rest]] w fun e w' => Copied w.heap.size w' S e ∧ Below w.heap.size w w' := by
  have HS0 := Lib.hid hS
  clear hS
  go_enter Tryd.func17, Tryd.ntmps17
  go_wp2_with fail
  have hbW : Below w.heap.size w (((w.alloc (.cells #[.slice Ar S.nr cr, .slice Af S.nf cf, .int .i64 S.deep, .int .i64 S.haul, .int .i64 S.rest] 25)).alloc (.cells #[.slice none 0 0, .slice none 0 0, .int .i64 0, .int .i64 0, .int .i64 0] 25)).alloc (.cells #[.slice Ar S.nr cr, .slice Af S.nf cf, .int .i64 S.deep, .int .i64 S.haul, .int .i64 S.rest] 25)) := by (repeat (first | (with_reducible exact Below.refl _ _) | (with_reducible refine bAlloc ?_ _) | (with_reducible refine bDrew ?_) | (with_reducible refine bGrow ?_ _ _) | (with_reducible refine bSet ?_ ?_ _; (first | exact Nat.le_refl _ | exact Nat.le_add_right _ _ | (simp; omega))) | (with_reducible refine bTrans ?_ (by assumption))))
  have HBW := Lib.hid hbW
  clear hbW
  have HZ := Lib.hid (fun w' (hb : Below (((w.alloc (.cells #[.slice Ar S.nr cr, .slice Af S.nf cf, .int .i64 S.deep, .int .i64 S.haul, .int .i64 S.rest] 25)).alloc (.cells #[.slice none 0 0, .slice none 0 0, .int .i64 0, .int .i64 0, .int .i64 0] 25)).alloc (.cells #[.slice Ar S.nr cr, .slice Af S.nf cf, .int .i64 S.deep, .int .i64 S.haul, .int .i64 S.rest] 25)).heap.size (((w.alloc (.cells #[.slice Ar S.nr cr, .slice Af S.nf cf, .int .i64 S.deep, .int .i64 S.haul, .int .i64 S.rest] 25)).alloc (.cells #[.slice none 0 0, .slice none 0 0, .int .i64 0, .int .i64 0, .int .i64 0] 25)).alloc (.cells #[.slice Ar S.nr cr, .slice Af S.nf cf, .int .i64 S.deep, .int .i64 S.haul, .int .i64 S.rest] 25)) w') => (show w.heap.size + 3 ≤ w'.heap.size from by have := hb.size; simpa using this))
  refine wp_region_held 9 [.held emptyS (emptyR (w.heap.size + 3)), .const (.pointer (some ⟨w.heap.size, 0, none⟩)), .const (.slice Ar S.nr cr), .held (copyS S.nr) (copyR (w.heap.size + 3) S.nr (rockL S.rock S.nr)),
    .held emptyS (emptyR (w.heap.size + 3)), .const (.pointer (some ⟨w.heap.size, 1, none⟩)), .const (.slice Af S.nf cf), .held (copyS S.nf) (copyR (w.heap.size + 3) S.nf (intL S.foot S.nf)), .const (.pointer (some ⟨w.heap.size + 2, 0, none⟩))]
    (by kernel_rfl) (by kernel_rfl) rfl ⟨emptyG _, trivial, trivial, copyG _ _ _, emptyG _, trivial, trivial, copyG _ _ _, trivial, trivial⟩ ?_
  refine wpHeld_held rfl (fun w' hb hd => ?_) (fun v hv => ?_)
  · go_simp
    exact ⟨bAlloc (Below.refl _ _) _, ⟨_, rfl⟩, _, rfl, HZ.out _ hb⟩
  obtain ⟨b0, rfl⟩ := hv
  refine wpHeld_const (by go_simp) ?_
  refine wpHeld_const (by go_simp) ?_
  refine wpHeld_held rfl (fun w' hb hd => ?_) (fun v hv => ?_)
  · have hbb := emptyR_get (hd.1 (by kernel_rfl))
    exact held_copy_row _ _ _ _ rfl 46 _ 4 32 infoRock Tryd.underlying22 rfl (by decide) ⟨b0, 0, none⟩ Ar S.nr cr (rockL S.rock S.nr) rfl rfl (rockL_len _ _) ((rocksAt_row.1 HS0.out.rocks).mono (bTrans HBW.out hb)) (rockL_one _ _) (by omega) (by decide) (w.heap.size + 3) (HZ.out _ hb) hbb _ (fun A' c' w' h1 h2 => ⟨⟨_, _, rfl⟩, _, _, rfl, h1, h2⟩)
  obtain ⟨A1, c1, rfl⟩ := hv
  refine wpHeld_held rfl (fun w' hb hd => ?_) (fun v hv => ?_)
  · go_simp
    exact ⟨bAlloc (Below.refl _ _) _, ⟨_, rfl⟩, _, rfl, HZ.out _ hb⟩
  obtain ⟨b4, rfl⟩ := hv
  refine wpHeld_const (by go_simp) ?_
  refine wpHeld_const (by go_simp) ?_
  refine wpHeld_held rfl (fun w' hb hd => ?_) (fun v hv => ?_)
  · have hbb := emptyR_get (hd.1 (by kernel_rfl))
    exact held_copy_row _ _ _ _ rfl 3 _ 1 8 infoInt Tryd.underlying23 rfl (by decide) ⟨b4, 0, none⟩ Af S.nf cf (intL S.foot S.nf) rfl rfl (by rw [intL_len]; omega) ((intsAt_row.1 HS0.out.feet).mono (bTrans HBW.out hb)) (intL_one _ _) (by omega) (by decide) (w.heap.size + 3) (HZ.out _ hb) hbb _ (fun A' c' w' h1 h2 => ⟨⟨_, _, rfl⟩, _, _, rfl, h1, h2⟩)
  obtain ⟨A2, c2, rfl⟩ := hv
  refine wpHeld_const (by go_simp) ?_
  refine wpHeld_end (fun w3 hb3 hd => ?_)
  have hbw := bTrans HBW.out hb3
  have hd2 : copyR (w.heap.size + 3) S.nf (intL S.foot S.nf) w3 (.slice A2 S.nf c2) := hd.1
  have hd1 : copyR (w.heap.size + 3) S.nr (rockL S.rock S.nr) w3 (.slice A1 S.nr c1) := hd.2.2.1
  clear hd
  obtain ⟨h2, f2⟩ := copyR_get hd2
  obtain ⟨h1, f1⟩ := copyR_get hd1
  clear hd1 hd2
  have HI := Lib.hid (intsAt_row.2 h2)
  have HR := Lib.hid (rocksAt_row.2 h1)
  have HF1 := Lib.hid f1
  have HF2 := Lib.hid f2
  have HBX := Lib.hid hbw
  obtain ⟨bc, bf⟩ := bcell hb3
  have hz := hb3.size
  simp only [World.size_alloc] at hz
  clear h1 h2 f1 f2 HBW hb3 hbw
  simp only [List.drop_succ_cons, List.drop_zero]
  go_wp2_with fail
  refine bodyPost_ret (v := .agg #[.slice A1 S.nr c1, .slice A2 S.nf c2, .int .i64 S.deep, .int .i64 S.haul, .int .i64 S.rest]) (by simp [results, Tryd.results17, go_sem, *]) rfl ?_
  have hbx := HBX.out
  refine ⟨⟨A1, A2, c1, c2, rfl, ?_⟩, by (repeat (first | (with_reducible exact Below.refl _ _) | (with_reducible refine bAlloc ?_ _) | (with_reducible refine bDrew ?_) | (with_reducible refine bGrow ?_ _ _) | (with_reducible refine bSet ?_ ?_ _; (first | exact Nat.le_refl _ | exact Nat.le_add_right _ _ | (simp; omega))) | (with_reducible refine bTrans ?_ (by assumption))))⟩
  refine copied_above (base' := w.heap.size + 3) (w' := w3) ⟨HR.out, HI.out⟩ HF1.out HF2.out (by omega) ?_
  (repeat (first | (with_reducible exact Above.refl _ _) | (with_reducible refine Above.setCell ?_ ?_ _; (dsimp only; omega)) | (with_reducible refine Above.alloc ?_ _) | (with_reducible refine Above.drew ?_)))
end Go.Proofs.YtbbnpneabmldnaaDoor
