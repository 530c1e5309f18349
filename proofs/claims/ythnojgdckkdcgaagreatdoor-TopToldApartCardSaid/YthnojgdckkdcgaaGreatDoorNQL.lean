/- Parts joined: what all claims of this seat need. -/
import Derived.Test.YthnojgdckkdcgaaGreatDoorNQK
import Derived.Test.YthnojgdckkdcgaaGreatDoorNQA
import Derived.Test.YthnojgdckkdcgaaGreatDoorNQI
import Derived.ArgAppend
import Derived.Test.YthnojgdckkdcgaaGreatDoorNQJ
set_option linter.unusedSimpArgs false
set_option linter.unusedVariables false
namespace Go.Proofs.YthnojgdckkdcgaaGreatDoor
open Go.RowKit Go.Sort
open Classical in
noncomputable def Sh.cheapOut (S : Sh) : Int × Int := if ¬ S.Ok then (0, 20) else if S.waysOf ltP S.nf 0 = noWay then (0, 3) else (sumTo S.price S.nf + (S.waysOf ltP S.nf 0).pence, 0)
theorem cheapOut_bad {S : Sh} (h : ¬ S.Ok) : S.cheapOut = (0, 20) := if_pos h
theorem cheapOut_none {S : Sh} (h : S.Ok) (h2 : S.waysOf ltP S.nf 0 = noWay) : S.cheapOut = (0, 3) := by unfold Sh.cheapOut; rw [if_neg (not_not_intro h), if_pos h2]
theorem cheapOut_some {S : Sh} (h : S.Ok) (h2 : S.waysOf ltP S.nf 0 ≠ noWay) : S.cheapOut = (sumTo S.price S.nf + (S.waysOf ltP S.nf 0).pence, 0) := by unfold Sh.cheapOut; rw [if_neg (not_not_intro h), if_neg h2]
theorem pence_bd {S : Sh} (ok : S.Ok) (lt : Way → Way → Bool) (k : Nat) (hk : k ≤ 12) : 0 ≤ (S.waysOf lt k 0).pence ∧ (S.waysOf lt k 0).pence ≤ 2484 := by
  have := waysOf_in ok lt k 0 (Nat.zero_le _)
  have h1 := this.p0
  have h2 := this.p1
  omega
set_option maxHeartbeats 4000000 in
set_option maxRecDepth 100000 in
theorem Cheap_any (Ar Af : Option Addr) (cr cf : Nat) (S : Sh) (w : World) (hr : S.nr ≤ 9223372036854775807) (hf : S.nf ≤ 9223372036854775807) (hS : ShAt w Ar Af S) (hN : NoneAt w) :
    Calls Tryz.prog 91 #[.agg #[.slice Ar S.nr cr, .slice Af S.nf cf, .int .i64 S.deep, .int .i64 S.haul, .int .i64 S.rest]] w fun e w' => e = .returned (.tuple #[.int .i64 S.cheapOut.1, .int .i64 S.cheapOut.2]) ∧ Below w.heap.size w w' := by
  have hb0 := bAlloc (Below.refl w.heap.size w) (.cells #[.slice Ar S.nr cr, .slice Af S.nf cf, .int .i64 S.deep, .int .i64 S.haul, .int .i64 S.rest] 68)
  have HS := Lib.hid (hS.mono hb0)
  have HN := Lib.hid (hN.mono hb0)
  have HB := Lib.hid hb0
  clear hS hb0 hN
  go_enter Tryz.func91, Tryz.ntmps91
  go_wp2_with (go_at_call 135; refine (find_cheaper _ _ _ _ S _ hr hf HS.out HN.out).mono ?_; rintro e w1 ⟨hb1, h1⟩; have hz1 := hb1.size; simp only [World.size_alloc] at hz1; have hy1 : w.heap.size < w1.heap.size := (by omega); have HS1 := Lib.hid (HS.out.mono hb1); rcases h1 with ⟨hok, rfl⟩ | ⟨hok, h2, rfl⟩ | ⟨hok, h2, A, m, c, g, rfl, hmn, hch, hend, hI, hblk⟩)
  · go_ret2
    exact ⟨by rw [cheapOut_bad hok]; rfl, by (repeat (first | (with_reducible exact Below.refl _ _) | (with_reducible refine bAlloc ?_ _) | (with_reducible refine bDrew ?_) | (with_reducible refine bGrow ?_ _ _) | (with_reducible refine bSet ?_ ?_ _; (first | exact Nat.le_refl _ | exact Nat.le_add_right _ _ | (simp; omega))) | (with_reducible refine bTrans ?_ (by assumption))))⟩
  · go_ret2
    exact ⟨by rw [cheapOut_none hok h2]; rfl, by (repeat (first | (with_reducible exact Below.refl _ _) | (with_reducible refine bAlloc ?_ _) | (with_reducible refine bDrew ?_) | (with_reducible refine bGrow ?_ _ _) | (with_reducible refine bSet ?_ ?_ _; (first | exact Nat.le_refl _ | exact Nat.le_add_right _ _ | (simp; omega))) | (with_reducible refine bTrans ?_ (by assumption))))⟩
  · clear hI hblk hch hend
    have hnf := hok.nf
    obtain ⟨p0, p1⟩ := pence_bd hok ltP S.nf hnf
    obtain ⟨y0, y1, y2, y3⟩ := digs_bd hok (k := S.nf) (Nat.le_refl _)
    have HE := Lib.hid (cheapOut_some hok h2)
    have e1 : IntKind.i64.wrap (sumTo S.price S.nf + (S.waysOf ltP S.nf 0).pence) = sumTo S.price S.nf + (S.waysOf ltP S.nf 0).pence := IntWalk.i64_in _ (by omega)
    clear h2
    refine wp_region_quiet_below (by kernel_rfl) (by kernel_rfl) ?_
    repeat (go_big_quiet_step ((go_at_call 137; exact Calls.regrown_of (digging_any _ _ _ _ S _ hok ((((HS1.out.mono (bAlloc (Below.refl _ _) _)).mono (bAlloc (Below.refl _ _) _))).mono (below_regrown _ _ _))))))
    refine wpQuiet_nil ?_
    clear e1
    intro w3 hw3
    have hb3 := below_of_regrown hw3
    clear hw3
    go_wp2_with fail
    go_ret2
    exact ⟨by rw [HE.out]; rfl, by (repeat (first | (with_reducible exact Below.refl _ _) | (with_reducible refine bAlloc ?_ _) | (with_reducible refine bDrew ?_) | (with_reducible refine bGrow ?_ _ _) | (with_reducible refine bSet ?_ ?_ _; (first | exact Nat.le_refl _ | exact Nat.le_add_right _ _ | (simp; omega))) | (with_reducible refine bTrans ?_ (by assumption))))⟩
end Go.Proofs.YthnojgdckkdcgaaGreatDoor


namespace Go.Proofs.YthnojgdckkdcgaaGreatDoor
open Go.RowKit Go.Sort
end Go.Proofs.YthnojgdckkdcgaaGreatDoor


namespace Go.Proofs.YthnojgdckkdcgaaGreatDoor
open Go.RowKit Go.Sort
end Go.Proofs.YthnojgdckkdcgaaGreatDoor


namespace Go.Proofs.YthnojgdckkdcgaaGreatDoor
open Go.RowKit Go.Sort
section
variable {P : Program} {ops : Array Oper} {md : Region.Mode}
attribute [go_sem] Oper.heldAt Oper.heldUpon newer_refl depsP
end
end Go.Proofs.YthnojgdckkdcgaaGreatDoor


namespace Go.Proofs.YthnojgdckkdcgaaGreatDoor
open Go.RowKit Go.Sort
end Go.Proofs.YthnojgdckkdcgaaGreatDoor


namespace Go.Proofs.YthnojgdckkdcgaaGreatDoor
open Go.RowKit Go.Sort
def rockL (f : Nat → Rock) : Nat → List Value
  | 0 => []
  | n + 1 => rockL f n ++ [.int .i64 (f n).hours, .int .i64 (f n).pence, .int .i64 (f n).stand, .int .i64 (f n).seat]
theorem rockL_len (f : Nat → Rock) (n : Nat) : (rockL f n).length = n * 4 := by
  induction n with
  | zero => rfl
  | succ n ih => simp only [rockL, List.length_append, ih, List.length_cons, List.length_nil]; omega
theorem rockL_get (f : Nat → Rock) {n i : Nat} (h : i < n) : (rockL f n)[i * 4]? = some (.int .i64 (f i).hours) ∧ (rockL f n)[i * 4 + 1]? = some (.int .i64 (f i).pence) ∧ (rockL f n)[i * 4 + 2]? = some (.int .i64 (f i).stand) ∧ (rockL f n)[i * 4 + 3]? = some (.int .i64 (f i).seat) := by
  induction n with
  | zero => omega
  | succ n ih =>
    have hl := rockL_len f n
    rcases Nat.lt_or_ge i n with h1 | h1
    · obtain ⟨a, b, c, d⟩ := ih h1
      simp only [rockL]
      refine ⟨?_, ?_, ?_, ?_⟩ <;> rw [List.getElem?_append_left (by omega)] <;> assumption
    · obtain rfl : i = n := by omega
      simp only [rockL]
      refine ⟨?_, ?_, ?_, ?_⟩ <;> rw [List.getElem?_append_right (by omega), hl] <;> simp
theorem rockL_inv (f : Nat → Rock) {n j : Nat} {v : Value} (h : (rockL f n)[j]? = some v) : ∃ i, i < n ∧ ((j = i * 4 ∧ v = .int .i64 (f i).hours) ∨ (j = i * 4 + 1 ∧ v = .int .i64 (f i).pence) ∨ (j = i * 4 + 2 ∧ v = .int .i64 (f i).stand) ∨ (j = i * 4 + 3 ∧ v = .int .i64 (f i).seat)) := by
  have hj : j < n * 4 := by
    have := (List.getElem?_eq_some_iff.1 h).1
    rwa [rockL_len] at this
  obtain ⟨a, b, c, d⟩ := rockL_get f (n := n) (i := j / 4) (by omega)
  refine ⟨j / 4, by omega, ?_⟩
  rcases (by omega : j = j / 4 * 4 ∨ j = j / 4 * 4 + 1 ∨ j = j / 4 * 4 + 2 ∨ j = j / 4 * 4 + 3) with e | e | e | e
  · rw [← e, h] at a; exact .inl ⟨e, by simpa using a⟩
  · rw [← e, h] at b; exact .inr (.inl ⟨e, by simpa using b⟩)
  · rw [← e, h] at c; exact .inr (.inr (.inl ⟨e, by simpa using c⟩))
  · rw [← e, h] at d; exact .inr (.inr (.inr ⟨e, by simpa using d⟩))
theorem rocksAt_row {w : World} {A : Option Addr} {n : Nat} {f : Nat → Rock} : RocksAt w A n f ↔ RowAt w A (rockL f n) := by
  constructor
  · rintro (rfl | ⟨b, o, rfl, hlt, hc⟩)
    · exact .inl rfl
    · refine .inr ⟨b, o, rfl, hlt, fun j v hj => ?_⟩
      obtain ⟨i, hi, h⟩ := rockL_inv f hj
      obtain ⟨c0, c1, c2, c3⟩ := hc i hi
      rcases h with ⟨rfl, rfl⟩ | ⟨rfl, rfl⟩ | ⟨rfl, rfl⟩ | ⟨rfl, rfl⟩
      · exact c0
      · exact c1
      · exact c2
      · exact c3
  · rintro (h | ⟨b, o, rfl, hlt, hc⟩)
    · left
      have := congrArg List.length h
      rw [rockL_len] at this
      simp at this; omega
    · refine .inr ⟨b, o, rfl, hlt, fun i hi => ?_⟩
      obtain ⟨a0, a1, a2, a3⟩ := rockL_get f hi
      exact ⟨hc _ _ a0, hc _ _ a1, hc _ _ a2, hc _ _ a3⟩
end Go.Proofs.YthnojgdckkdcgaaGreatDoor


namespace Go.Proofs.YthnojgdckkdcgaaGreatDoor
open Go.RowKit Go.Sort
end Go.Proofs.YthnojgdckkdcgaaGreatDoor


namespace Go.Proofs.YthnojgdckkdcgaaGreatDoor
open Go.RowKit Go.Sort
theorem infoRock : (Tryz.prog.info? 190).map (fun i => (i.zero, i.size, i.bytes)) = some (some (.agg #[.int .i64 0, .int .i64 0, .int .i64 0, .int .i64 0]), 4, 32) := by kernel_rfl
end Go.Proofs.YthnojgdckkdcgaaGreatDoor


namespace Go.Proofs.YthnojgdckkdcgaaGreatDoor
open Go.RowKit Go.Sort
theorem TyB.set {w : World} {b : Nat} {t : TypeId} (h : ∃ cs, TBox w b t cs) (c o : Nat) (u : Value) : ∃ cs, TBox (w.setCell ⟨c, o, none⟩ u) b t cs := by
  obtain ⟨cs, h⟩ := h
  rcases Nat.decEq b c with e | e
  · exact ⟨cs, (Below.heap_setCell w ⟨c, o, none⟩ u b e).trans h⟩
  · subst e; exact ⟨_, h.set o u⟩
theorem owns_setTy {w : World} {base : Nat} {e t : TypeId} {size n : Nat} {v : Value} {xs : List Value} (h : w.ownsRow base e size v n xs) {b : Nat} (hb : ∃ cs, TBox w b t cs) (ht : t ≠ e) (o : Nat) (u : Value) : (w.setCell ⟨b, o, none⟩ u).ownsRow base e size v n xs := by
  obtain ⟨cs, hb⟩ := hb
  exact owns_setT h hb ht o u
def ShOwn (w : World) (base : Nat) (S : Sh) (e : Ending) : Prop :=
  ∃ gr gf cr cf, e = .returned (.agg #[.slice (some ⟨gr, 0, none⟩) S.nr cr, .slice (some ⟨gf, 0, none⟩) S.nf cf, .int .i64 S.deep, .int .i64 S.haul, .int .i64 S.rest]) ∧ w.ownsRow base 190 4 (.slice (some ⟨gr, 0, none⟩) S.nr cr) S.nr (rockL S.rock S.nr) ∧ w.ownsRow base 3 1 (.slice (some ⟨gf, 0, none⟩) S.nf cf) S.nf (intL S.foot S.nf)
set_option maxHeartbeats 4000000 in
set_option maxRecDepth 100000 in
theorem copySh_any (Ar Af : Option Addr) (cr cf : Nat) (S : Sh) (w : World) (hr : S.nr * 32 ≤ 140737488351232) (hf : S.nf * 8 ≤ 140737488351232) (hS : ShAt w Ar Af S) :
    Calls Tryz.prog 93 #[.agg #[.slice Ar S.nr cr, .slice Af S.nf cf, .int .i64 S.deep, .int .i64 S.haul, .int .i64 S.rest]] w fun e w' => ShOwn w' w.heap.size S e ∧ Below w.heap.size w w' := by
  have HS0 := Lib.hid hS
  clear hS
  go_enter Tryz.func93, Tryz.ntmps93
  go_wp2_with fail
  have hbW : Below w.heap.size w (((w.alloc (.cells #[.slice Ar S.nr cr, .slice Af S.nf cf, .int .i64 S.deep, .int .i64 S.haul, .int .i64 S.rest] 68)).alloc (.cells #[.slice none 0 0, .slice none 0 0, .int .i64 0, .int .i64 0, .int .i64 0] 68)).alloc (.cells #[.slice Ar S.nr cr, .slice Af S.nf cf, .int .i64 S.deep, .int .i64 S.haul, .int .i64 S.rest] 68)) := by (repeat (first | (with_reducible exact Below.refl _ _) | (with_reducible refine bAlloc ?_ _) | (with_reducible refine bDrew ?_) | (with_reducible refine bGrow ?_ _ _) | (with_reducible refine bSet ?_ ?_ _; (first | exact Nat.le_refl _ | exact Nat.le_add_right _ _ | (simp; omega))) | (with_reducible refine bTrans ?_ (by assumption))))
  have HBW := Lib.hid hbW
  have HTA := Lib.hid (TBox.new ((w.alloc (.cells #[.slice Ar S.nr cr, .slice Af S.nf cf, .int .i64 S.deep, .int .i64 S.haul, .int .i64 S.rest] 68)).alloc (.cells #[.slice none 0 0, .slice none 0 0, .int .i64 0, .int .i64 0, .int .i64 0] 68)) #[.slice Ar S.nr cr, .slice Af S.nf cf, .int .i64 S.deep, .int .i64 S.haul, .int .i64 S.rest] 68)
  have HTC := Lib.hid ((TBox.new (w.alloc (.cells #[.slice Ar S.nr cr, .slice Af S.nf cf, .int .i64 S.deep, .int .i64 S.haul, .int .i64 S.rest] 68)) #[.slice none 0 0, .slice none 0 0, .int .i64 0, .int .i64 0, .int .i64 0] 68).mono (bAlloc (Below.refl _ _) (.cells #[.slice Ar S.nr cr, .slice Af S.nf cf, .int .i64 S.deep, .int .i64 S.haul, .int .i64 S.rest] 68)))
  clear hbW
  have HZ := Lib.hid (fun w' (hb : Below (((w.alloc (.cells #[.slice Ar S.nr cr, .slice Af S.nf cf, .int .i64 S.deep, .int .i64 S.haul, .int .i64 S.rest] 68)).alloc (.cells #[.slice none 0 0, .slice none 0 0, .int .i64 0, .int .i64 0, .int .i64 0] 68)).alloc (.cells #[.slice Ar S.nr cr, .slice Af S.nf cf, .int .i64 S.deep, .int .i64 S.haul, .int .i64 S.rest] 68)).heap.size (((w.alloc (.cells #[.slice Ar S.nr cr, .slice Af S.nf cf, .int .i64 S.deep, .int .i64 S.haul, .int .i64 S.rest] 68)).alloc (.cells #[.slice none 0 0, .slice none 0 0, .int .i64 0, .int .i64 0, .int .i64 0] 68)).alloc (.cells #[.slice Ar S.nr cr, .slice Af S.nf cf, .int .i64 S.deep, .int .i64 S.haul, .int .i64 S.rest] 68)) w') => (show w.heap.size + 3 ≤ w'.heap.size from by have := hb.size; simpa using this))
  refine wp_region_stir 9 [.held emptyV (ownsV (w.heap.size + 3) 190 4 0 []), .const (.pointer (some ⟨w.heap.size, 0, none⟩)), .const (.slice Ar S.nr cr), .held (ShapeOf S.nr) (ownsV (w.heap.size + 3) 190 4 S.nr (rockL S.rock S.nr)),
    .held emptyV (ownsV (w.heap.size + 3) 3 1 0 []), .const (.pointer (some ⟨w.heap.size, 1, none⟩)), .const (.slice Af S.nf cf), .held (ShapeOf S.nf) (ownsV (w.heap.size + 3) 3 1 S.nf (intL S.foot S.nf)), .const (.pointer (some ⟨w.heap.size + 2, 0, none⟩))]
    (by kernel_rfl) (by kernel_rfl) rfl ⟨⟨⟨_, 0, rfl⟩, fun _ _ _ hb h => owns_below h hb⟩, trivial, trivial, ownsG, ⟨⟨_, 0, rfl⟩, fun _ _ _ hb h => owns_below h hb⟩, trivial, trivial, ownsG, trivial, trivial⟩ (crossAll_no _ _ _ _ trivial) ?_
  refine wpStir_held rfl (fun w' hb hd => ?_) (fun v hv => ?_)
  · clear hd
    have hl := World.ownsRow_lit (base := w.heap.size + 3) (e := 190) (size := 4) w' #[] 0 (HZ.out _ hb) (by decide) rfl
    go_simp
    exact ⟨bAlloc (Below.refl _ _) _, ⟨_, rfl⟩, hl⟩
  obtain ⟨b0, rfl⟩ := hv
  iterate 2 refine wpStir_const (by go_simp) ?_
  simp only [Act.put, List.setIfInBounds_toArray, List.set_cons_succ, List.set_cons_zero]
  refine wpStir_held rfl (fun w' hb hd => ?_) (fun v hv => ?_)
  · have h1 : ownsV (w.heap.size + 3) 190 4 0 [] w' (.slice (some ⟨b0, 0, none⟩) 0 0) := hd.1 (by kernel_rfl)
    clear hd
    exact stir_copy3 w' _ _ 66 rfl 190 _ 4 32 infoRock Tryz.underlying66 rfl (by decide) b0 Ar S.nr cr (rockL S.rock S.nr) rfl rfl (rockL_len _ _) ((rocksAt_row.1 HS0.out.rocks).mono (bTrans HBW.out hb)) (by unfold maxLen; omega) (by omega) _ (HZ.out _ hb) h1
  obtain ⟨b1, c1, rfl⟩ := hv
  refine wpStir_held rfl (fun w' hb hd => ?_) (fun v hv => ?_)
  · clear hd
    have hl := World.ownsRow_lit (base := w.heap.size + 3) (e := 3) (size := 1) w' #[] 0 (HZ.out _ hb) (by decide) rfl
    go_simp
    exact ⟨bAlloc (Below.refl _ _) _, ⟨_, rfl⟩, hl⟩
  obtain ⟨b4, rfl⟩ := hv
  iterate 2 refine wpStir_const (by go_simp) ?_
  simp only [Act.put, List.setIfInBounds_toArray, List.set_cons_succ, List.set_cons_zero]
  refine wpStir_held rfl (fun w' hb hd => ?_) (fun v hv => ?_)
  · have h1 : ownsV (w.heap.size + 3) 3 1 0 [] w' (.slice (some ⟨b4, 0, none⟩) 0 0) := hd.1 (by kernel_rfl)
    clear hd
    exact stir_copy3 w' _ _ 34 rfl 3 _ 1 8 infoInt Tryz.underlying34 rfl (by decide) b4 Af S.nf cf (intL S.foot S.nf) rfl rfl (by rw [intL_len, Nat.mul_one]) ((intsAt_row.1 HS0.out.feet).mono (bTrans HBW.out hb)) (by unfold maxLen; omega) (by omega) _ (HZ.out _ hb) h1
  obtain ⟨b2, c2, rfl⟩ := hv
  refine wpStir_const (by go_simp) ?_
  simp only [Act.put, List.setIfInBounds_toArray, List.set_cons_succ, List.set_cons_zero]
  refine wpStir_end (fun w3 hb3 hd => ?_)
  have hbw := bTrans HBW.out hb3
  have hd2 : ownsV (w.heap.size + 3) 3 1 S.nf (intL S.foot S.nf) w3 (.slice (some ⟨b2, 0, none⟩) S.nf c2) := hd.1
  have hd1 : ownsV (w.heap.size + 3) 190 4 S.nr (rockL S.rock S.nr) w3 (.slice (some ⟨b1, 0, none⟩) S.nr c1) := hd.2.2.1
  clear hd
  have HO1 := Lib.hid hd1
  have HO2 := Lib.hid hd2
  have HBX := Lib.hid hbw
  have HTA3 := Lib.hid (HTA.out.mono hb3)
  have HTC3 := Lib.hid (HTC.out.mono hb3)
  obtain ⟨bc, bf⟩ := bcell hb3
  have hz := hb3.size
  simp only [World.size_alloc] at hz
  clear hd1 hd2 HBW hb3 hbw
  simp only [List.drop_succ_cons, List.drop_zero]
  go_wp2_with fail
  refine bodyPost_ret (v := .agg #[.slice (some ⟨b1, 0, none⟩) S.nr c1, .slice (some ⟨b2, 0, none⟩) S.nf c2, .int .i64 S.deep, .int .i64 S.haul, .int .i64 S.rest]) (by simp [results, Tryz.results93, go_sem, *]) rfl ?_
  have hbx := HBX.out
  have ty1 : ∃ cs, TBox w3 (w.heap.size + 2) 68 cs := ⟨_, by have := HTA3.out; simp only [World.size_alloc] at this; exact this⟩
  have ty2 : ∃ cs, TBox w3 (w.heap.size + 1) 68 cs := ⟨_, by have := HTC3.out; simp only [World.size_alloc] at this; exact this⟩
  refine ⟨⟨b1, b2, c1, c2, rfl, ?_, ?_⟩, by (repeat (first | (with_reducible exact Below.refl _ _) | (with_reducible refine bAlloc ?_ _) | (with_reducible refine bDrew ?_) | (with_reducible refine bGrow ?_ _ _) | (with_reducible refine bSet ?_ ?_ _; (first | exact Nat.le_refl _ | exact Nat.le_add_right _ _ | (simp; omega))) | (with_reducible refine bTrans ?_ (by assumption))))⟩
  · refine owns_lower (base := w.heap.size + 3) ?_ (by omega)
    have h := HO1.out
    unfold ownsV at h
    repeat with_reducible refine owns_setTy (t := 68) ?_ ?_ (by decide) _ _
    with_reducible exact h
    all_goals repeat (first | with_reducible refine TyB.set ?_ _ _ _ | with_reducible exact ty1 | with_reducible exact ty2)
  · refine owns_lower (base := w.heap.size + 3) ?_ (by omega)
    have h := HO2.out
    unfold ownsV at h
    repeat with_reducible refine owns_setTy (t := 68) ?_ ?_ (by decide) _ _
    with_reducible exact h
    all_goals repeat (first | with_reducible refine TyB.set ?_ _ _ _ | with_reducible exact ty1 | with_reducible exact ty2)
end Go.Proofs.YthnojgdckkdcgaaGreatDoor

namespace Go.Proofs.YthnojgdckkdcgaaGreatDoor
open Go.RowKit Go.Sort
/-- a shaft of the call's own, as a value -/
def shV (S : Sh) (gr gf cr cf : Nat) : Value := .agg #[.slice (some ⟨gr, 0, none⟩) S.nr cr, .slice (some ⟨gf, 0, none⟩) S.nf cf, .int .i64 S.deep, .int .i64 S.haul, .int .i64 S.rest]
def shS (S : Sh) (v : Value) : Prop := ∃ gr gf cr cf, v = shV S gr gf cr cf
def shR (N : Nat) (S : Sh) (w : World) (v : Value) : Prop := ∀ gr gf cr cf, v = shV S gr gf cr cf → w.ownsRow N 190 4 (.slice (some ⟨gr, 0, none⟩) S.nr cr) S.nr (rockL S.rock S.nr) ∧ w.ownsRow N 3 1 (.slice (some ⟨gf, 0, none⟩) S.nf cf) S.nf (intL S.foot S.nf)
theorem shG {N : Nat} {S : Sh} : (Stir.held (shS S) (shR N S)).good := ⟨⟨_, 0, 0, 0, 0, rfl⟩, fun _ _ _ hb h a b c d e => ⟨owns_below (h a b c d e).1 hb, owns_below (h a b c d e).2 hb⟩⟩
theorem shV_inj {S : Sh} {a b c d a' b' c' d' : Nat} (h : shV S a b c d = shV S a' b' c' d') : a = a' ∧ b = b' ∧ c = c' ∧ d = d' := by
  unfold shV at h
  simp only [Value.agg.injEq, Array.mk.injEq, List.cons.injEq, Value.slice.injEq, Option.some.injEq, Addr.mk.injEq, and_true, true_and] at h
  exact ⟨h.1.1, h.2.1, h.1.2, h.2.2⟩
/-- a spot of the call's own, as a value -/
def spV (y : Spot) (gr gf cr cf : Nat) : Value := .agg #[.int .i64 y.at_, .slice (some ⟨gr, 0, none⟩) y.sh.nr cr, .slice (some ⟨gf, 0, none⟩) y.sh.nf cf, .int .i64 y.sh.deep, .int .i64 y.sh.haul, .int .i64 y.sh.rest, .slice none 0 0]
def spS (y : Spot) (v : Value) : Prop := ∃ gr gf cr cf, v = spV y gr gf cr cf
def spR (N : Nat) (y : Spot) (w : World) (v : Value) : Prop := ∀ gr gf cr cf, v = spV y gr gf cr cf → w.ownsRow N 190 4 (.slice (some ⟨gr, 0, none⟩) y.sh.nr cr) y.sh.nr (rockL y.sh.rock y.sh.nr) ∧ w.ownsRow N 3 1 (.slice (some ⟨gf, 0, none⟩) y.sh.nf cf) y.sh.nf (intL y.sh.foot y.sh.nf)
theorem spG {N : Nat} {y : Spot} : (Stir.held (spS y) (spR N y)).good := ⟨⟨_, 0, 0, 0, 0, rfl⟩, fun _ _ _ hb h a b c d e => ⟨owns_below (h a b c d e).1 hb, owns_below (h a b c d e).2 hb⟩⟩
theorem spV_inj {y : Spot} {a b c d a' b' c' d' : Nat} (h : spV y a b c d = spV y a' b' c' d') : a = a' ∧ b = b' ∧ c = c' ∧ d = d' := by
  unfold spV at h
  simp only [Value.agg.injEq, Array.mk.injEq, List.cons.injEq, Value.slice.injEq, Option.some.injEq, Addr.mk.injEq, and_true, true_and] at h
  exact ⟨h.1.1, h.2.1, h.1.2, h.2.2⟩
def SpotOwn (w : World) (base : Nat) (y : Spot) (e : Ending) : Prop :=
  ∃ gr gf cr cf V vs, e = .returned (.agg #[.int .i64 y.at_, .slice (some ⟨gr, 0, none⟩) y.sh.nr cr, .slice (some ⟨gf, 0, none⟩) y.sh.nf cf, .int .i64 y.sh.deep, .int .i64 y.sh.haul, .int .i64 y.sh.rest, V]) ∧ w.ownsRow base 190 4 (.slice (some ⟨gr, 0, none⟩) y.sh.nr cr) y.sh.nr (rockL y.sh.rock y.sh.nr) ∧ w.ownsRow base 3 1 (.slice (some ⟨gf, 0, none⟩) y.sh.nf cf) y.sh.nf (intL y.sh.foot y.sh.nf) ∧ w.ownsRow base 34 1 V y.fl.n vs ∧ WdRows w y.fl y.fl.n vs
set_option maxHeartbeats 4000000 in
set_option maxRecDepth 100000 in
theorem copySpot_any (Ar Af Ax : Option Addr) (cr cf cx : Nat) (y : Spot) (w : World) (hf : y.Fits) (hS : ShAt w Ar Af y.sh) (hX : RowsAt w Ax y.fl) :
    Calls Tryz.prog 78 #[.agg #[.int .i64 y.at_, .slice Ar y.sh.nr cr, .slice Af y.sh.nf cf, .int .i64 y.sh.deep, .int .i64 y.sh.haul, .int .i64 y.sh.rest, .slice Ax y.fl.n cx]] w fun e w' => SpotOwn w' w.heap.size y e ∧ Below w.heap.size w w' := by
  have hb2 := bAlloc (bAlloc (Below.refl w.heap.size w) (.cells #[.int .i64 y.at_, .slice Ar y.sh.nr cr, .slice Af y.sh.nf cf, .int .i64 y.sh.deep, .int .i64 y.sh.haul, .int .i64 y.sh.rest, .slice Ax y.fl.n cx] 71)) (.cells #[.int .i64 0, .slice none 0 0, .slice none 0 0, .int .i64 0, .int .i64 0, .int .i64 0, .slice none 0 0] 71)
  have HS := Lib.hid (hS.mono hb2)
  have HX := Lib.hid (hX.mono hb2)
  have HB := Lib.hid hb2
  have HF := Lib.hid hf
  have hn63 : y.fl.n ≤ 9223372036854775807 := by have := hf.fl.1; omega
  have HTR := Lib.hid (TBox.new (w.alloc (.cells #[.int .i64 y.at_, .slice Ar y.sh.nr cr, .slice Af y.sh.nf cf, .int .i64 y.sh.deep, .int .i64 y.sh.haul, .int .i64 y.sh.rest, .slice Ax y.fl.n cx] 71)) #[.int .i64 0, .slice none 0 0, .slice none 0 0, .int .i64 0, .int .i64 0, .int .i64 0, .slice none 0 0] 71)
  clear hX hS hb2 hf
  go_enter Tryz.func78, Tryz.ntmps78
  go_wp2_with fail
  refine wp_region_stir 7 [.const (.pointer (some ⟨w.heap.size, 0, none⟩)), .const (.int .i64 y.at_), .const (.pointer (some ⟨w.heap.size, 1, none⟩)), .const (.agg #[.slice Ar y.sh.nr cr, .slice Af y.sh.nf cf, .int .i64 y.sh.deep, .int .i64 y.sh.haul, .int .i64 y.sh.rest]), .held (shS y.sh) (shR (w.heap.size + 2) y.sh), .held (spS y) (spR (w.heap.size + 2) y), .held boxS (boxR (w.heap.size + 2) 71 #[.int .i64 0, .slice none 0 0, .slice none 0 0, .int .i64 0, .int .i64 0, .int .i64 0, .slice none 0 0])]
    (by kernel_rfl) (by kernel_rfl) rfl ⟨trivial, trivial, trivial, trivial, shG, spG, boxG, trivial⟩ (crossAll_no _ _ _ _ trivial) ?_
  iterate 4 refine wpStir_const (by go_simp) ?_
  simp only [Act.put, List.setIfInBounds_toArray, List.set_cons_succ, List.set_cons_zero]
  refine wpStir_held rfl (fun w' hb hd => ?_) (fun v hv => ?_)
  · clear hd
    have hz := hb.size
    simp only [World.size_alloc] at hz
    have hc := Lib.hid (copySh_any Ar Af cr cf y.sh w' HF.out.nr HF.out.nf (HS.out.mono hb))
    go_simp
    refine hc.out.mono ?_
    rintro e w'' ⟨⟨gr, gf, c1, c2, rfl, h1, h2⟩, hb'⟩
    refine ⟨_, rfl, hb', ⟨gr, gf, c1, c2, rfl⟩, fun a b c d e => ?_⟩
    obtain ⟨rfl, rfl, rfl, rfl⟩ := shV_inj (show shV y.sh gr gf c1 c2 = shV y.sh a b c d from e)
    exact ⟨owns_lower h1 (by omega), owns_lower h2 (by omega)⟩
  obtain ⟨gr, gf, c1, c2, rfl⟩ := hv
  simp only [Act.put, List.setIfInBounds_toArray, List.set_cons_succ, List.set_cons_zero]
  refine wpStir_held rfl (fun w' hb hd => ?_) (fun v hv => ?_)
  · have h1 := (show shR (w.heap.size + 2) y.sh w' (shV y.sh gr gf c1 c2) from hd.1 (by kernel_rfl)) gr gf c1 c2 rfl
    clear hd
    unfold shV
    go_simp
    refine ⟨⟨gr, gf, c1, c2, rfl⟩, fun a b c d e => ?_⟩
    obtain ⟨rfl, rfl, rfl, rfl⟩ := spV_inj (show spV y gr gf c1 c2 = spV y a b c d from e)
    exact h1
  obtain ⟨gr, gf, c1, c2, rfl⟩ := hv
  refine wpStir_held rfl (fun w' hb hd => ?_) (fun v hv => ?_)
  · clear hd
    have hz := hb.size
    simp only [World.size_alloc] at hz
    go_simp
    refine ⟨bAlloc (Below.refl _ _) _, ⟨_, rfl⟩, fun b e => ?_⟩
    obtain rfl : w'.heap.size = b := by simpa using e
    exact ⟨by omega, TBox.new _ _ _⟩
  obtain ⟨b7, rfl⟩ := hv
  simp only [Act.put, List.setIfInBounds_toArray, List.set_cons_succ, List.set_cons_zero]
  refine wpStir_end (fun w5 hb5 hd => ?_)
  obtain ⟨hb7, htb⟩ := hd.1 b7 rfl
  obtain ⟨hr5, hf5⟩ := hd.2.1 gr gf c1 c2 rfl
  clear hd
  have HR5 := Lib.hid hr5
  have HF5 := Lib.hid hf5
  have HTB := Lib.hid htb
  have HB5 := Lib.hid hb5
  have HB7 := Lib.hid hb7
  have hlt7 := htb.lt
  have x0 : w5.cell? ⟨b7, 0, none⟩ = some (.int .i64 0) := htb.cell 0
  have y0 := htb.frozen 0
  have x1 : w5.cell? ⟨b7, 1, none⟩ = some (.slice none 0 0) := htb.cell 1
  have y1 := htb.frozen 1
  have x2 : w5.cell? ⟨b7, 2, none⟩ = some (.slice none 0 0) := htb.cell 2
  have y2 := htb.frozen 2
  have x3 : w5.cell? ⟨b7, 3, none⟩ = some (.int .i64 0) := htb.cell 3
  have y3 := htb.frozen 3
  have x4 : w5.cell? ⟨b7, 4, none⟩ = some (.int .i64 0) := htb.cell 4
  have y4 := htb.frozen 4
  have x5 : w5.cell? ⟨b7, 5, none⟩ = some (.int .i64 0) := htb.cell 5
  have y5 := htb.frozen 5
  have x6 : w5.cell? ⟨b7, 6, none⟩ = some (.slice none 0 0) := htb.cell 6
  have y6 := htb.frozen 6
  have hz5 := hb5.size
  simp only [World.size_alloc] at hz5
  clear hr5 hf5 htb hb5
  simp only [List.drop_succ_cons, List.drop_zero]
  unfold spV
  go_wp2_with fail
  have HT6 := Lib.hid ((((((((HTB.out.set 0 (.int .i64 y.at_)).set 1 (.slice (some ⟨gr, 0, none⟩) y.sh.nr c1)).set 2 (.slice (some ⟨gf, 0, none⟩) y.sh.nf c2)).set 3 (.int .i64 y.sh.deep)).set 4 (.int .i64 y.sh.haul)).set 5 (.int .i64 y.sh.rest)).set 6 (.slice none 0 0)))
  have HR6 := Lib.hid (show ((((((((w5.setCell ⟨b7, 0, none⟩ (.int .i64 y.at_)).setCell ⟨b7, 1, none⟩ (.slice (some ⟨gr, 0, none⟩) y.sh.nr c1)).setCell ⟨b7, 2, none⟩ (.slice (some ⟨gf, 0, none⟩) y.sh.nf c2)).setCell ⟨b7, 3, none⟩ (.int .i64 y.sh.deep)).setCell ⟨b7, 4, none⟩ (.int .i64 y.sh.haul)).setCell ⟨b7, 5, none⟩ (.int .i64 y.sh.rest)).setCell ⟨b7, 6, none⟩ (.slice none 0 0))).ownsRow (w.heap.size + 2) 190 4 (.slice (some ⟨gr, 0, none⟩) y.sh.nr c1) y.sh.nr (rockL y.sh.rock y.sh.nr) from by
    have ty : ∃ cs, TBox w5 b7 71 cs := ⟨_, HTB.out⟩
    have h := HR5.out
    repeat with_reducible refine owns_setTy (t := 71) ?_ ?_ (by decide) _ _
    with_reducible exact h
    all_goals repeat (first | with_reducible refine TyB.set ?_ _ _ _ | with_reducible exact ty))
  have HF6 := Lib.hid (show ((((((((w5.setCell ⟨b7, 0, none⟩ (.int .i64 y.at_)).setCell ⟨b7, 1, none⟩ (.slice (some ⟨gr, 0, none⟩) y.sh.nr c1)).setCell ⟨b7, 2, none⟩ (.slice (some ⟨gf, 0, none⟩) y.sh.nf c2)).setCell ⟨b7, 3, none⟩ (.int .i64 y.sh.deep)).setCell ⟨b7, 4, none⟩ (.int .i64 y.sh.haul)).setCell ⟨b7, 5, none⟩ (.int .i64 y.sh.rest)).setCell ⟨b7, 6, none⟩ (.slice none 0 0))).ownsRow (w.heap.size + 2) 3 1 (.slice (some ⟨gf, 0, none⟩) y.sh.nf c2) y.sh.nf (intL y.sh.foot y.sh.nf) from by
    have ty : ∃ cs, TBox w5 b7 71 cs := ⟨_, HTB.out⟩
    have h := HF5.out
    repeat with_reducible refine owns_setTy (t := 71) ?_ ?_ (by decide) _ _
    with_reducible exact h
    all_goals repeat (first | with_reducible refine TyB.set ?_ _ _ _ | with_reducible exact ty))
  have HB6 := Lib.hid (show Below (w.heap.size + 2) ((w.alloc (.cells #[.int .i64 y.at_, .slice Ar y.sh.nr cr, .slice Af y.sh.nf cf, .int .i64 y.sh.deep, .int .i64 y.sh.haul, .int .i64 y.sh.rest, .slice Ax y.fl.n cx] 71)).alloc (.cells #[.int .i64 0, .slice none 0 0, .slice none 0 0, .int .i64 0, .int .i64 0, .int .i64 0, .slice none 0 0] 71)) _ from (Below.setCell (p := ⟨b7, 6, none⟩) (Below.setCell (p := ⟨b7, 5, none⟩) (Below.setCell (p := ⟨b7, 4, none⟩) (Below.setCell (p := ⟨b7, 3, none⟩) (Below.setCell (p := ⟨b7, 2, none⟩) (Below.setCell (p := ⟨b7, 1, none⟩) (Below.setCell (p := ⟨b7, 0, none⟩) (by have := HB5.out; simpa using this) (show w.heap.size + 2 ≤ b7 from HB7.out) (.int .i64 y.at_)) (show w.heap.size + 2 ≤ b7 from HB7.out) (.slice (some ⟨gr, 0, none⟩) y.sh.nr c1)) (show w.heap.size + 2 ≤ b7 from HB7.out) (.slice (some ⟨gf, 0, none⟩) y.sh.nf c2)) (show w.heap.size + 2 ≤ b7 from HB7.out) (.int .i64 y.sh.deep)) (show w.heap.size + 2 ≤ b7 from HB7.out) (.int .i64 y.sh.haul)) (show w.heap.size + 2 ≤ b7 from HB7.out) (.int .i64 y.sh.rest)) (show w.heap.size + 2 ≤ b7 from HB7.out) (.slice none 0 0)))
  have hltr : gr < w5.heap.size := (HR5.out.lt gr rfl).2
  have hltf : gf < w5.heap.size := (HF5.out.lt gf rfl).2
  clear x0 x1 x2 x3 x4 x5 x6 y0 y1 y2 y3 y4 y5 y6
  go_loopw [4] (fun s wr => ∃ (k : Nat) (V : Value) (vs : List Value), k ≤ y.fl.n ∧ s = .int .i64 k ∧ TBox wr b7 71 #[.int .i64 y.at_, .slice (some ⟨gr, 0, none⟩) y.sh.nr c1, .slice (some ⟨gf, 0, none⟩) y.sh.nf c2, .int .i64 y.sh.deep, .int .i64 y.sh.haul, .int .i64 y.sh.rest, V] ∧ wr.ownsRow w5.heap.size 34 1 V k vs ∧ WdRows wr y.fl k vs ∧ w5.heap.size ≤ wr.heap.size ∧ wr.ownsRow (w.heap.size + 2) 190 4 (.slice (some ⟨gr, 0, none⟩) y.sh.nr c1) y.sh.nr (rockL y.sh.rock y.sh.nr) ∧ wr.ownsRow (w.heap.size + 2) 3 1 (.slice (some ⟨gf, 0, none⟩) y.sh.nf c2) y.sh.nf (intL y.sh.foot y.sh.nf) ∧ Below (w.heap.size + 2) ((w.alloc (.cells #[.int .i64 y.at_, .slice Ar y.sh.nr cr, .slice Af y.sh.nf cf, .int .i64 y.sh.deep, .int .i64 y.sh.haul, .int .i64 y.sh.rest, .slice Ax y.fl.n cx] 71)).alloc (.cells #[.int .i64 0, .slice none 0 0, .slice none 0 0, .int .i64 0, .int .i64 0, .int .i64 0, .slice none 0 0] 71)) wr) (fun s _ => y.fl.n - (intOf s).toNat)
  case atStart => exact ⟨0, .slice none 0 0, [], Nat.zero_le _, rfl, HT6.out, World.ownsRow_nil _ _ _ _, ⟨rfl, fun j u h => by simp at h⟩, by simp, HR6.out, HF6.out, HB6.out⟩
  case round =>
    obtain ⟨k, V, vs, hk, rfl, hbx, hown, hrows, hsz5, hrr, hff, hbel⟩ := hrel
    have HT := Lib.hid hbx
    have HO := Lib.hid hown
    have HR := Lib.hid hrows
    have HRR := Lib.hid hrr
    have HFF := Lib.hid hff
    have HL := Lib.hid hbel
    have hbw : Below w.heap.size w wr := bTrans HB.out (by simpa using hbel)
    have HW := Lib.hid hbw
    have HXW := Lib.hid (HX.out.mono (show Below ((w.alloc (.cells #[.int .i64 y.at_, .slice Ar y.sh.nr cr, .slice Af y.sh.nf cf, .int .i64 y.sh.deep, .int .i64 y.sh.haul, .int .i64 y.sh.rest, .slice Ax y.fl.n cx] 71)).alloc (.cells #[.int .i64 0, .slice none 0 0, .slice none 0 0, .int .i64 0, .int .i64 0, .int .i64 0, .slice none 0 0] 71)).heap.size _ wr by simpa using hbel))
    have p0 := (hbel.cell (p := ⟨w.heap.size, 6, none⟩) (by show w.heap.size < w.heap.size + 2; omega)).trans (show _ = some (.slice Ax y.fl.n cx) by simp [go_sem])
    have q1 : wr.cell? ⟨b7, 6, none⟩ = some V := hbx.cell 6
    have q2 := hbx.frozen 6
    have hz : b7 < wr.heap.size := hbx.lt
    have hy : w.heap.size < wr.heap.size := by omega
    clear hbx hown hrows hrr hff hbel hbw
    by_cases hlt : k < y.fl.n
    · rcases HXW.out with h0 | ⟨b, o, hA, hb, hc⟩
      · omega
      obtain ⟨A', c', c0, hrow, hlen⟩ := hc k hlt
      subst hA
      obtain ⟨m, hm⟩ : ∃ m, y.fl.len k = m := ⟨_, rfl⟩
      rw [hm] at c0 hrow hlen
      have HM := Lib.hid hm
      have HROW := Lib.hid (intsAt_row.1 hrow)
      have HFM := Lib.hid (show m * 8 ≤ 140737488351232 by have := HF.out.fl.2 k hlt; rw [hm] at this; exact this)
      have k1 : (k : Int) < (y.fl.n : Int) := by omega
      have k0 : (0 : Int) ≤ (k : Int) := by omega
      clear hc hrow hm
      go_wp2_with fail
      refine wp_region_pin 10 [.const (.pointer (some ⟨b7, 6, none⟩)), .const V, .held emptyV anyR, .const (.pointer (some ⟨w.heap.size, 6, none⟩)), .const (.slice (some ⟨b, o, none⟩) y.fl.n cx), .const (.int .i64 k), .const (.pointer (some ⟨b, o + k, none⟩)), .const (.slice A' m c'), .held (ShapeOf m) (AtHand wr.heap.size 3 1 m (intL (y.fl.fall k) m)), .held one1 (rowIn m (intL (y.fl.fall k) m))]
        [.pointer (some ⟨b7, 6, none⟩)] (by kernel_rfl) (by kernel_rfl) rfl ⟨trivial, trivial, anyG, trivial, trivial, trivial, trivial, trivial, shapeG _ _ _ _ _, ⟨⟨_, 0, rfl⟩, fun _ _ _ hb h => rowIn_mono hb h⟩, trivial⟩ (crossAll_no _ _ _ _ trivial) rfl rfl (fun j u hj => ?_) ?_
      · match j, hj with
        | 0, hj =>
          obtain rfl : Value.pointer (some ⟨b7, 6, none⟩) = u := by simpa using hj
          exact ⟨_, rfl, rfl, fun w' => by go_simp⟩
      iterate 2 refine wpStir_const (by go_simp) ?_
      refine wpStir_held rfl (fun w' hb hd => ?_) (fun v hv => ?_)
      · clear hd
        go_simp
        exact ⟨bAlloc (Below.refl _ _) _, ⟨_, rfl⟩, trivial⟩
      obtain ⟨b1, rfl⟩ := hv
      iterate 5 refine wpStir_const (by go_simp) ?_
      simp only [Act.put, List.setIfInBounds_toArray, List.set_cons_succ, List.set_cons_zero]
      refine wpStir_held rfl (fun w' hb hd => ?_) (fun v hv => ?_)
      · clear hd
        exact stir_copy2 w' (Operand.tmp 20) (Operand.tmp 25) 34 rfl 3 (.int .i64 0) 1 8 infoInt Tryz.underlying34 rfl (by decide) b1 A' m c' (intL (y.fl.fall k) m) rfl rfl (by rw [intL_len, Nat.mul_one]) (HROW.out.mono hb) (by unfold maxLen; have := HFM.out; omega) (by have := HFM.out; omega) _ hb.size
      obtain ⟨b2, c3, rfl⟩ := hv
      refine wpStir_held rfl (fun w' hb hd => ?_) (fun v hv => ?_)
      · have h1 : AtHand wr.heap.size 3 1 m (intL (y.fl.fall k) m) w' (.slice (some ⟨b2, 0, none⟩) m c3) := hd.1 (by kernel_rfl)
        clear hd
        obtain ⟨A3, c4, e3, h3⟩ := h1.rowK
        injection e3 with e3 _ e4
        subst e3 e4
        go_simp
        exact ⟨bAlloc (Below.refl _ _) _, ⟨_, rfl⟩, fun b' hb' => by
          obtain rfl : w'.heap.size = b' := by simpa using hb'
          exact ⟨some ⟨b2, 0, none⟩, c3, by simp [go_sem], h3.mono (bAlloc (Below.refl _ _) _)⟩⟩
      obtain ⟨b3, rfl⟩ := hv
      simp only [Act.put, List.setIfInBounds_toArray, List.set_cons_succ, List.set_cons_zero]
      refine wpStir_end (fun w9 hb9 hd => ?_)
      obtain ⟨A4, c4, h4, h5⟩ := hd.1 b3 rfl
      clear hd
      have HT9 := Lib.hid (HT.out.mono hb9)
      have HO9 := Lib.hid (owns_below HO.out hb9)
      have HR9 := Lib.hid (HR.out.kept (Kept.of_below (l := [3]) hb9) (by simp))
      have HRR9 := Lib.hid (owns_below HRR.out hb9)
      have HFF9 := Lib.hid (owns_below HFF.out hb9)
      have HK9 := Lib.hid h5
      have HL9 := Lib.hid (HL.out.trans (hb9.mono (by have := HT.out.lt; have := HB7.out; omega)))
      have HN9 := Lib.hid (show (k + 1) * 24 ≤ 140737488351232 by have := HF.out.fl.1; omega)
      refine stir_own (Operand.tmp 19) (Operand.tmp 27) 69 rfl w5.heap.size 34 (.slice none 0 0) 1 24 infoRow Tryz.underlying69 rfl (by decide) V k vs rfl HO9.out ⟨b3, 0, none⟩ 1 1 [.slice A4 m c4] rfl rfl (news1 h4) (one1c rfl) (by unfold maxLen; have := HN9.out; omega) (by have := HN9.out; omega) (by have := hb9.size; omega) (fun v' w10 hown10 hg10 => ?_)
      obtain ⟨A6, c6, rfl, _⟩ := RowK.own hown10
      have hnb : some b7 ≠ V.ownBlock := fun e => by have := HO9.out.lt _ e.symm; omega
      have hnr : (Value.slice (some ⟨gr, 0, none⟩) y.sh.nr c1).ownBlock ≠ V.ownBlock := fun e => by
        have := HO9.out.lt gr e.symm
        omega
      have hnf : (Value.slice (some ⟨gf, 0, none⟩) y.sh.nf c2).ownBlock ≠ V.ownBlock := fun e => by
        have := HO9.out.lt gf e.symm
        omega
      have HT10 := Lib.hid (HT9.out.grown hg10 hnb)
      have hk10 : Kept [3] w9 w10 := Kept.of_own hg10 HO9.out (by decide)
      have HR10 := Lib.hid (HR9.out.kept hk10 (by simp))
      have HK10 := Lib.hid (HK9.out.kept hk10 (by simp))
      have HRR10 := Lib.hid (HRR9.out.kept hg10 (.inr hnr))
      have HFF10 := Lib.hid (HFF9.out.kept hg10 (.inr hnf))
      have HL10 := Lib.hid (HL9.out.grown hg10 (by have := HT9.out.lt; have := HB7.out; omega) (fun q hq => by have := (HO9.out.lt q hq).1; have := HB7.out; omega))
      have HO10 := Lib.hid hown10
      have hz10 : w5.heap.size ≤ w10.heap.size := by have := hg10.size; have := hb9.size; omega
      have r1 : w10.cell? ⟨b7, 6, none⟩ = some V := HT10.out.cell 6
      have r2 := HT10.out.frozen 6
      clear hown10 hg10 h4 h5 hb9 p0 q1 q2 c0 hnb hnr hnf hk10
      simp only [putF, Act.put, List.setIfInBounds_toArray, List.set_cons_succ, List.set_cons_zero, List.drop_succ_cons, List.drop_zero]
      go_wp2_with fail
      go_roundw
      case rel =>
        have hk11 : Kept [3] w10 (w10.setCell ⟨b7, 6, none⟩ (.slice A6 (k + 1) c6)) := Kept.set HT10.out (by decide) 6 _
        have hs11 : WdRows (w10.setCell ⟨b7, 6, none⟩ (.slice A6 (k + 1) c6)) y.fl (k + 1) (vs ++ [.slice A4 m c4]) := by
          have := (HR10.out.kept hk11 (by simp)).snoc (A := A4) (c := c4) (by rw [HM.out]; exact HK10.out.kept hk11 (by simp)) (by rw [HM.out]; exact hlen)
          rw [HM.out] at this
          exact this
        refine ⟨k + 1, .slice A6 (k + 1) c6, _, by omega, ?_, HT10.out.set 6 (.slice A6 (k + 1) c6), owns_set HO10.out (by omega) 6 (.slice A6 (k + 1) c6), hs11, by simpa using hz10, owns_setT HRR10.out HT10.out (by decide) 6 _, owns_setT HFF10.out HT10.out (by decide) 6 _, HL10.out.setCell (p := ⟨b7, 6, none⟩) (show w.heap.size + 2 ≤ b7 from HB7.out) (.slice A6 (k + 1) c6)⟩
        go_num
      case measure => simp [intOf]; omega
    · obtain rfl : k = y.fl.n := by omega
      obtain ⟨A6, c6, rfl, _⟩ := RowK.own HO.out
      have q10 : wr.cell? ⟨b7, 0, none⟩ = some (.int .i64 y.at_) := HT.out.cell 0
      have q11 : wr.cell? ⟨b7, 1, none⟩ = some (.slice (some ⟨gr, 0, none⟩) y.sh.nr c1) := HT.out.cell 1
      have q12 : wr.cell? ⟨b7, 2, none⟩ = some (.slice (some ⟨gf, 0, none⟩) y.sh.nf c2) := HT.out.cell 2
      have q13 : wr.cell? ⟨b7, 3, none⟩ = some (.int .i64 y.sh.deep) := HT.out.cell 3
      have q14 : wr.cell? ⟨b7, 4, none⟩ = some (.int .i64 y.sh.haul) := HT.out.cell 4
      have q15 : wr.cell? ⟨b7, 5, none⟩ = some (.int .i64 y.sh.rest) := HT.out.cell 5
      have hTR : TBox wr (w.heap.size + 1) 71 #[.int .i64 0, .slice none 0 0, .slice none 0 0, .int .i64 0, .int .i64 0, .int .i64 0, .slice none 0 0] := (HL.out.block (w.heap.size + 1) (by omega)).trans (by have := HTR.out; simpa [TBox] using this)
      have HTR9 := Lib.hid hTR
      have s0 : wr.cell? ⟨w.heap.size + 1, 0, none⟩ = some (.int .i64 0) := hTR.cell 0
      have t0 := hTR.frozen 0
      have s1 : wr.cell? ⟨w.heap.size + 1, 1, none⟩ = some (.slice none 0 0) := hTR.cell 1
      have t1 := hTR.frozen 1
      have s2 : wr.cell? ⟨w.heap.size + 1, 2, none⟩ = some (.slice none 0 0) := hTR.cell 2
      have t2 := hTR.frozen 2
      have s3 : wr.cell? ⟨w.heap.size + 1, 3, none⟩ = some (.int .i64 0) := hTR.cell 3
      have t3 := hTR.frozen 3
      have s4 : wr.cell? ⟨w.heap.size + 1, 4, none⟩ = some (.int .i64 0) := hTR.cell 4
      have t4 := hTR.frozen 4
      have s5 : wr.cell? ⟨w.heap.size + 1, 5, none⟩ = some (.int .i64 0) := hTR.cell 5
      have t5 := hTR.frozen 5
      have s6 : wr.cell? ⟨w.heap.size + 1, 6, none⟩ = some (.slice none 0 0) := hTR.cell 6
      have t6 := hTR.frozen 6
      have hy1 : w.heap.size + 1 < wr.heap.size := hTR.lt
      clear hTR
      go_wp2_with fail
      have hT0 := HTR9.out.set 0 (.int .i64 y.at_)
      have hT1 := hT0.set 1 (.slice (some ⟨gr, 0, none⟩) y.sh.nr c1)
      have hT2 := hT1.set 2 (.slice (some ⟨gf, 0, none⟩) y.sh.nf c2)
      have hT3 := hT2.set 3 (.int .i64 y.sh.deep)
      have hT4 := hT3.set 4 (.int .i64 y.sh.haul)
      have hT5 := hT4.set 5 (.int .i64 y.sh.rest)
      have ty : ∃ cs, TBox wr (w.heap.size + 1) 71 cs := ⟨_, HTR9.out⟩
      refine bodyPost_ret (v := .agg #[.int .i64 y.at_, .slice (some ⟨gr, 0, none⟩) y.sh.nr c1, .slice (some ⟨gf, 0, none⟩) y.sh.nf c2, .int .i64 y.sh.deep, .int .i64 y.sh.haul, .int .i64 y.sh.rest, .slice A6 y.fl.n c6]) (by simp [results, Tryz.results78, go_sem, *]) rfl ⟨⟨gr, gf, c1, c2, .slice A6 y.fl.n c6, vs, rfl, ?_, ?_, ?_, HR.out.kept ((show Kept [3] wr _ from (Kept.trans (Kept.trans (Kept.trans (Kept.trans (Kept.trans (Kept.trans (Kept.set HTR9.out (by decide) 0 _) (Kept.set hT0 (by decide) 1 _)) (Kept.set hT1 (by decide) 2 _)) (Kept.set hT2 (by decide) 3 _)) (Kept.set hT3 (by decide) 4 _)) (Kept.set hT4 (by decide) 5 _)) (Kept.set hT5 (by decide) 6 _)))) (by simp)⟩, ?_⟩
      · refine owns_lower (base := w.heap.size + 2) ?_ (by omega)
        have h := HRR.out
        repeat with_reducible refine owns_setTy (t := 71) ?_ ?_ (by decide) _ _
        with_reducible exact h
        all_goals repeat (first | with_reducible refine TyB.set ?_ _ _ _ | with_reducible exact ty)
      · refine owns_lower (base := w.heap.size + 2) ?_ (by omega)
        have h := HFF.out
        repeat with_reducible refine owns_setTy (t := 71) ?_ ?_ (by decide) _ _
        with_reducible exact h
        all_goals repeat (first | with_reducible refine TyB.set ?_ _ _ _ | with_reducible exact ty)
      · refine owns_lower (base := w5.heap.size) ?_ (by have := HB7.out; omega)
        have h := HO.out
        repeat with_reducible refine owns_setTy (t := 71) ?_ ?_ (by decide) _ _
        with_reducible exact h
        all_goals repeat (first | with_reducible refine TyB.set ?_ _ _ _ | with_reducible exact ty)
      · exact (Below.setCell (p := ⟨w.heap.size + 1, 6, none⟩) (Below.setCell (p := ⟨w.heap.size + 1, 5, none⟩) (Below.setCell (p := ⟨w.heap.size + 1, 4, none⟩) (Below.setCell (p := ⟨w.heap.size + 1, 3, none⟩) (Below.setCell (p := ⟨w.heap.size + 1, 2, none⟩) (Below.setCell (p := ⟨w.heap.size + 1, 1, none⟩) (Below.setCell (p := ⟨w.heap.size + 1, 0, none⟩) HW.out (by simp) (.int .i64 y.at_)) (by simp) (.slice (some ⟨gr, 0, none⟩) y.sh.nr c1)) (by simp) (.slice (some ⟨gf, 0, none⟩) y.sh.nf c2)) (by simp) (.int .i64 y.sh.deep)) (by simp) (.int .i64 y.sh.haul)) (by simp) (.int .i64 y.sh.rest)) (by simp) (.slice A6 y.fl.n c6))
end Go.Proofs.YthnojgdckkdcgaaGreatDoor

namespace Go.Proofs.YthnojgdckkdcgaaGreatDoor
open Go.RowKit Go.Sort
/-- the seven cells of a copied spot -/
def SpK (w : World) (cs : List Value) (y : Spot) : Prop := ∃ Ar Af cr cf u, cs = [.int .i64 y.at_, .slice Ar y.sh.nr cr, .slice Af y.sh.nf cf, .int .i64 y.sh.deep, .int .i64 y.sh.haul, .int .i64 y.sh.rest, u] ∧ RowK w Ar 190 (rockL y.sh.rock y.sh.nr) ∧ RowK w Af 3 (intL y.sh.foot y.sh.nf) ∧ WdK w u y.fl
theorem SpK.kept {l : List TypeId} {w w' : World} {cs : List Value} {y : Spot} (h : SpK w cs y) (hk : Kept l w w') (h1 : 3 ∈ l) (h2 : 34 ∈ l) (h3 : 190 ∈ l) : SpK w' cs y := by
  obtain ⟨Ar, Af, cr, cf, u, e, hr, hf, hu⟩ := h
  exact ⟨Ar, Af, cr, cf, u, e, hr.kept hk h3, hf.kept hk h1, hu.kept hk h1 h2⟩
theorem SpK.mono {w w' : World} {cs : List Value} {y : Spot} (h : SpK w cs y) (hb : Below w.heap.size w w') : SpK w' cs y := h.kept (Kept.of_below (l := [3, 34, 190]) hb) (by simp) (by simp) (by simp)
theorem SpK.len {w : World} {cs : List Value} {y : Spot} (h : SpK w cs y) : cs.length = 7 := by
  obtain ⟨_, _, _, _, _, rfl, _⟩ := h
  rfl
theorem SpK.one {w : World} {cs : List Value} {y : Spot} (h : SpK w cs y) : ∀ v ∈ cs, v.oneCell' = true := by
  obtain ⟨_, _, _, _, u, rfl, _, _, hu⟩ := h
  obtain ⟨_, _, _, rfl, _⟩ := hu
  intro v hv
  simp only [List.mem_cons, List.not_mem_nil, or_false] at hv
  rcases hv with rfl | rfl | rfl | rfl | rfl | rfl | rfl <;> rfl
/-- copied spots in a row -/
def SpRows (w : World) (f : Nat → Spot) (n : Nat) (us : List Value) : Prop := ∃ L : List (List Value), us = L.flatten ∧ L.length = n ∧ ∀ i cs, L[i]? = some cs → SpK w cs (f i)
theorem SpRows.nil {w : World} {f : Nat → Spot} : SpRows w f 0 [] := ⟨[], rfl, rfl, fun i cs h => by simp at h⟩
theorem SpRows.kept {l : List TypeId} {w w' : World} {f : Nat → Spot} {n : Nat} {us : List Value} (h : SpRows w f n us) (hk : Kept l w w') (h1 : 3 ∈ l) (h2 : 34 ∈ l) (h3 : 190 ∈ l) : SpRows w' f n us := by
  obtain ⟨L, e, hl, hc⟩ := h
  exact ⟨L, e, hl, fun i cs hi => (hc i cs hi).kept hk h1 h2 h3⟩
theorem SpRows.mono {w w' : World} {f : Nat → Spot} {n : Nat} {us : List Value} (h : SpRows w f n us) (hb : Below w.heap.size w w') : SpRows w' f n us := h.kept (Kept.of_below (l := [3, 34, 190]) hb) (by simp) (by simp) (by simp)
theorem SpRows.snoc {w : World} {f : Nat → Spot} {n : Nat} {us cs : List Value} (h : SpRows w f n us) (hc : SpK w cs (f n)) : SpRows w f (n + 1) (us ++ cs) := by
  obtain ⟨L, rfl, hl, hL⟩ := h
  refine ⟨L ++ [cs], by simp, by simp [hl], fun i c hi => ?_⟩
  rcases Nat.lt_or_ge i L.length with hlt | hge
  · rw [List.getElem?_append_left hlt] at hi
    exact hL i c hi
  · rw [List.getElem?_append_right hge] at hi
    obtain ⟨h0, rfl⟩ : i - L.length = 0 ∧ cs = c := by
      rcases h0 : i - L.length with _ | j
      · rw [h0] at hi; exact ⟨rfl, by simpa using hi⟩
      · rw [h0] at hi; simp at hi
    obtain rfl : i = n := by omega
    exact hc
theorem flat_get : ∀ {L : List (List Value)} {i : Nat} {cs : List Value}, (∀ c ∈ L, c.length = 7) → L[i]? = some cs → ∀ j, j < 7 → L.flatten[i * 7 + j]? = cs[j]?
  | [], i, cs, _, h, _, _ => by simp at h
  | c :: L, 0, cs, h7, h, j, hj => by
    have h0 : c = cs := by simpa using h
    subst h0
    rw [List.flatten_cons, List.getElem?_append_left (by have := h7 c (by simp); omega), Nat.zero_mul, Nat.zero_add]
  | c :: L, i + 1, cs, h7, h, j, hj => by
    have hc := h7 c (by simp)
    rw [List.flatten_cons, List.getElem?_append_right (by omega), show (i + 1) * 7 + j - c.length = i * 7 + j by omega]
    exact flat_get (fun c hc => h7 c (by simp [hc])) (by simpa using h) j hj
theorem SpRows.spots {w : World} {f : Nat → Spot} {n : Nat} {us : List Value} (h : SpRows w f n us) {A : Option Addr} (hr : RowAt w A us) : SpotsAt w A n f := by
  obtain ⟨L, rfl, hl, hL⟩ := h
  rcases Nat.eq_zero_or_pos n with h0 | h0
  · exact .inl h0
  · have h7 : ∀ c ∈ L, c.length = 7 := fun c hc => by
      obtain ⟨i, hi⟩ := List.getElem?_of_mem hc
      exact (hL i c hi).len
    rcases hr with h1 | ⟨b, o, rfl, hlt, hc⟩
    · exfalso
      obtain ⟨c, hc⟩ : ∃ c, L[0]? = some c := ⟨_, List.getElem?_eq_getElem (by omega)⟩
      have h2 := flat_get h7 hc 0 (by omega)
      obtain ⟨_, _, _, _, _, rfl, _⟩ := hL 0 c hc
      rw [h1] at h2
      simp at h2
    · refine .inr ⟨b, o, rfl, hlt, fun i hi => ?_⟩
      obtain ⟨c, hci⟩ : ∃ c, L[i]? = some c := ⟨_, List.getElem?_eq_getElem (by omega)⟩
      have hg := flat_get h7 hci
      obtain ⟨Ar, Af, cr, cf, u, rfl, h1, h2, h3⟩ := hL i c hci
      obtain ⟨Aw, cw, rfl, hw⟩ := h3.rows
      have cell : ∀ j v, j < 7 → [.int .i64 (f i).at_, .slice Ar (f i).sh.nr cr, .slice Af (f i).sh.nf cf, .int .i64 (f i).sh.deep, .int .i64 (f i).sh.haul, .int .i64 (f i).sh.rest, .slice Aw (f i).fl.n cw][j]? = some v → w.cell? ⟨b, o + (i * 7 + j), none⟩ = some v := fun j v hj hv => hc _ _ ((hg j hj).trans hv)
      exact ⟨Ar, Af, Aw, cr, cf, cw, ⟨rocksAt_row.2 h1.row, intsAt_row.2 h2.row⟩, hw, cell 0 _ (by omega) rfl, by have := cell 1 _ (by omega) rfl; rwa [← Nat.add_assoc] at this, by have := cell 2 _ (by omega) rfl; rwa [← Nat.add_assoc] at this, by have := cell 3 _ (by omega) rfl; rwa [← Nat.add_assoc] at this, by have := cell 4 _ (by omega) rfl; rwa [← Nat.add_assoc] at this, by have := cell 5 _ (by omega) rfl; rwa [← Nat.add_assoc] at this, by have := cell 6 _ (by omega) rfl; rwa [← Nat.add_assoc] at this⟩
/-- a copied town: its rows are the call's own -/
structure CopyAt9 (w : World) (base : Nat) (vW vF vO vP vS : Value) (t : Pt) : Prop where
  q : CopyAt w base vW vF t.q
  old : w.ownsRow base 3 1 vO t.no (intL t.old t.no)
  pence : w.ownsRow base 3 1 vP t.np (intL t.pence t.np)
  spots : ∃ us, w.ownsRow base 71 7 vS t.ns us ∧ SpRows w t.spot t.ns us
theorem CopyAt9.mono {w w' : World} {base : Nat} {vW vF vO vP vS : Value} {t : Pt} (h : CopyAt9 w base vW vF vO vP vS t) (hb : Below w.heap.size w w') : CopyAt9 w' base vW vF vO vP vS t := by
  obtain ⟨h1, h2, h3, us, h4, h5⟩ := h
  exact ⟨h1.mono hb, owns_below h2 hb, owns_below h3 hb, us, owns_below h4 hb, h5.mono hb⟩
theorem CopyAt9.pat {w : World} {base : Nat} {vW vF vO vP vS : Value} {t : Pt} (h : CopyAt9 w base vW vF vO vP vS t) : ∃ Aw cw Af cf Ao co Ap cp As cs, vW = .slice Aw t.q.nw cw ∧ vF = .slice Af t.q.nf cf ∧ vO = .slice Ao t.no co ∧ vP = .slice Ap t.np cp ∧ vS = .slice As t.ns cs ∧ PAt w Aw Af Ao Ap As t := by
  obtain ⟨h1, h2, h3, us, h4, h5⟩ := h
  obtain ⟨Aw, cw, Af, cf, rfl, rfl, hq⟩ := h1.qat
  obtain ⟨Ao, co, rfl, ho⟩ := RowK.own h2
  obtain ⟨Ap, cp, rfl, hp⟩ := RowK.own h3
  obtain ⟨As, cs, rfl, hs⟩ := RowK.own h4
  exact ⟨Aw, cw, Af, cf, Ao, co, Ap, cp, As, cs, rfl, rfl, rfl, rfl, rfl, ⟨hq, intsAt_row.2 ho.row, intsAt_row.2 hp.row, h5.spots hs.row⟩⟩
theorem SpotOwn.spk {w : World} {base : Nat} {y : Spot} {e : Ending} (h : SpotOwn w base y e) : ∃ cs, e = .returned (.agg cs.toArray) ∧ SpK w cs y := by
  obtain ⟨gr, gf, cr, cf, V, vs, rfl, h1, h2, h3, h4⟩ := h
  obtain ⟨A, c, rfl, hk⟩ := RowK.own h3
  obtain ⟨Ar, cr', e1, hr⟩ := RowK.own h1
  obtain ⟨Af, cf', e2, hf⟩ := RowK.own h2
  injection e1 with e1 _ e3
  injection e2 with e2 _ e4
  subst e1 e2 e3 e4
  exact ⟨_, rfl, _, _, _, _, _, rfl, hr, hf, A, c, vs, rfl, hk, h4⟩
theorem infoSpot : (Tryz.prog.info? 71).map (fun i => (i.zero, i.size, i.bytes)) = some (some (.agg #[.int .i64 0, .slice none 0 0, .slice none 0 0, .int .i64 0, .int .i64 0, .int .i64 0, .slice none 0 0]), 7, 104) := by kernel_rfl
end Go.Proofs.YthnojgdckkdcgaaGreatDoor

