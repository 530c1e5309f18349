/- Parts joined. -/
import Derived.Test.YtchhodikgllgnaaDoorJZ
import Derived.Test.YtchhodikgllgnaaDoorJV
import Derived.Test.YtchhodikgllgnaaDoorJQ
import Derived.Test.YtchhodikgllgnaaDoorJW
import Derived.Test.YtchhodikgllgnaaDoorJS
import Derived.Test.YtchhodikgllgnaaDoorJT
import Derived.Test.YtchhodikgllgnaaDoorJR
import Derived.Test.YtchhodikgllgnaaDoorJG
import Derived.Test.YtchhodikgllgnaaDoorJK
set_option linter.unusedSimpArgs false
set_option linter.unusedVariables false
/- What the statement of one fact more says of the plain values. Plain Lean. Conditions: valid towns, where it is said. -/
namespace Go.Proofs.YtchhodikgllgnaaDoor
open Go.RowKit Go.Sort
theorem add_sub (t : Qt) (y : Fact) : ∀ a, a ∈ (t.add y).leftL → a ∈ t.leftL := fun a ha => by
  rw [leftL_add] at ha
  exact (List.mem_filter.1 ha).1
theorem add_len (t : Qt) (y : Fact) : (t.add y).leftL.length ≤ t.leftL.length := by rw [leftL_add]; exact List.length_filter_le _ _
theorem add_small {t : Qt} (h : t.Fits) (y : Fact) : (t.add y).Small :=
  ⟨by have := h.1; show t.nw ≤ _; omega, by have := h.2.1; show t.nf + 1 ≤ _; omega, fun i hi k hk => by have := (h.2.2 i hi).2 k hk; show (t.world i).len k ≤ _; omega⟩
theorem add_cov (t : Qt) (y : Fact) : Cov (t.add y) t (t.add y).leftL t.leftL := fun a ha => ⟨a, add_sub t y a ha, fun _ _ => rfl⟩
theorem any_mem {L : List Int} {x : Int} (h : x ∈ L) : anyB (fun i => intL0 L i == x) L.length = true := by
  obtain ⟨k, hk, e⟩ := mem_intL0 h
  exact anyB_hit (p := fun i => intL0 L i == x) hk (show (intL0 L k == x) = true by rw [e]; simp)
theorem more_in {t o : Qt} {y : Fact} (e : t.add y = o) (ok : t.Ok) (ok' : o.Ok) {k : Nat} (hk : k < o.leftO.length) : anyB (fun i => intL0 t.leftO i == intL0 o.leftO k) t.leftO.length = true := by
  subst e
  rw [leftO_ok ok'] at hk
  rw [leftO_ok ok, leftO_ok ok']
  exact any_mem (add_sub t y _ (intL0_mem hk))
theorem more_len {t o : Qt} {y : Fact} (e : t.add y = o) (ok : t.Ok) (ok' : o.Ok) : o.leftO.length ≤ t.leftO.length := by
  subst e
  rw [leftO_ok ok, leftO_ok ok']
  exact add_len t y
theorem more_know {t o : Qt} {y : Fact} (e : t.add y = o) (ok : t.Ok) (ok' : o.Ok) (hne : o.leftO.length ≠ 0) : t.knowErr true = 0 ∧ o.knowErr true = 0 ∧ o.leftL ≠ [] := by
  subst e
  rw [leftO_ok ok'] at hne
  have h1 : (t.add y).leftL ≠ [] := fun h => hne (by rw [h]; rfl)
  obtain ⟨a, ha⟩ := List.exists_mem_of_ne_nil _ h1
  exact ⟨knowErr_ok ok (List.ne_nil_of_mem (add_sub t y a ha)), knowErr_ok ok' h1, h1⟩
theorem add_wells {t o : Qt} {y : Fact} (e : t.add y = o) : o.wells = t.wells := by subst e; rfl
theorem more_between {t o : Qt} {y : Fact} (e : t.add y = o) (ok : t.Ok) (ok' : o.Ok) (hne : o.leftL ≠ []) {p q : Nat} (h1 : t.knowErr (t.wellB (p : Int) && t.wellB (q : Int)) = 0) (h2 : o.knowErr (o.wellB (p : Int) && o.wellB (q : Int)) = 0) :
    inSpan (o.betweenV p q) (t.betweenV p q) = true ∧ ∀ law, harmK (t.between p q) law ≠ 3 → harmK (o.between p q) law = harmK (t.between p q) law := by
  subst e
  obtain ⟨a, b, c⟩ := spanOf_sub (f := fun a => t.F a (p, q)) (add_sub t y) hne
  constructor
  · unfold Qt.betweenV inSpan
    rw [if_pos h1, if_pos h2, Int.toNat_natCast, Int.toNat_natCast, between_of, between_of]
    simp only [Bool.and_eq_true, decide_eq_true_eq]
    exact ⟨⟨a, b⟩, c⟩
  · intro law hk
    rw [between_of] at hk ⊢
    rw [between_of]
    exact harmK_sub a b c hk
theorem more_depth {t o : Qt} {y : Fact} (e : t.add y = o) (ok : t.Ok) (h1 : t.knowErr true = 0) (h2 : o.knowErr true = 0) : 0 ≤ o.depthOut ∧ o.depthOut ≤ t.depthOut ∧ (lstO 0 (o.fewest o.leftL)).length ≤ (lstO 0 (t.fewest t.leftL)).length := by
  subst e
  unfold Qt.depthOut lstO
  rw [if_pos h1, if_pos h2, if_pos rfl, if_pos rfl]
  exact ⟨depth_nonneg _ _, depth_mono (t := t.add y) (t' := t) rfl _ _ _ (Nat.le_refl _) (add_cov t y) ok.fallsL, fewest_mono (t := t.add y) (t' := t) rfl (add_cov t y)⟩
end Go.Proofs.YtchhodikgllgnaaDoor
/- The statement QuarrelsMore: the walk. Conditions: what is read fits into memory; the listed table holds what it holds. -/
namespace Go.Proofs.YtchhodikgllgnaaDoor
open Go.RowKit Go.Sort
set_option maxHeartbeats 8000000 in
set_option maxRecDepth 100000 in
theorem quarrelsMore_any (Aw Af : Option Addr) (cw cf : Nat) (t : Qt) (y : Fact) (fp fq law : Int) (Ad : Option Addr) (nd cd : Nat) (w : World) (hf : t.Fits) (hT : QAt w Aw Af t) (hB : TabAt w) :
    Calls Tryd.prog 6 #[.agg #[.int .i64 t.wells, .slice Aw t.nw cw, .slice Af t.nf cf], .agg #[.int .i64 y.from_, .int .i64 y.many, .int .i64 y.to_, .int .i64 y.low, .int .i64 y.high], .agg #[.int .i64 fp, .int .i64 fq, .int .i64 law, .slice Ad nd cd]] w fun e w' => e = .returned (.bool true) ∧ Below w.heap.size w w' := by
  have HT0 := Lib.hid hT
  have HTB0 := Lib.hid hB
  have HD0 := Lib.hid (Below.refl w.heap.size w)
  have HS := Lib.hid hf.small
  have HF := Lib.hid hf
  clear hT hB hf
  go_enter Tryd.func6, Tryd.ntmps6
  go_wp2_with fail
  obtain ⟨o, ho⟩ : ∃ o, t.add y = o := ⟨_, rfl⟩
  have HOA := Lib.hid ho
  have HSO := Lib.hid (show o.Small by rw [← ho]; exact add_small HF.out y)
  clear ho
  refine ((by have := told5_any Aw Af cw cf t y _ HF.out (HT0.out.mono (bAlloc (bAlloc (bAlloc (Below.refl _ _) (.cells #[.int .i64 t.wells, .slice Aw t.nw cw, .slice Af t.nf cf] 25)) (.cells #[.int .i64 y.from_, .int .i64 y.many, .int .i64 y.to_, .int .i64 y.low, .int .i64 y.high] 53)) (.cells #[.int .i64 fp, .int .i64 fq, .int .i64 law, .slice Ad nd cd] 45))); rw [HOA.out] at this; exact this : Calls Tryd.prog 36 #[.agg #[.int .i64 t.wells, .slice Aw t.nw cw, .slice Af t.nf cf], .agg #[.int .i64 y.from_, .int .i64 y.many, .int .i64 y.to_, .int .i64 y.low, .int .i64 y.high]] (((w.alloc (.cells #[.int .i64 t.wells, .slice Aw t.nw cw, .slice Af t.nf cf] 25)).alloc (.cells #[.int .i64 y.from_, .int .i64 y.many, .int .i64 y.to_, .int .i64 y.low, .int .i64 y.high] 53)).alloc (.cells #[.int .i64 fp, .int .i64 fq, .int .i64 law, .slice Ad nd cd] 45)) fun e w' => CopyOut w' (((w.alloc (.cells #[.int .i64 t.wells, .slice Aw t.nw cw, .slice Af t.nf cf] 25)).alloc (.cells #[.int .i64 y.from_, .int .i64 y.many, .int .i64 y.to_, .int .i64 y.low, .int .i64 y.high] 53)).alloc (.cells #[.int .i64 fp, .int .i64 fq, .int .i64 law, .slice Ad nd cd] 45)).heap.size o e ∧ Below (((w.alloc (.cells #[.int .i64 t.wells, .slice Aw t.nw cw, .slice Af t.nf cf] 25)).alloc (.cells #[.int .i64 y.from_, .int .i64 y.many, .int .i64 y.to_, .int .i64 y.low, .int .i64 y.high] 53)).alloc (.cells #[.int .i64 fp, .int .i64 fq, .int .i64 law, .slice Ad nd cd] 45)).heap.size (((w.alloc (.cells #[.int .i64 t.wells, .slice Aw t.nw cw, .slice Af t.nf cf] 25)).alloc (.cells #[.int .i64 y.from_, .int .i64 y.many, .int .i64 y.to_, .int .i64 y.low, .int .i64 y.high] 53)).alloc (.cells #[.int .i64 fp, .int .i64 fq, .int .i64 law, .slice Ad nd cd] 45)) w')).mono ?_
  rintro e w1 ⟨⟨vW, vF, rfl, hc⟩, hb⟩
  obtain ⟨Bw, dw, Bf, df, rfl, rfl, hq⟩ := hc.qat
  have hB1 : Below w.heap.size w w1 := bTrans (bAlloc (bAlloc (bAlloc (Below.refl _ _) (.cells #[.int .i64 t.wells, .slice Aw t.nw cw, .slice Af t.nf cf] 25)) (.cells #[.int .i64 y.from_, .int .i64 y.many, .int .i64 y.to_, .int .i64 y.low, .int .i64 y.high] 53)) (.cells #[.int .i64 fp, .int .i64 fq, .int .i64 law, .slice Ad nd cd] 45)) hb
  have HD1 := Lib.hid (bTrans HD0.out hB1)
  have HT1 := Lib.hid (HT0.out.mono hB1)
  have HTB1 := Lib.hid (HTB0.out.mono hB1)
  have HQ1 := Lib.hid (hq)
  have T1 := Lib.hid (show TBox w1 w.heap.size 25 #[.int .i64 t.wells, .slice Aw t.nw cw, .slice Af t.nf cf] from by have := ((TBox.new w #[.int .i64 t.wells, .slice Aw t.nw cw, .slice Af t.nf cf] 25).mono (bAlloc (bAlloc (Below.refl _ _) (.cells #[.int .i64 y.from_, .int .i64 y.many, .int .i64 y.to_, .int .i64 y.low, .int .i64 y.high] 53)) (.cells #[.int .i64 fp, .int .i64 fq, .int .i64 law, .slice Ad nd cd] 45))).mono hb; simpa using this)
  have Y1 := Lib.hid (show TBox w1 (w.heap.size + 1) 53 #[.int .i64 y.from_, .int .i64 y.many, .int .i64 y.to_, .int .i64 y.low, .int .i64 y.high] from by have := ((TBox.new (w.alloc (.cells #[.int .i64 t.wells, .slice Aw t.nw cw, .slice Af t.nf cf] 25)) #[.int .i64 y.from_, .int .i64 y.many, .int .i64 y.to_, .int .i64 y.low, .int .i64 y.high] 53).mono (bAlloc (Below.refl _ _) (.cells #[.int .i64 fp, .int .i64 fq, .int .i64 law, .slice Ad nd cd] 45))).mono hb; simpa using this)
  have X1 := Lib.hid (show TBox w1 (w.heap.size + 1 + 1) 45 #[.int .i64 fp, .int .i64 fq, .int .i64 law, .slice Ad nd cd] from by have := ((TBox.new ((w.alloc (.cells #[.int .i64 t.wells, .slice Aw t.nw cw, .slice Af t.nf cf] 25)).alloc (.cells #[.int .i64 y.from_, .int .i64 y.many, .int .i64 y.to_, .int .i64 y.low, .int .i64 y.high] 53)) #[.int .i64 fp, .int .i64 fq, .int .i64 law, .slice Ad nd cd] 45).mono (Below.refl _ _)).mono hb; simpa using this)
  clear hb hB1 HD0 HT0 HTB0
  obtain ⟨T_0, T_1, T_2, T_l⟩ := T1.out.c3
  obtain ⟨Y_0, Y_1, Y_2, Y_3, Y_4, Y_l⟩ := Y1.out.c5
  obtain ⟨X_0, X_1, X_2, X_3, X_l⟩ := X1.out.c4
  clear hc hq
  go_wp2_with fail
  refine (ready_any _ _ _ _ t _ HS.out (HT1.out.mono (bAlloc (Below.refl _ _) (.cells #[.int .i64 o.wells, .slice Bw o.nw dw, .slice Bf o.nf df] 25)))).mono ?_
  rintro e w2 ⟨rfl, hb⟩
  have hB2 : Below w1.heap.size w1 w2 := bTrans (bAlloc (Below.refl _ _) (.cells #[.int .i64 o.wells, .slice Bw o.nw dw, .slice Bf o.nf df] 25)) hb
  have HD2 := Lib.hid (bTrans HD1.out hB2)
  have HT2 := Lib.hid (HT1.out.mono hB2)
  have HTB2 := Lib.hid (HTB1.out.mono hB2)
  have HQ2 := Lib.hid (HQ1.out.mono hB2)
  have T2 := Lib.hid (T1.out.mono hB2)
  have Y2 := Lib.hid (Y1.out.mono hB2)
  have X2 := Lib.hid (X1.out.mono hB2)
  have O2 := Lib.hid (show TBox w2 w1.heap.size 25 #[.int .i64 o.wells, .slice Bw o.nw dw, .slice Bf o.nf df] from by have := ((TBox.new w1 #[.int .i64 o.wells, .slice Bw o.nw dw, .slice Bf o.nf df] 25).mono (Below.refl _ _)).mono hb; simpa using this)
  clear hb hB2 HD1 HT1 HTB1 HQ1 T1 T_0 T_1 T_2 T_l Y1 Y_0 Y_1 Y_2 Y_3 Y_4 Y_l X1 X_0 X_1 X_2 X_3 X_l
  obtain ⟨T_0, T_1, T_2, T_l⟩ := T2.out.c3
  obtain ⟨Y_0, Y_1, Y_2, Y_3, Y_4, Y_l⟩ := Y2.out.c5
  obtain ⟨X_0, X_1, X_2, X_3, X_l⟩ := X2.out.c4
  obtain ⟨O_0, O_1, O_2, O_l⟩ := O2.out.c3
  obtain ⟨bq, hbq⟩ : ∃ b, t.readyB = b := ⟨_, rfl⟩
  rw [hbq]
  have HR1 := Lib.hid hbq
  clear hbq
  cases bq
  case false =>
    go_wp2_with fail
    refine (works5_any _ HTB2.out).mono ?_
    rintro e w99 ⟨rfl, hb99⟩
    go_wp2_with fail
    go_ret
    exact ⟨rfl, bTrans HD2.out hb99⟩
  go_wp2_with fail
  refine (ready_any _ _ _ _ o _ HSO.out HQ2.out).mono ?_
  rintro e w3 ⟨rfl, hb⟩
  have hB3 : Below w2.heap.size w2 w3 := bTrans (Below.refl _ _) hb
  have HD3 := Lib.hid (bTrans HD2.out hB3)
  have HT3 := Lib.hid (HT2.out.mono hB3)
  have HTB3 := Lib.hid (HTB2.out.mono hB3)
  have HQ3 := Lib.hid (HQ2.out.mono hB3)
  have T3 := Lib.hid (T2.out.mono hB3)
  have Y3 := Lib.hid (Y2.out.mono hB3)
  have X3 := Lib.hid (X2.out.mono hB3)
  have O3 := Lib.hid (O2.out.mono hB3)
  clear hb hB3 HD2 HT2 HTB2 HQ2 T2 T_0 T_1 T_2 T_l Y2 Y_0 Y_1 Y_2 Y_3 Y_4 Y_l X2 X_0 X_1 X_2 X_3 X_l O2 O_0 O_1 O_2 O_l
  obtain ⟨T_0, T_1, T_2, T_l⟩ := T3.out.c3
  obtain ⟨Y_0, Y_1, Y_2, Y_3, Y_4, Y_l⟩ := Y3.out.c5
  obtain ⟨X_0, X_1, X_2, X_3, X_l⟩ := X3.out.c4
  obtain ⟨O_0, O_1, O_2, O_l⟩ := O3.out.c3
  obtain ⟨bq, hbq⟩ : ∃ b, o.readyB = b := ⟨_, rfl⟩
  rw [hbq]
  have HR2 := Lib.hid hbq
  clear hbq
  cases bq
  case false =>
    go_wp2_with fail
    refine (works5_any _ HTB3.out).mono ?_
    rintro e w99 ⟨rfl, hb99⟩
    go_wp2_with fail
    go_ret
    exact ⟨rfl, bTrans HD3.out hb99⟩
  go_wp2_with fail
  refine (isWell5_any _ _ _ _ t fp _).mono ?_
  rintro e w4 ⟨rfl, hb⟩
  have hB4 : Below w3.heap.size w3 w4 := bTrans (Below.refl _ _) hb
  have HD4 := Lib.hid (bTrans HD3.out hB4)
  have HT4 := Lib.hid (HT3.out.mono hB4)
  have HTB4 := Lib.hid (HTB3.out.mono hB4)
  have HQ4 := Lib.hid (HQ3.out.mono hB4)
  have T4 := Lib.hid (T3.out.mono hB4)
  have Y4 := Lib.hid (Y3.out.mono hB4)
  have X4 := Lib.hid (X3.out.mono hB4)
  have O4 := Lib.hid (O3.out.mono hB4)
  clear hb hB4 HD3 HT3 HTB3 HQ3 T3 T_0 T_1 T_2 T_l Y3 Y_0 Y_1 Y_2 Y_3 Y_4 Y_l X3 X_0 X_1 X_2 X_3 X_l O3 O_0 O_1 O_2 O_l
  obtain ⟨T_0, T_1, T_2, T_l⟩ := T4.out.c3
  obtain ⟨Y_0, Y_1, Y_2, Y_3, Y_4, Y_l⟩ := Y4.out.c5
  obtain ⟨X_0, X_1, X_2, X_3, X_l⟩ := X4.out.c4
  obtain ⟨O_0, O_1, O_2, O_l⟩ := O4.out.c3
  obtain ⟨bq, hbq⟩ : ∃ b, t.wellB fp = b := ⟨_, rfl⟩
  rw [hbq]
  have HW1 := Lib.hid hbq
  clear hbq
  cases bq
  case false =>
    go_wp2_with fail
    refine (works5_any _ HTB4.out).mono ?_
    rintro e w99 ⟨rfl, hb99⟩
    go_wp2_with fail
    go_ret
    exact ⟨rfl, bTrans HD4.out hb99⟩
  go_wp2_with fail
  refine (isWell5_any _ _ _ _ t fq _).mono ?_
  rintro e w5 ⟨rfl, hb⟩
  have hB5 : Below w4.heap.size w4 w5 := bTrans (Below.refl _ _) hb
  have HD5 := Lib.hid (bTrans HD4.out hB5)
  have HT5 := Lib.hid (HT4.out.mono hB5)
  have HTB5 := Lib.hid (HTB4.out.mono hB5)
  have HQ5 := Lib.hid (HQ4.out.mono hB5)
  have T5 := Lib.hid (T4.out.mono hB5)
  have Y5 := Lib.hid (Y4.out.mono hB5)
  have X5 := Lib.hid (X4.out.mono hB5)
  have O5 := Lib.hid (O4.out.mono hB5)
  clear hb hB5 HD4 HT4 HTB4 HQ4 T4 T_0 T_1 T_2 T_l Y4 Y_0 Y_1 Y_2 Y_3 Y_4 Y_l X4 X_0 X_1 X_2 X_3 X_l O4 O_0 O_1 O_2 O_l
  obtain ⟨T_0, T_1, T_2, T_l⟩ := T5.out.c3
  obtain ⟨Y_0, Y_1, Y_2, Y_3, Y_4, Y_l⟩ := Y5.out.c5
  obtain ⟨X_0, X_1, X_2, X_3, X_l⟩ := X5.out.c4
  obtain ⟨O_0, O_1, O_2, O_l⟩ := O5.out.c3
  obtain ⟨bq, hbq⟩ : ∃ b, t.wellB fq = b := ⟨_, rfl⟩
  rw [hbq]
  have HW2 := Lib.hid hbq
  clear hbq
  cases bq
  case false =>
    go_wp2_with fail
    refine (works5_any _ HTB5.out).mono ?_
    rintro e w99 ⟨rfl, hb99⟩
    go_wp2_with fail
    go_ret
    exact ⟨rfl, bTrans HD5.out hb99⟩
  go_wp2_with fail
  refine (isLaw5_any law _).mono ?_
  rintro e w6 ⟨rfl, hb⟩
  have hB6 : Below w5.heap.size w5 w6 := bTrans (Below.refl _ _) hb
  have HD6 := Lib.hid (bTrans HD5.out hB6)
  have HT6 := Lib.hid (HT5.out.mono hB6)
  have HTB6 := Lib.hid (HTB5.out.mono hB6)
  have HQ6 := Lib.hid (HQ5.out.mono hB6)
  have T6 := Lib.hid (T5.out.mono hB6)
  have Y6 := Lib.hid (Y5.out.mono hB6)
  have X6 := Lib.hid (X5.out.mono hB6)
  have O6 := Lib.hid (O5.out.mono hB6)
  clear hb hB6 HD5 HT5 HTB5 HQ5 T5 T_0 T_1 T_2 T_l Y5 Y_0 Y_1 Y_2 Y_3 Y_4 Y_l X5 X_0 X_1 X_2 X_3 X_l O5 O_0 O_1 O_2 O_l
  obtain ⟨T_0, T_1, T_2, T_l⟩ := T6.out.c3
  obtain ⟨Y_0, Y_1, Y_2, Y_3, Y_4, Y_l⟩ := Y6.out.c5
  obtain ⟨X_0, X_1, X_2, X_3, X_l⟩ := X6.out.c4
  obtain ⟨O_0, O_1, O_2, O_l⟩ := O6.out.c3
  obtain ⟨bq, hbq⟩ : ∃ b, inR law 0 99 = b := ⟨_, rfl⟩
  rw [hbq]
  have HLW := Lib.hid hbq
  clear hbq
  cases bq
  case false =>
    go_wp2_with fail
    refine (works5_any _ HTB6.out).mono ?_
    rintro e w99 ⟨rfl, hb99⟩
    go_wp2_with fail
    go_ret
    exact ⟨rfl, bTrans HD6.out hb99⟩
  go_wp2_with fail
  have HOK := Lib.hid (readyB_ok HR1.out).1
  have HOK2 := Lib.hid (readyB_ok HR2.out).1
  have hw1 := inR_iff.1 ((wellB_ok HOK.out fp).symm.trans HW1.out)
  have hw2 := inR_iff.1 ((wellB_ok HOK.out fq).symm.trans HW2.out)
  obtain ⟨p, rfl⟩ : ∃ p : Nat, fp = (p : Int) := ⟨fp.toNat, by omega⟩
  obtain ⟨q, rfl⟩ : ∃ q : Nat, fq = (q : Int) := ⟨fq.toNat, by omega⟩
  have HP := Lib.hid (show (p : Int) < t.wells by omega)
  have HQQ := Lib.hid (show (q : Int) < t.wells by omega)
  clear hw1 hw2
  obtain ⟨n1, hn1⟩ : ∃ n, t.leftO.length = n := ⟨_, rfl⟩
  obtain ⟨n2, hn2⟩ : ∃ n, o.leftO.length = n := ⟨_, rfl⟩
  have HN1 := Lib.hid hn1
  have HN2 := Lib.hid hn2
  have hle1 : ¬ (n1 : Int) > (t.nw : Int) := by have := leftO_len HOK.out; omega
  have hle2 : ¬ (n2 : Int) > (n1 : Int) := by have := more_len HOA.out HOK.out HOK2.out; omega
  have hle1n : decide (t.nw < n1) = false := by simp; omega
  have hle2n : decide (n1 < n2) = false := by simp; omega
  have hn6 : n2 ≤ 6 := by have := leftO_len HOK2.out; have := HOK2.out.nw; omega
  clear hn1 hn2
  refine (leftQ_any Aw Af cw cf t _ HS.out HT6.out HTB6.out).mono ?_
  rintro e w7 ⟨ho, hb⟩
  obtain ⟨v, rfl, ⟨A4, c4, rfl, hi⟩, hl⟩ := ho.lst
  rw [HN1.out] at hi hl ⊢
  rw [Qt.err_ok HOK.out]
  have hB7 : Below w6.heap.size w6 w7 := bTrans (Below.refl _ _) hb
  have HD7 := Lib.hid (bTrans HD6.out hB7)
  have HT7 := Lib.hid (HT6.out.mono hB7)
  have HTB7 := Lib.hid (HTB6.out.mono hB7)
  have HQ7 := Lib.hid (HQ6.out.mono hB7)
  have HI47 := Lib.hid (hi)
  have T7 := Lib.hid (T6.out.mono hB7)
  have Y7 := Lib.hid (Y6.out.mono hB7)
  have X7 := Lib.hid (X6.out.mono hB7)
  have O7 := Lib.hid (O6.out.mono hB7)
  clear hb hB7 HD6 HT6 HTB6 HQ6 T6 T_0 T_1 T_2 T_l Y6 Y_0 Y_1 Y_2 Y_3 Y_4 Y_l X6 X_0 X_1 X_2 X_3 X_l O6 O_0 O_1 O_2 O_l
  obtain ⟨T_0, T_1, T_2, T_l⟩ := T7.out.c3
  obtain ⟨Y_0, Y_1, Y_2, Y_3, Y_4, Y_l⟩ := Y7.out.c5
  obtain ⟨X_0, X_1, X_2, X_3, X_l⟩ := X7.out.c4
  obtain ⟨O_0, O_1, O_2, O_l⟩ := O7.out.c3
  have HL4 := Lib.hid hl
  clear ho hi hl
  go_wp2_with fail
  refine (leftQ_any Bw Bf dw df o _ HSO.out HQ7.out HTB7.out).mono ?_
  rintro e w8 ⟨ho, hb⟩
  obtain ⟨v, rfl, ⟨A6, c6, rfl, hi⟩, hl⟩ := ho.lst
  rw [HN2.out] at hi hl ⊢
  rw [Qt.err_ok HOK2.out]
  have hB8 : Below w7.heap.size w7 w8 := bTrans (Below.refl _ _) hb
  have HD8 := Lib.hid (bTrans HD7.out hB8)
  have HT8 := Lib.hid (HT7.out.mono hB8)
  have HTB8 := Lib.hid (HTB7.out.mono hB8)
  have HQ8 := Lib.hid (HQ7.out.mono hB8)
  have HI48 := Lib.hid (HI47.out.mono hB8)
  have HI68 := Lib.hid (hi)
  have T8 := Lib.hid (T7.out.mono hB8)
  have Y8 := Lib.hid (Y7.out.mono hB8)
  have X8 := Lib.hid (X7.out.mono hB8)
  have O8 := Lib.hid (O7.out.mono hB8)
  clear hb hB8 HD7 HT7 HTB7 HQ7 HI47 T7 T_0 T_1 T_2 T_l Y7 Y_0 Y_1 Y_2 Y_3 Y_4 Y_l X7 X_0 X_1 X_2 X_3 X_l O7 O_0 O_1 O_2 O_l
  obtain ⟨T_0, T_1, T_2, T_l⟩ := T8.out.c3
  obtain ⟨Y_0, Y_1, Y_2, Y_3, Y_4, Y_l⟩ := Y8.out.c5
  obtain ⟨X_0, X_1, X_2, X_3, X_l⟩ := X8.out.c4
  obtain ⟨O_0, O_1, O_2, O_l⟩ := O8.out.c3
  have HL6 := Lib.hid hl
  clear ho hi hl
  go_wp2_with fail
  go_loopw [12] (fun s wr => ∃ k : Nat, k ≤ n2 ∧ s = .int .i64 (k : Int) ∧ Below w8.heap.size w8 wr) (fun s _ => n2 - (intOf s).toNat)
  case atStart => exact ⟨0, Nat.zero_le _, rfl, Below.refl _ _⟩
  case round =>
    obtain ⟨k, hk, rfl, hb⟩ := hrel
    have hB9 : Below w8.heap.size w8 wr := bTrans (Below.refl _ _) hb
    have HD9 := Lib.hid (bTrans HD8.out hB9)
    have HT9 := Lib.hid (HT8.out.mono hB9)
    have HTB9 := Lib.hid (HTB8.out.mono hB9)
    have HQ9 := Lib.hid (HQ8.out.mono hB9)
    have HI49 := Lib.hid (HI48.out.mono hB9)
    have HI69 := Lib.hid (HI68.out.mono hB9)
    have HRL9 := Lib.hid ((show Upto w8 wr from hb))
    have T9 := Lib.hid (T8.out.mono hB9)
    have Y9 := Lib.hid (Y8.out.mono hB9)
    have X9 := Lib.hid (X8.out.mono hB9)
    have O9 := Lib.hid (O8.out.mono hB9)
    clear hb hB9 HD8 HT8 HTB8 HQ8 HI48 HI68 T8 T_0 T_1 T_2 T_l Y8 Y_0 Y_1 Y_2 Y_3 Y_4 Y_l X8 X_0 X_1 X_2 X_3 X_l O8 O_0 O_1 O_2 O_l
    obtain ⟨T_0, T_1, T_2, T_l⟩ := T9.out.c3
    obtain ⟨Y_0, Y_1, Y_2, Y_3, Y_4, Y_l⟩ := Y9.out.c5
    obtain ⟨X_0, X_1, X_2, X_3, X_l⟩ := X9.out.c4
    obtain ⟨O_0, O_1, O_2, O_l⟩ := O9.out.c3
    by_cases hlt : k < n2
    case pos =>
      obtain ⟨b, o', rfl, hbl, c0⟩ := HI69.out.get hlt
      have k1 : (k : Int) < (n2 : Int) := by omega
      have k0 : (0 : Int) ≤ (k : Int) := by omega
      obtain ⟨v, hv⟩ : ∃ v, intL0 o.leftO k = v := ⟨_, rfl⟩
      rw [hv] at c0
      have HMI := Lib.hid (by
        have := more_in HOA.out HOK.out HOK2.out (k := k) (by rw [HN2.out]; exact hlt)
        rw [HN1.out, hv] at this
        exact this)
      clear hv
      go_wp2_with fail
      refine (in1_any A4 n1 c4 (intL0 t.leftO) v _ HL4.out HI49.out).mono ?_
      rintro e w10 ⟨rfl, hb⟩
      rw [HMI.out]
      have hB10 : Below wr.heap.size wr w10 := bTrans (Below.refl _ _) hb
      have HD10 := Lib.hid (bTrans HD9.out hB10)
      have HT10 := Lib.hid (HT9.out.mono hB10)
      have HTB10 := Lib.hid (HTB9.out.mono hB10)
      have HQ10 := Lib.hid (HQ9.out.mono hB10)
      have HI410 := Lib.hid (HI49.out.mono hB10)
      have HI610 := Lib.hid (HI69.out.mono hB10)
      have HRL10 := Lib.hid (HRL9.out.mono hB10)
      have T10 := Lib.hid (T9.out.mono hB10)
      have Y10 := Lib.hid (Y9.out.mono hB10)
      have X10 := Lib.hid (X9.out.mono hB10)
      have O10 := Lib.hid (O9.out.mono hB10)
      clear hb hB10 HD9 HT9 HTB9 HQ9 HI49 HI69 HRL9 T9 T_0 T_1 T_2 T_l Y9 Y_0 Y_1 Y_2 Y_3 Y_4 Y_l X9 X_0 X_1 X_2 X_3 X_l O9 O_0 O_1 O_2 O_l
      obtain ⟨T_0, T_1, T_2, T_l⟩ := T10.out.c3
      obtain ⟨Y_0, Y_1, Y_2, Y_3, Y_4, Y_l⟩ := Y10.out.c5
      obtain ⟨X_0, X_1, X_2, X_3, X_l⟩ := X10.out.c4
      obtain ⟨O_0, O_1, O_2, O_l⟩ := O10.out.c3
      go_wp2_with fail
      go_roundw
      case rel =>
        have hz := HRL10.out
        first
        | exact ⟨k + 1, by omega, by go_num, hz⟩
        | ((repeat apply Exists.intro)
           refine ⟨⟨k + 1, by omega, ?_, hz⟩, rfl⟩
           go_num)
      case measure => simp [intOf]; omega
    obtain rfl : k = n2 := by omega
    have k1 : ¬ (k : Int) < (k : Int) := by omega
    by_cases hk0 : k = 0
    case pos =>
      subst hk0
      go_wp2_with fail
      refine (works5_any _ HTB9.out).mono ?_
      rintro e w99 ⟨rfl, hb99⟩
      go_wp2_with fail
      go_ret
      exact ⟨rfl, bTrans HD9.out hb99⟩
    have hk1 : ((k : Int) == 0) = false := by simp; omega
    have HKN := Lib.hid (more_know HOA.out HOK.out HOK2.out (by rw [HN2.out]; exact hk0))
    clear hk0
    go_wp2_with fail
    have hbw1 : t.knowErr (t.wellB (p : Int) && t.wellB (q : Int)) = 0 := by rw [wellB_in HOK.out HP.out, wellB_in HOK.out HQQ.out]; exact HKN.out.1
    have hbw2 : o.knowErr (o.wellB (p : Int) && o.wellB (q : Int)) = 0 := by rw [wellB_in HOK2.out (by rw [add_wells HOA.out]; exact HP.out), wellB_in HOK2.out (by rw [add_wells HOA.out]; exact HQQ.out)]; exact HKN.out.2.1
    have hmb := more_between HOA.out HOK.out HOK2.out HKN.out.2.2 hbw1 hbw2
    have HBW1 := Lib.hid hbw1
    have HBW2 := Lib.hid hbw2
    obtain ⟨b1, hb1⟩ : ∃ v, (t.betweenV (p : Int) (q : Int)).1 = v := ⟨_, rfl⟩
    obtain ⟨b2, hb2⟩ : ∃ v, (t.betweenV (p : Int) (q : Int)).2 = v := ⟨_, rfl⟩
    obtain ⟨u1, hu1⟩ : ∃ v, (o.betweenV (p : Int) (q : Int)).1 = v := ⟨_, rfl⟩
    obtain ⟨u2, hu2⟩ : ∃ v, (o.betweenV (p : Int) (q : Int)).2 = v := ⟨_, rfl⟩
    have HB1 := Lib.hid (And.intro hb1 hb2)
    have HB2 := Lib.hid (And.intro hu1 hu2)
    have HIS := Lib.hid (show inSpan (u1, u2) (b1, b2) = true by rw [← hb1, ← hb2, ← hu1, ← hu2]; exact hmb.1)
    obtain ⟨kh, hkh⟩ : ∃ v, harmK (t.between p q) law = v := ⟨_, rfl⟩
    obtain ⟨lh, hlh⟩ : ∃ v, harmK (o.between p q) law = v := ⟨_, rfl⟩
    have HHK := Lib.hid (And.intro hkh hlh)
    have HKL := Lib.hid (show kh ≠ 3 → lh = kh by rw [← hkh, ← hlh]; exact hmb.2 law)
    clear hb1 hb2 hu1 hu2 hmb hkh hlh hbw1 hbw2
    refine (betweenQ_any Aw Af cw cf t (p : Int) (q : Int) _ HS.out HT9.out HTB9.out).mono ?_
    rintro e w10 ⟨rfl, hb⟩
    rw [HB1.out.1, HB1.out.2, HBW1.out]
    have hB10 : Below wr.heap.size wr w10 := bTrans (Below.refl _ _) hb
    have HD10 := Lib.hid (bTrans HD9.out hB10)
    have HT10 := Lib.hid (HT9.out.mono hB10)
    have HTB10 := Lib.hid (HTB9.out.mono hB10)
    have HQ10 := Lib.hid (HQ9.out.mono hB10)
    have HI410 := Lib.hid (HI49.out.mono hB10)
    have HI610 := Lib.hid (HI69.out.mono hB10)
    have HRL10 := Lib.hid (HRL9.out.mono hB10)
    have T10 := Lib.hid (T9.out.mono hB10)
    have Y10 := Lib.hid (Y9.out.mono hB10)
    have X10 := Lib.hid (X9.out.mono hB10)
    have O10 := Lib.hid (O9.out.mono hB10)
    clear hb hB10 HD9 HT9 HTB9 HQ9 HI49 HI69 HRL9 T9 T_0 T_1 T_2 T_l Y9 Y_0 Y_1 Y_2 Y_3 Y_4 Y_l X9 X_0 X_1 X_2 X_3 X_l O9 O_0 O_1 O_2 O_l
    obtain ⟨T_0, T_1, T_2, T_l⟩ := T10.out.c3
    obtain ⟨Y_0, Y_1, Y_2, Y_3, Y_4, Y_l⟩ := Y10.out.c5
    obtain ⟨X_0, X_1, X_2, X_3, X_l⟩ := X10.out.c4
    obtain ⟨O_0, O_1, O_2, O_l⟩ := O10.out.c3
    go_wp2_with fail
    refine (betweenQ_any Bw Bf dw df o (p : Int) (q : Int) _ HSO.out (HQ10.out.mono (bAlloc (Below.refl _ _) (.cells #[.int .i64 b1, .int .i64 b2] 47))) (HTB10.out.mono (bAlloc (Below.refl _ _) (.cells #[.int .i64 b1, .int .i64 b2] 47)))).mono ?_
    rintro e w11 ⟨rfl, hb⟩
    rw [HB2.out.1, HB2.out.2, HBW2.out]
    have hB11 : Below w10.heap.size w10 w11 := bTrans (bAlloc (Below.refl _ _) (.cells #[.int .i64 b1, .int .i64 b2] 47)) hb
    have HD11 := Lib.hid (bTrans HD10.out hB11)
    have HT11 := Lib.hid (HT10.out.mono hB11)
    have HTB11 := Lib.hid (HTB10.out.mono hB11)
    have HQ11 := Lib.hid (HQ10.out.mono hB11)
    have HI411 := Lib.hid (HI410.out.mono hB11)
    have HI611 := Lib.hid (HI610.out.mono hB11)
    have HRL11 := Lib.hid (HRL10.out.mono hB11)
    have T11 := Lib.hid (T10.out.mono hB11)
    have Y11 := Lib.hid (Y10.out.mono hB11)
    have X11 := Lib.hid (X10.out.mono hB11)
    have O11 := Lib.hid (O10.out.mono hB11)
    have S111 := Lib.hid (show TBox w11 w10.heap.size 47 #[.int .i64 b1, .int .i64 b2] from by have := ((TBox.new w10 #[.int .i64 b1, .int .i64 b2] 47).mono (Below.refl _ _)).mono hb; simpa using this)
    clear hb hB11 HD10 HT10 HTB10 HQ10 HI410 HI610 HRL10 T10 T_0 T_1 T_2 T_l Y10 Y_0 Y_1 Y_2 Y_3 Y_4 Y_l X10 X_0 X_1 X_2 X_3 X_l O10 O_0 O_1 O_2 O_l
    obtain ⟨T_0, T_1, T_2, T_l⟩ := T11.out.c3
    obtain ⟨Y_0, Y_1, Y_2, Y_3, Y_4, Y_l⟩ := Y11.out.c5
    obtain ⟨X_0, X_1, X_2, X_3, X_l⟩ := X11.out.c4
    obtain ⟨O_0, O_1, O_2, O_l⟩ := O11.out.c3
    obtain ⟨S1_0, S1_1, S1_l⟩ := S111.out.c2
    go_wp2_with fail
    refine (harmsQ_any Aw Af cw cf t (p : Int) (q : Int) law _ HS.out (HT11.out.mono (bAlloc (Below.refl _ _) (.cells #[.int .i64 u1, .int .i64 u2] 47))) (HTB11.out.mono (bAlloc (Below.refl _ _) (.cells #[.int .i64 u1, .int .i64 u2] 47)))).mono ?_
    rintro e w12 ⟨rfl, hb⟩
    rw [show t.knowErr (t.wellB (p : Int) && t.wellB (q : Int) && inR law 0 99) = 0 by rw [HLW.out, Bool.and_true]; exact HBW1.out, if_pos rfl, Int.toNat_natCast, Int.toNat_natCast, HHK.out.1]
    have hB12 : Below w11.heap.size w11 w12 := bTrans (bAlloc (Below.refl _ _) (.cells #[.int .i64 u1, .int .i64 u2] 47)) hb
    have HD12 := Lib.hid (bTrans HD11.out hB12)
    have HT12 := Lib.hid (HT11.out.mono hB12)
    have HTB12 := Lib.hid (HTB11.out.mono hB12)
    have HQ12 := Lib.hid (HQ11.out.mono hB12)
    have HI412 := Lib.hid (HI411.out.mono hB12)
    have HI612 := Lib.hid (HI611.out.mono hB12)
    have HRL12 := Lib.hid (HRL11.out.mono hB12)
    have T12 := Lib.hid (T11.out.mono hB12)
    have Y12 := Lib.hid (Y11.out.mono hB12)
    have X12 := Lib.hid (X11.out.mono hB12)
    have O12 := Lib.hid (O11.out.mono hB12)
    have S112 := Lib.hid (S111.out.mono hB12)
    have S212 := Lib.hid (show TBox w12 w11.heap.size 47 #[.int .i64 u1, .int .i64 u2] from by have := ((TBox.new w11 #[.int .i64 u1, .int .i64 u2] 47).mono (Below.refl _ _)).mono hb; simpa using this)
    clear hb hB12 HD11 HT11 HTB11 HQ11 HI411 HI611 HRL11 T11 T_0 T_1 T_2 T_l Y11 Y_0 Y_1 Y_2 Y_3 Y_4 Y_l X11 X_0 X_1 X_2 X_3 X_l O11 O_0 O_1 O_2 O_l S111 S1_0 S1_1 S1_l
    obtain ⟨T_0, T_1, T_2, T_l⟩ := T12.out.c3
    obtain ⟨Y_0, Y_1, Y_2, Y_3, Y_4, Y_l⟩ := Y12.out.c5
    obtain ⟨X_0, X_1, X_2, X_3, X_l⟩ := X12.out.c4
    obtain ⟨O_0, O_1, O_2, O_l⟩ := O12.out.c3
    obtain ⟨S1_0, S1_1, S1_l⟩ := S112.out.c2
    obtain ⟨S2_0, S2_1, S2_l⟩ := S212.out.c2
    go_wp2_with fail
    refine (harmsQ_any Bw Bf dw df o (p : Int) (q : Int) law _ HSO.out HQ12.out HTB12.out).mono ?_
    rintro e w13 ⟨rfl, hb⟩
    rw [show o.knowErr (o.wellB (p : Int) && o.wellB (q : Int) && inR law 0 99) = 0 by rw [HLW.out, Bool.and_true]; exact HBW2.out, if_pos rfl, Int.toNat_natCast, Int.toNat_natCast, HHK.out.2]
    have hB13 : Below w12.heap.size w12 w13 := bTrans (Below.refl _ _) hb
    have HD13 := Lib.hid (bTrans HD12.out hB13)
    have HT13 := Lib.hid (HT12.out.mono hB13)
    have HTB13 := Lib.hid (HTB12.out.mono hB13)
    have HQ13 := Lib.hid (HQ12.out.mono hB13)
    have HI413 := Lib.hid (HI412.out.mono hB13)
    have HI613 := Lib.hid (HI612.out.mono hB13)
    have HRL13 := Lib.hid (HRL12.out.mono hB13)
    have T13 := Lib.hid (T12.out.mono hB13)
    have Y13 := Lib.hid (Y12.out.mono hB13)
    have X13 := Lib.hid (X12.out.mono hB13)
    have O13 := Lib.hid (O12.out.mono hB13)
    have S113 := Lib.hid (S112.out.mono hB13)
    have S213 := Lib.hid (S212.out.mono hB13)
    clear hb hB13 HD12 HT12 HTB12 HQ12 HI412 HI612 HRL12 T12 T_0 T_1 T_2 T_l Y12 Y_0 Y_1 Y_2 Y_3 Y_4 Y_l X12 X_0 X_1 X_2 X_3 X_l O12 O_0 O_1 O_2 O_l S112 S1_0 S1_1 S1_l S212 S2_0 S2_1 S2_l
    obtain ⟨T_0, T_1, T_2, T_l⟩ := T13.out.c3
    obtain ⟨Y_0, Y_1, Y_2, Y_3, Y_4, Y_l⟩ := Y13.out.c5
    obtain ⟨X_0, X_1, X_2, X_3, X_l⟩ := X13.out.c4
    obtain ⟨O_0, O_1, O_2, O_l⟩ := O13.out.c3
    obtain ⟨S1_0, S1_1, S1_l⟩ := S113.out.c2
    obtain ⟨S2_0, S2_1, S2_l⟩ := S213.out.c2
    go_wp2_with fail
    refine (inside_any u1 u2 b1 b2 _).mono ?_
    rintro e w14 ⟨rfl, hb⟩
    rw [HIS.out]
    have hB14 : Below w13.heap.size w13 w14 := bTrans (Below.refl _ _) hb
    have HD14 := Lib.hid (bTrans HD13.out hB14)
    have HT14 := Lib.hid (HT13.out.mono hB14)
    have HTB14 := Lib.hid (HTB13.out.mono hB14)
    have HQ14 := Lib.hid (HQ13.out.mono hB14)
    have HI414 := Lib.hid (HI413.out.mono hB14)
    have HI614 := Lib.hid (HI613.out.mono hB14)
    have HRL14 := Lib.hid (HRL13.out.mono hB14)
    have T14 := Lib.hid (T13.out.mono hB14)
    have Y14 := Lib.hid (Y13.out.mono hB14)
    have X14 := Lib.hid (X13.out.mono hB14)
    have O14 := Lib.hid (O13.out.mono hB14)
    have S114 := Lib.hid (S113.out.mono hB14)
    have S214 := Lib.hid (S213.out.mono hB14)
    clear hb hB14 HD13 HT13 HTB13 HQ13 HI413 HI613 HRL13 T13 T_0 T_1 T_2 T_l Y13 Y_0 Y_1 Y_2 Y_3 Y_4 Y_l X13 X_0 X_1 X_2 X_3 X_l O13 O_0 O_1 O_2 O_l S113 S1_0 S1_1 S1_l S213 S2_0 S2_1 S2_l
    obtain ⟨T_0, T_1, T_2, T_l⟩ := T14.out.c3
    obtain ⟨Y_0, Y_1, Y_2, Y_3, Y_4, Y_l⟩ := Y14.out.c5
    obtain ⟨X_0, X_1, X_2, X_3, X_l⟩ := X14.out.c4
    obtain ⟨O_0, O_1, O_2, O_l⟩ := O14.out.c3
    obtain ⟨S1_0, S1_1, S1_l⟩ := S114.out.c2
    obtain ⟨S2_0, S2_1, S2_l⟩ := S214.out.c2
    have hkk : (kh != 3) = false ∨ ((kh != 3) = true ∧ lh = kh) := by
      by_cases e : kh = 3
      · exact .inl (by simp [e])
      · exact .inr ⟨by simp [e], HKL.out e⟩
    have HMD := Lib.hid (more_depth HOA.out HOK.out HKN.out.1 HKN.out.2.1)
    rcases hkk with hkk | ⟨hkk, rfl⟩
    · skip
      go_wp2_with fail
      obtain ⟨m1, hm1⟩ : ∃ v, t.depthOut = v := ⟨_, rfl⟩
      obtain ⟨m2, hm2⟩ : ∃ v, o.depthOut = v := ⟨_, rfl⟩
      obtain ⟨l1, hl1⟩ : ∃ v, (lstO 0 (t.fewest t.leftL)).length = v := ⟨_, rfl⟩
      obtain ⟨l2, hl2⟩ : ∃ v, (lstO 0 (o.fewest o.leftL)).length = v := ⟨_, rfl⟩
      have hmd := HMD.out
      rw [hm1, hm2, hl1, hl2] at hmd
      have HM := Lib.hid (And.intro hm1 (And.intro hm2 (And.intro hl1 hl2)))
      have q1 : m2 ≥ 0 := hmd.1
      have q2 : m2 ≤ m1 := hmd.2.1
      have q3 : (l2 : Int) ≤ (l1 : Int) := by have := hmd.2.2; omega
      clear hm1 hm2 hl1 hl2 hmd
      refine (depthQ_any Aw Af cw cf t _ HS.out HT14.out HTB14.out).mono ?_
      rintro e w15 ⟨rfl, hb⟩
      rw [HM.out.1, HKN.out.1]
      have hB15 : Below w14.heap.size w14 w15 := bTrans (Below.refl _ _) hb
      have HD15 := Lib.hid (bTrans HD14.out hB15)
      have HT15 := Lib.hid (HT14.out.mono hB15)
      have HTB15 := Lib.hid (HTB14.out.mono hB15)
      have HQ15 := Lib.hid (HQ14.out.mono hB15)
      have HI415 := Lib.hid (HI414.out.mono hB15)
      have HI615 := Lib.hid (HI614.out.mono hB15)
      have HRL15 := Lib.hid (HRL14.out.mono hB15)
      have T15 := Lib.hid (T14.out.mono hB15)
      have Y15 := Lib.hid (Y14.out.mono hB15)
      have X15 := Lib.hid (X14.out.mono hB15)
      have O15 := Lib.hid (O14.out.mono hB15)
      have S115 := Lib.hid (S114.out.mono hB15)
      have S215 := Lib.hid (S214.out.mono hB15)
      clear hb hB15 HD14 HT14 HTB14 HQ14 HI414 HI614 HRL14 T14 T_0 T_1 T_2 T_l Y14 Y_0 Y_1 Y_2 Y_3 Y_4 Y_l X14 X_0 X_1 X_2 X_3 X_l O14 O_0 O_1 O_2 O_l S114 S1_0 S1_1 S1_l S214 S2_0 S2_1 S2_l
      obtain ⟨T_0, T_1, T_2, T_l⟩ := T15.out.c3
      obtain ⟨Y_0, Y_1, Y_2, Y_3, Y_4, Y_l⟩ := Y15.out.c5
      obtain ⟨X_0, X_1, X_2, X_3, X_l⟩ := X15.out.c4
      obtain ⟨O_0, O_1, O_2, O_l⟩ := O15.out.c3
      obtain ⟨S1_0, S1_1, S1_l⟩ := S115.out.c2
      obtain ⟨S2_0, S2_1, S2_l⟩ := S215.out.c2
      go_wp2_with fail
      refine (depthQ_any Bw Bf dw df o _ HSO.out HQ15.out HTB15.out).mono ?_
      rintro e w16 ⟨rfl, hb⟩
      rw [HM.out.2.1, HKN.out.2.1]
      have hB16 : Below w15.heap.size w15 w16 := bTrans (Below.refl _ _) hb
      have HD16 := Lib.hid (bTrans HD15.out hB16)
      have HT16 := Lib.hid (HT15.out.mono hB16)
      have HTB16 := Lib.hid (HTB15.out.mono hB16)
      have HQ16 := Lib.hid (HQ15.out.mono hB16)
      have HI416 := Lib.hid (HI415.out.mono hB16)
      have HI616 := Lib.hid (HI615.out.mono hB16)
      have HRL16 := Lib.hid (HRL15.out.mono hB16)
      have T16 := Lib.hid (T15.out.mono hB16)
      have Y16 := Lib.hid (Y15.out.mono hB16)
      have X16 := Lib.hid (X15.out.mono hB16)
      have O16 := Lib.hid (O15.out.mono hB16)
      have S116 := Lib.hid (S115.out.mono hB16)
      have S216 := Lib.hid (S215.out.mono hB16)
      clear hb hB16 HD15 HT15 HTB15 HQ15 HI415 HI615 HRL15 T15 T_0 T_1 T_2 T_l Y15 Y_0 Y_1 Y_2 Y_3 Y_4 Y_l X15 X_0 X_1 X_2 X_3 X_l O15 O_0 O_1 O_2 O_l S115 S1_0 S1_1 S1_l S215 S2_0 S2_1 S2_l
      obtain ⟨T_0, T_1, T_2, T_l⟩ := T16.out.c3
      obtain ⟨Y_0, Y_1, Y_2, Y_3, Y_4, Y_l⟩ := Y16.out.c5
      obtain ⟨X_0, X_1, X_2, X_3, X_l⟩ := X16.out.c4
      obtain ⟨O_0, O_1, O_2, O_l⟩ := O16.out.c3
      obtain ⟨S1_0, S1_1, S1_l⟩ := S116.out.c2
      obtain ⟨S2_0, S2_1, S2_l⟩ := S216.out.c2
      go_wp2_with fail
      refine (fewestQ_any Aw Af cw cf t _ HS.out HT16.out HTB16.out).mono ?_
      rintro e w17 ⟨ho, hb⟩
      rw [HKN.out.1] at ho
      obtain ⟨A8, c8, rfl, _⟩ := ho.o
      rw [HM.out.2.2.1]
      have hB17 : Below w16.heap.size w16 w17 := bTrans (Below.refl _ _) hb
      have HD17 := Lib.hid (bTrans HD16.out hB17)
      have HT17 := Lib.hid (HT16.out.mono hB17)
      have HTB17 := Lib.hid (HTB16.out.mono hB17)
      have HQ17 := Lib.hid (HQ16.out.mono hB17)
      have HI417 := Lib.hid (HI416.out.mono hB17)
      have HI617 := Lib.hid (HI616.out.mono hB17)
      have HRL17 := Lib.hid (HRL16.out.mono hB17)
      have T17 := Lib.hid (T16.out.mono hB17)
      have Y17 := Lib.hid (Y16.out.mono hB17)
      have X17 := Lib.hid (X16.out.mono hB17)
      have O17 := Lib.hid (O16.out.mono hB17)
      have S117 := Lib.hid (S116.out.mono hB17)
      have S217 := Lib.hid (S216.out.mono hB17)
      clear hb hB17 HD16 HT16 HTB16 HQ16 HI416 HI616 HRL16 T16 T_0 T_1 T_2 T_l Y16 Y_0 Y_1 Y_2 Y_3 Y_4 Y_l X16 X_0 X_1 X_2 X_3 X_l O16 O_0 O_1 O_2 O_l S116 S1_0 S1_1 S1_l S216 S2_0 S2_1 S2_l
      obtain ⟨T_0, T_1, T_2, T_l⟩ := T17.out.c3
      obtain ⟨Y_0, Y_1, Y_2, Y_3, Y_4, Y_l⟩ := Y17.out.c5
      obtain ⟨X_0, X_1, X_2, X_3, X_l⟩ := X17.out.c4
      obtain ⟨O_0, O_1, O_2, O_l⟩ := O17.out.c3
      obtain ⟨S1_0, S1_1, S1_l⟩ := S117.out.c2
      obtain ⟨S2_0, S2_1, S2_l⟩ := S217.out.c2
      clear ho
      go_wp2_with fail
      refine (fewestQ_any Bw Bf dw df o _ HSO.out HQ17.out HTB17.out).mono ?_
      rintro e w18 ⟨ho, hb⟩
      rw [HKN.out.2.1] at ho
      obtain ⟨A9, c9, rfl, _⟩ := ho.o
      rw [HM.out.2.2.2]
      have hB18 : Below w17.heap.size w17 w18 := bTrans (Below.refl _ _) hb
      have HD18 := Lib.hid (bTrans HD17.out hB18)
      have HT18 := Lib.hid (HT17.out.mono hB18)
      have HTB18 := Lib.hid (HTB17.out.mono hB18)
      have HQ18 := Lib.hid (HQ17.out.mono hB18)
      have HI418 := Lib.hid (HI417.out.mono hB18)
      have HI618 := Lib.hid (HI617.out.mono hB18)
      have HRL18 := Lib.hid (HRL17.out.mono hB18)
      have T18 := Lib.hid (T17.out.mono hB18)
      have Y18 := Lib.hid (Y17.out.mono hB18)
      have X18 := Lib.hid (X17.out.mono hB18)
      have O18 := Lib.hid (O17.out.mono hB18)
      have S118 := Lib.hid (S117.out.mono hB18)
      have S218 := Lib.hid (S217.out.mono hB18)
      clear hb hB18 HD17 HT17 HTB17 HQ17 HI417 HI617 HRL17 T17 T_0 T_1 T_2 T_l Y17 Y_0 Y_1 Y_2 Y_3 Y_4 Y_l X17 X_0 X_1 X_2 X_3 X_l O17 O_0 O_1 O_2 O_l S117 S1_0 S1_1 S1_l S217 S2_0 S2_1 S2_l
      obtain ⟨T_0, T_1, T_2, T_l⟩ := T18.out.c3
      obtain ⟨Y_0, Y_1, Y_2, Y_3, Y_4, Y_l⟩ := Y18.out.c5
      obtain ⟨X_0, X_1, X_2, X_3, X_l⟩ := X18.out.c4
      obtain ⟨O_0, O_1, O_2, O_l⟩ := O18.out.c3
      obtain ⟨S1_0, S1_1, S1_l⟩ := S118.out.c2
      obtain ⟨S2_0, S2_1, S2_l⟩ := S218.out.c2
      clear ho
      go_wp2_with fail
      refine (works5_any _ HTB18.out).mono ?_
      rintro e w99 ⟨rfl, hb99⟩
      go_wp2_with fail
      go_ret
      exact ⟨rfl, bTrans HD18.out hb99⟩
    · skip
      go_wp2_with fail
      obtain ⟨m1, hm1⟩ : ∃ v, t.depthOut = v := ⟨_, rfl⟩
      obtain ⟨m2, hm2⟩ : ∃ v, o.depthOut = v := ⟨_, rfl⟩
      obtain ⟨l1, hl1⟩ : ∃ v, (lstO 0 (t.fewest t.leftL)).length = v := ⟨_, rfl⟩
      obtain ⟨l2, hl2⟩ : ∃ v, (lstO 0 (o.fewest o.leftL)).length = v := ⟨_, rfl⟩
      have hmd := HMD.out
      rw [hm1, hm2, hl1, hl2] at hmd
      have HM := Lib.hid (And.intro hm1 (And.intro hm2 (And.intro hl1 hl2)))
      have q1 : m2 ≥ 0 := hmd.1
      have q2 : m2 ≤ m1 := hmd.2.1
      have q3 : (l2 : Int) ≤ (l1 : Int) := by have := hmd.2.2; omega
      clear hm1 hm2 hl1 hl2 hmd
      refine (depthQ_any Aw Af cw cf t _ HS.out HT14.out HTB14.out).mono ?_
      rintro e w15 ⟨rfl, hb⟩
      rw [HM.out.1, HKN.out.1]
      have hB15 : Below w14.heap.size w14 w15 := bTrans (Below.refl _ _) hb
      have HD15 := Lib.hid (bTrans HD14.out hB15)
      have HT15 := Lib.hid (HT14.out.mono hB15)
      have HTB15 := Lib.hid (HTB14.out.mono hB15)
      have HQ15 := Lib.hid (HQ14.out.mono hB15)
      have HI415 := Lib.hid (HI414.out.mono hB15)
      have HI615 := Lib.hid (HI614.out.mono hB15)
      have HRL15 := Lib.hid (HRL14.out.mono hB15)
      have T15 := Lib.hid (T14.out.mono hB15)
      have Y15 := Lib.hid (Y14.out.mono hB15)
      have X15 := Lib.hid (X14.out.mono hB15)
      have O15 := Lib.hid (O14.out.mono hB15)
      have S115 := Lib.hid (S114.out.mono hB15)
      have S215 := Lib.hid (S214.out.mono hB15)
      clear hb hB15 HD14 HT14 HTB14 HQ14 HI414 HI614 HRL14 T14 T_0 T_1 T_2 T_l Y14 Y_0 Y_1 Y_2 Y_3 Y_4 Y_l X14 X_0 X_1 X_2 X_3 X_l O14 O_0 O_1 O_2 O_l S114 S1_0 S1_1 S1_l S214 S2_0 S2_1 S2_l
      obtain ⟨T_0, T_1, T_2, T_l⟩ := T15.out.c3
      obtain ⟨Y_0, Y_1, Y_2, Y_3, Y_4, Y_l⟩ := Y15.out.c5
      obtain ⟨X_0, X_1, X_2, X_3, X_l⟩ := X15.out.c4
      obtain ⟨O_0, O_1, O_2, O_l⟩ := O15.out.c3
      obtain ⟨S1_0, S1_1, S1_l⟩ := S115.out.c2
      obtain ⟨S2_0, S2_1, S2_l⟩ := S215.out.c2
      go_wp2_with fail
      refine (depthQ_any Bw Bf dw df o _ HSO.out HQ15.out HTB15.out).mono ?_
      rintro e w16 ⟨rfl, hb⟩
      rw [HM.out.2.1, HKN.out.2.1]
      have hB16 : Below w15.heap.size w15 w16 := bTrans (Below.refl _ _) hb
      have HD16 := Lib.hid (bTrans HD15.out hB16)
      have HT16 := Lib.hid (HT15.out.mono hB16)
      have HTB16 := Lib.hid (HTB15.out.mono hB16)
      have HQ16 := Lib.hid (HQ15.out.mono hB16)
      have HI416 := Lib.hid (HI415.out.mono hB16)
      have HI616 := Lib.hid (HI615.out.mono hB16)
      have HRL16 := Lib.hid (HRL15.out.mono hB16)
      have T16 := Lib.hid (T15.out.mono hB16)
      have Y16 := Lib.hid (Y15.out.mono hB16)
      have X16 := Lib.hid (X15.out.mono hB16)
      have O16 := Lib.hid (O15.out.mono hB16)
      have S116 := Lib.hid (S115.out.mono hB16)
      have S216 := Lib.hid (S215.out.mono hB16)
      clear hb hB16 HD15 HT15 HTB15 HQ15 HI415 HI615 HRL15 T15 T_0 T_1 T_2 T_l Y15 Y_0 Y_1 Y_2 Y_3 Y_4 Y_l X15 X_0 X_1 X_2 X_3 X_l O15 O_0 O_1 O_2 O_l S115 S1_0 S1_1 S1_l S215 S2_0 S2_1 S2_l
      obtain ⟨T_0, T_1, T_2, T_l⟩ := T16.out.c3
      obtain ⟨Y_0, Y_1, Y_2, Y_3, Y_4, Y_l⟩ := Y16.out.c5
      obtain ⟨X_0, X_1, X_2, X_3, X_l⟩ := X16.out.c4
      obtain ⟨O_0, O_1, O_2, O_l⟩ := O16.out.c3
      obtain ⟨S1_0, S1_1, S1_l⟩ := S116.out.c2
      obtain ⟨S2_0, S2_1, S2_l⟩ := S216.out.c2
      go_wp2_with fail
      refine (fewestQ_any Aw Af cw cf t _ HS.out HT16.out HTB16.out).mono ?_
      rintro e w17 ⟨ho, hb⟩
      rw [HKN.out.1] at ho
      obtain ⟨A8, c8, rfl, _⟩ := ho.o
      rw [HM.out.2.2.1]
      have hB17 : Below w16.heap.size w16 w17 := bTrans (Below.refl _ _) hb
      have HD17 := Lib.hid (bTrans HD16.out hB17)
      have HT17 := Lib.hid (HT16.out.mono hB17)
      have HTB17 := Lib.hid (HTB16.out.mono hB17)
      have HQ17 := Lib.hid (HQ16.out.mono hB17)
      have HI417 := Lib.hid (HI416.out.mono hB17)
      have HI617 := Lib.hid (HI616.out.mono hB17)
      have HRL17 := Lib.hid (HRL16.out.mono hB17)
      have T17 := Lib.hid (T16.out.mono hB17)
      have Y17 := Lib.hid (Y16.out.mono hB17)
      have X17 := Lib.hid (X16.out.mono hB17)
      have O17 := Lib.hid (O16.out.mono hB17)
      have S117 := Lib.hid (S116.out.mono hB17)
      have S217 := Lib.hid (S216.out.mono hB17)
      clear hb hB17 HD16 HT16 HTB16 HQ16 HI416 HI616 HRL16 T16 T_0 T_1 T_2 T_l Y16 Y_0 Y_1 Y_2 Y_3 Y_4 Y_l X16 X_0 X_1 X_2 X_3 X_l O16 O_0 O_1 O_2 O_l S116 S1_0 S1_1 S1_l S216 S2_0 S2_1 S2_l
      obtain ⟨T_0, T_1, T_2, T_l⟩ := T17.out.c3
      obtain ⟨Y_0, Y_1, Y_2, Y_3, Y_4, Y_l⟩ := Y17.out.c5
      obtain ⟨X_0, X_1, X_2, X_3, X_l⟩ := X17.out.c4
      obtain ⟨O_0, O_1, O_2, O_l⟩ := O17.out.c3
      obtain ⟨S1_0, S1_1, S1_l⟩ := S117.out.c2
      obtain ⟨S2_0, S2_1, S2_l⟩ := S217.out.c2
      clear ho
      go_wp2_with fail
      refine (fewestQ_any Bw Bf dw df o _ HSO.out HQ17.out HTB17.out).mono ?_
      rintro e w18 ⟨ho, hb⟩
      rw [HKN.out.2.1] at ho
      obtain ⟨A9, c9, rfl, _⟩ := ho.o
      rw [HM.out.2.2.2]
      have hB18 : Below w17.heap.size w17 w18 := bTrans (Below.refl _ _) hb
      have HD18 := Lib.hid (bTrans HD17.out hB18)
      have HT18 := Lib.hid (HT17.out.mono hB18)
      have HTB18 := Lib.hid (HTB17.out.mono hB18)
      have HQ18 := Lib.hid (HQ17.out.mono hB18)
      have HI418 := Lib.hid (HI417.out.mono hB18)
      have HI618 := Lib.hid (HI617.out.mono hB18)
      have HRL18 := Lib.hid (HRL17.out.mono hB18)
      have T18 := Lib.hid (T17.out.mono hB18)
      have Y18 := Lib.hid (Y17.out.mono hB18)
      have X18 := Lib.hid (X17.out.mono hB18)
      have O18 := Lib.hid (O17.out.mono hB18)
      have S118 := Lib.hid (S117.out.mono hB18)
      have S218 := Lib.hid (S217.out.mono hB18)
      clear hb hB18 HD17 HT17 HTB17 HQ17 HI417 HI617 HRL17 T17 T_0 T_1 T_2 T_l Y17 Y_0 Y_1 Y_2 Y_3 Y_4 Y_l X17 X_0 X_1 X_2 X_3 X_l O17 O_0 O_1 O_2 O_l S117 S1_0 S1_1 S1_l S217 S2_0 S2_1 S2_l
      obtain ⟨T_0, T_1, T_2, T_l⟩ := T18.out.c3
      obtain ⟨Y_0, Y_1, Y_2, Y_3, Y_4, Y_l⟩ := Y18.out.c5
      obtain ⟨X_0, X_1, X_2, X_3, X_l⟩ := X18.out.c4
      obtain ⟨O_0, O_1, O_2, O_l⟩ := O18.out.c3
      obtain ⟨S1_0, S1_1, S1_l⟩ := S118.out.c2
      obtain ⟨S2_0, S2_1, S2_l⟩ := S218.out.c2
      clear ho
      go_wp2_with fail
      refine (works5_any _ HTB18.out).mono ?_
      rintro e w99 ⟨rfl, hb99⟩
      go_wp2_with fail
      go_ret
      exact ⟨rfl, bTrans HD18.out hb99⟩
end Go.Proofs.YtchhodikgllgnaaDoor
