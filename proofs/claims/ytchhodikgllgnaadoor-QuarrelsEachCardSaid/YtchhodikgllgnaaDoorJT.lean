/- Parts joined. -/
import Derived.Test.YtchhodikgllgnaaDoorJO
import Derived.Test.YtchhodikgllgnaaDoorJS
import Derived.Test.YtchhodikgllgnaaDoorJL
set_option linter.unusedSimpArgs false
set_option linter.unusedVariables false
/- Boxes of the call's own, read cell by cell. No program in sight. -/
namespace Go.Proofs.YtchhodikgllgnaaDoor
open Go.RowKit Go.Sort
section
variable {w : World} {b : Nat} {t : TypeId}
theorem TBox.c1 {x : Value} (h : TBox w b t #[x]) : w.cell? ⟨b, 0, none⟩ = some x ∧ b < w.heap.size := ⟨h.cell 0, h.lt⟩
theorem TBox.c2 {x y : Value} (h : TBox w b t #[x, y]) : w.cell? ⟨b, 0, none⟩ = some x ∧ w.cell? ⟨b, 1, none⟩ = some y ∧ b < w.heap.size := ⟨h.cell 0, h.cell 1, h.lt⟩
theorem TBox.c3 {x y z : Value} (h : TBox w b t #[x, y, z]) : w.cell? ⟨b, 0, none⟩ = some x ∧ w.cell? ⟨b, 1, none⟩ = some y ∧ w.cell? ⟨b, 2, none⟩ = some z ∧ b < w.heap.size := ⟨h.cell 0, h.cell 1, h.cell 2, h.lt⟩
theorem TBox.c4 {x y z u : Value} (h : TBox w b t #[x, y, z, u]) : w.cell? ⟨b, 0, none⟩ = some x ∧ w.cell? ⟨b, 1, none⟩ = some y ∧ w.cell? ⟨b, 2, none⟩ = some z ∧ w.cell? ⟨b, 3, none⟩ = some u ∧ b < w.heap.size := ⟨h.cell 0, h.cell 1, h.cell 2, h.cell 3, h.lt⟩
theorem TBox.c5 {x y z u v : Value} (h : TBox w b t #[x, y, z, u, v]) : w.cell? ⟨b, 0, none⟩ = some x ∧ w.cell? ⟨b, 1, none⟩ = some y ∧ w.cell? ⟨b, 2, none⟩ = some z ∧ w.cell? ⟨b, 3, none⟩ = some u ∧ w.cell? ⟨b, 4, none⟩ = some v ∧ b < w.heap.size := ⟨h.cell 0, h.cell 1, h.cell 2, h.cell 3, h.cell 4, h.lt⟩
end
def Upto (w0 w : World) : Prop := Below w0.heap.size w0 w
theorem Upto.mono {w0 w w' : World} (h : Upto w0 w) (hb : Below w.heap.size w w') : Upto w0 w' := bTrans h hb
/-- 'append([]int{}, xs...)' at a step: the copy is the call's own -/
theorem wpList_copyI (w : World) {ops : Array Oper} {rest : List Oper} {o : Oper} {a : Act} {Q : Exit → Act → World → Prop} (hg : o.guard = none) (s x : Operand) (hop : o.op = Op.call { callee := Callee.builtin Builtin.append, args := #[s, x], argTypes := #[40, 40] })
    (ad : Nat) (A : Option Addr) (m c : Nat) (f : Nat → Int) (hs : a.eval s = .slice (some ⟨ad, 0, none⟩) 0 0) (hx : a.eval x = .slice A m c) (hr : IntsAt w A m f) (hby : m * 8 ≤ 140737488351232) (N : Nat) (hN : N ≤ w.heap.size) (ho : w.ownsRow N 3 1 (.slice (some ⟨ad, 0, none⟩) 0 0) 0 [])
    (hK : ∀ g c' w', Below w.heap.size w w' → w'.ownsRow N 3 1 (.slice (some ⟨g, 0, none⟩) m c') m (intL f m) → wpList Tryd.prog ops Q rest (a.put o.dst (.slice (some ⟨g, 0, none⟩) m c')) w') : wpList Tryd.prog ops Q (o :: rest) a w := by
  refine wpList_plain hg fun K hK' => Oper.wp_of_stir (stir_copy3 w s x 40 hop 3 (.int .i64 0) 1 8 infoInt Tryd.underlying40 rfl (by decide) ad A m c (intL f m) hs hx (by rw [intL_len, Nat.mul_one]) (intsAt_row.1 hr) (by unfold maxLen; omega) (by omega) N hN ho) fun v' w' hb ⟨hsh, hown⟩ => ?_
  obtain ⟨g, c', rfl⟩ := hsh
  exact hK' _ _ (hK _ _ _ hb hown)
theorem owns_empty (w : World) (cs : Array Value) (t : TypeId) (size : Nat) (hcs : cs = #[]) : (w.alloc (.cells cs t)).ownsRow w.heap.size t size (.slice (some ⟨w.heap.size, 0, none⟩) 0 0) 0 [] := by
  subst hcs
  refine ⟨by simp, .inr ⟨_, 0, #[], rfl, Nat.le_refl _, heap_alloc_new _ _, ?_⟩⟩
  simp
end Go.Proofs.YtchhodikgllgnaaDoor
/- The statement QuarrelsHarms: the walk. Conditions: what is read fits into memory; the listed table holds what it holds. -/
namespace Go.Proofs.YtchhodikgllgnaaDoor
open Go.RowKit Go.Sort
set_option maxHeartbeats 8000000 in
set_option maxRecDepth 100000 in
theorem quarrelsHarms_any (Aw Af : Option Addr) (cw cf : Nat) (t : Qt) (p q law : Int) (Ad : Option Addr) (nd cd : Nat) (w : World) (hf : t.Fits) (hT : QAt w Aw Af t) (hB : TabAt w) :
    Calls Tryd.prog 5 #[.agg #[.int .i64 t.wells, .slice Aw t.nw cw, .slice Af t.nf cf], .agg #[.int .i64 p, .int .i64 q, .int .i64 law, .slice Ad nd cd]] w fun e w' => e = .returned (.bool true) ∧ Below w.heap.size w w' := by
  have HT0 := Lib.hid hT
  have HTB0 := Lib.hid hB
  have HD0 := Lib.hid (Below.refl w.heap.size w)
  have HS := Lib.hid hf.small
  have HF := Lib.hid hf
  clear hT hB hf
  go_enter Tryd.func5, Tryd.ntmps5
  go_wp2_with fail
  refine (huge_any _ _ _ _ t _ HS.out (HT0.out.mono (bAlloc (bAlloc (Below.refl _ _) (.cells #[.int .i64 t.wells, .slice Aw t.nw cw, .slice Af t.nf cf] 25)) (.cells #[.int .i64 p, .int .i64 q, .int .i64 law, .slice Ad nd cd] 45)))).mono ?_
  rintro e w1 ⟨rfl, hb⟩
  have hB1 : Below w.heap.size w w1 := bTrans (bAlloc (bAlloc (Below.refl _ _) (.cells #[.int .i64 t.wells, .slice Aw t.nw cw, .slice Af t.nf cf] 25)) (.cells #[.int .i64 p, .int .i64 q, .int .i64 law, .slice Ad nd cd] 45)) hb
  have HD1 := Lib.hid (bTrans HD0.out hB1)
  have HT1 := Lib.hid (HT0.out.mono hB1)
  have HTB1 := Lib.hid (HTB0.out.mono hB1)
  have T1 := Lib.hid (show TBox w1 w.heap.size 25 #[.int .i64 t.wells, .slice Aw t.nw cw, .slice Af t.nf cf] from by have := ((TBox.new w #[.int .i64 t.wells, .slice Aw t.nw cw, .slice Af t.nf cf] 25).mono (bAlloc (Below.refl _ _) (.cells #[.int .i64 p, .int .i64 q, .int .i64 law, .slice Ad nd cd] 45))).mono hb; simpa using this)
  have X1 := Lib.hid (show TBox w1 (w.heap.size + 1) 45 #[.int .i64 p, .int .i64 q, .int .i64 law, .slice Ad nd cd] from by have := ((TBox.new (w.alloc (.cells #[.int .i64 t.wells, .slice Aw t.nw cw, .slice Af t.nf cf] 25)) #[.int .i64 p, .int .i64 q, .int .i64 law, .slice Ad nd cd] 45).mono (Below.refl _ _)).mono hb; simpa using this)
  clear hb hB1 HD0 HT0 HTB0
  obtain ⟨T_0, T_1, T_2, T_l⟩ := T1.out.c3
  obtain ⟨X_0, X_1, X_2, X_3, X_l⟩ := X1.out.c4
  cases t.huge
  case true =>
    go_wp2_with fail
    refine (works5_any _ HTB1.out).mono ?_
    rintro e w99 ⟨rfl, hb99⟩
    go_wp2_with fail
    go_ret
    exact ⟨rfl, bTrans HD1.out hb99⟩
  go_wp2_with fail
  refine (copy5_any _ _ _ _ t _ HF.out HT1.out).mono ?_
  rintro e w2 ⟨⟨vW, vF, rfl, hc⟩, hb⟩
  obtain ⟨Bw, dw, Bf, df, rfl, rfl, hq⟩ := hc.qat
  have hB2 : Below w1.heap.size w1 w2 := bTrans (Below.refl _ _) hb
  have HD2 := Lib.hid (bTrans HD1.out hB2)
  have HT2 := Lib.hid (HT1.out.mono hB2)
  have HTB2 := Lib.hid (HTB1.out.mono hB2)
  have HQ2 := Lib.hid (hq)
  have T2 := Lib.hid (T1.out.mono hB2)
  have X2 := Lib.hid (X1.out.mono hB2)
  clear hb hB2 HD1 HT1 HTB1 T1 T_0 T_1 T_2 T_l X1 X_0 X_1 X_2 X_3 X_l
  obtain ⟨T_0, T_1, T_2, T_l⟩ := T2.out.c3
  obtain ⟨X_0, X_1, X_2, X_3, X_l⟩ := X2.out.c4
  clear hc hq
  go_wp2_with fail
  refine (betweenQ_any Bw Bf dw df t p q _ HS.out (HQ2.out.mono (bAlloc (Below.refl _ _) (.cells #[.int .i64 t.wells, .slice Bw t.nw dw, .slice Bf t.nf df] 25))) (HTB2.out.mono (bAlloc (Below.refl _ _) (.cells #[.int .i64 t.wells, .slice Bw t.nw dw, .slice Bf t.nf df] 25)))).mono ?_
  rintro e w3 ⟨rfl, hb⟩
  have hB3 : Below w2.heap.size w2 w3 := bTrans (bAlloc (Below.refl _ _) (.cells #[.int .i64 t.wells, .slice Bw t.nw dw, .slice Bf t.nf df] 25)) hb
  have HD3 := Lib.hid (bTrans HD2.out hB3)
  have HT3 := Lib.hid (HT2.out.mono hB3)
  have HTB3 := Lib.hid (HTB2.out.mono hB3)
  have HQ3 := Lib.hid (HQ2.out.mono hB3)
  have T3 := Lib.hid (T2.out.mono hB3)
  have X3 := Lib.hid (X2.out.mono hB3)
  have O3 := Lib.hid (show TBox w3 w2.heap.size 25 #[.int .i64 t.wells, .slice Bw t.nw dw, .slice Bf t.nf df] from by have := ((TBox.new w2 #[.int .i64 t.wells, .slice Bw t.nw dw, .slice Bf t.nf df] 25).mono (Below.refl _ _)).mono hb; simpa using this)
  clear hb hB3 HD2 HT2 HTB2 HQ2 T2 T_0 T_1 T_2 T_l X2 X_0 X_1 X_2 X_3 X_l
  obtain ⟨T_0, T_1, T_2, T_l⟩ := T3.out.c3
  obtain ⟨X_0, X_1, X_2, X_3, X_l⟩ := X3.out.c4
  obtain ⟨O_0, O_1, O_2, O_l⟩ := O3.out.c3
  obtain ⟨b1, hb1⟩ : ∃ v, (t.betweenV p q).1 = v := ⟨_, rfl⟩
  obtain ⟨b2, hb2⟩ : ∃ v, (t.betweenV p q).2 = v := ⟨_, rfl⟩
  rw [hb1, hb2]
  obtain ⟨er, her⟩ : ∃ v, t.knowErr (t.wellB p && t.wellB q) = v := ⟨_, rfl⟩
  rw [her]
  have HV := Lib.hid (And.intro hb1 (And.intro hb2 her))
  clear hb1 hb2 her
  go_wp2_with fail
  refine (between5_any Aw Af cw cf t p q _ HS.out (HT3.out.mono (bAlloc (Below.refl _ _) (.cells #[.int .i64 b1, .int .i64 b2] 47)))).mono ?_
  rintro e w4 ⟨rfl, hb⟩
  rw [HV.out.1, HV.out.2.1, HV.out.2.2]
  have hB4 : Below w3.heap.size w3 w4 := bTrans (bAlloc (Below.refl _ _) (.cells #[.int .i64 b1, .int .i64 b2] 47)) hb
  have HD4 := Lib.hid (bTrans HD3.out hB4)
  have HT4 := Lib.hid (HT3.out.mono hB4)
  have HTB4 := Lib.hid (HTB3.out.mono hB4)
  have HQ4 := Lib.hid (HQ3.out.mono hB4)
  have T4 := Lib.hid (T3.out.mono hB4)
  have X4 := Lib.hid (X3.out.mono hB4)
  have O4 := Lib.hid (O3.out.mono hB4)
  have S14 := Lib.hid (show TBox w4 w3.heap.size 47 #[.int .i64 b1, .int .i64 b2] from by have := ((TBox.new w3 #[.int .i64 b1, .int .i64 b2] 47).mono (Below.refl _ _)).mono hb; simpa using this)
  clear hb hB4 HD3 HT3 HTB3 HQ3 T3 T_0 T_1 T_2 T_l X3 X_0 X_1 X_2 X_3 X_l O3 O_0 O_1 O_2 O_l
  obtain ⟨T_0, T_1, T_2, T_l⟩ := T4.out.c3
  obtain ⟨X_0, X_1, X_2, X_3, X_l⟩ := X4.out.c4
  obtain ⟨O_0, O_1, O_2, O_l⟩ := O4.out.c3
  obtain ⟨S1_0, S1_1, S1_l⟩ := S14.out.c2
  go_wp2_with fail
  refine (harmsQ_any Bw Bf dw df t p q law _ HS.out (HQ4.out.mono (bAlloc (Below.refl _ _) (.cells #[.int .i64 b1, .int .i64 b2] 47))) (HTB4.out.mono (bAlloc (Below.refl _ _) (.cells #[.int .i64 b1, .int .i64 b2] 47)))).mono ?_
  rintro e w5 ⟨rfl, hb⟩
  have hB5 : Below w4.heap.size w4 w5 := bTrans (bAlloc (Below.refl _ _) (.cells #[.int .i64 b1, .int .i64 b2] 47)) hb
  have HD5 := Lib.hid (bTrans HD4.out hB5)
  have HT5 := Lib.hid (HT4.out.mono hB5)
  have HTB5 := Lib.hid (HTB4.out.mono hB5)
  have HQ5 := Lib.hid (HQ4.out.mono hB5)
  have T5 := Lib.hid (T4.out.mono hB5)
  have X5 := Lib.hid (X4.out.mono hB5)
  have O5 := Lib.hid (O4.out.mono hB5)
  have S15 := Lib.hid (S14.out.mono hB5)
  have S25 := Lib.hid (show TBox w5 w4.heap.size 47 #[.int .i64 b1, .int .i64 b2] from by have := ((TBox.new w4 #[.int .i64 b1, .int .i64 b2] 47).mono (Below.refl _ _)).mono hb; simpa using this)
  clear hb hB5 HD4 HT4 HTB4 HQ4 T4 T_0 T_1 T_2 T_l X4 X_0 X_1 X_2 X_3 X_l O4 O_0 O_1 O_2 O_l S14 S1_0 S1_1 S1_l
  obtain ⟨T_0, T_1, T_2, T_l⟩ := T5.out.c3
  obtain ⟨X_0, X_1, X_2, X_3, X_l⟩ := X5.out.c4
  obtain ⟨O_0, O_1, O_2, O_l⟩ := O5.out.c3
  obtain ⟨S1_0, S1_1, S1_l⟩ := S15.out.c2
  obtain ⟨S2_0, S2_1, S2_l⟩ := S25.out.c2
  obtain ⟨eh, heh⟩ : ∃ v, t.knowErr (t.wellB p && t.wellB q && inR law 0 99) = v := ⟨_, rfl⟩
  rw [heh]
  obtain ⟨kh, hkh⟩ : ∃ v, (if eh = 0 then harmK (t.between p.toNat q.toNat) law else 0) = v := ⟨_, rfl⟩
  rw [hkh]
  have HW := Lib.hid (And.intro heh hkh)
  clear heh hkh
  go_wp2_with fail
  refine (harms5_any Aw Af cw cf t p q law _ HS.out HT5.out).mono ?_
  rintro e w6 ⟨rfl, hb⟩
  rw [HW.out.1, HW.out.2]
  have hB6 : Below w5.heap.size w5 w6 := bTrans (Below.refl _ _) hb
  have HD6 := Lib.hid (bTrans HD5.out hB6)
  have HT6 := Lib.hid (HT5.out.mono hB6)
  have HTB6 := Lib.hid (HTB5.out.mono hB6)
  have HQ6 := Lib.hid (HQ5.out.mono hB6)
  have T6 := Lib.hid (T5.out.mono hB6)
  have X6 := Lib.hid (X5.out.mono hB6)
  have O6 := Lib.hid (O5.out.mono hB6)
  have S16 := Lib.hid (S15.out.mono hB6)
  have S26 := Lib.hid (S25.out.mono hB6)
  clear hb hB6 HD5 HT5 HTB5 HQ5 T5 T_0 T_1 T_2 T_l X5 X_0 X_1 X_2 X_3 X_l O5 O_0 O_1 O_2 O_l S15 S1_0 S1_1 S1_l S25 S2_0 S2_1 S2_l
  obtain ⟨T_0, T_1, T_2, T_l⟩ := T6.out.c3
  obtain ⟨X_0, X_1, X_2, X_3, X_l⟩ := X6.out.c4
  obtain ⟨O_0, O_1, O_2, O_l⟩ := O6.out.c3
  obtain ⟨S1_0, S1_1, S1_l⟩ := S16.out.c2
  obtain ⟨S2_0, S2_1, S2_l⟩ := S26.out.c2
  go_wp2_with fail
  refine (same5_any Bw Bf Aw Af dw df cw cf t _ HS.out HQ6.out HT6.out).mono ?_
  rintro e w7 ⟨rfl, hb⟩
  have hB7 : Below w6.heap.size w6 w7 := bTrans (Below.refl _ _) hb
  have HD7 := Lib.hid (bTrans HD6.out hB7)
  have HT7 := Lib.hid (HT6.out.mono hB7)
  have HTB7 := Lib.hid (HTB6.out.mono hB7)
  have HQ7 := Lib.hid (HQ6.out.mono hB7)
  have T7 := Lib.hid (T6.out.mono hB7)
  have X7 := Lib.hid (X6.out.mono hB7)
  have O7 := Lib.hid (O6.out.mono hB7)
  have S17 := Lib.hid (S16.out.mono hB7)
  have S27 := Lib.hid (S26.out.mono hB7)
  clear hb hB7 HD6 HT6 HTB6 HQ6 T6 T_0 T_1 T_2 T_l X6 X_0 X_1 X_2 X_3 X_l O6 O_0 O_1 O_2 O_l S16 S1_0 S1_1 S1_l S26 S2_0 S2_1 S2_l
  obtain ⟨T_0, T_1, T_2, T_l⟩ := T7.out.c3
  obtain ⟨X_0, X_1, X_2, X_3, X_l⟩ := X7.out.c4
  obtain ⟨O_0, O_1, O_2, O_l⟩ := O7.out.c3
  obtain ⟨S1_0, S1_1, S1_l⟩ := S17.out.c2
  obtain ⟨S2_0, S2_1, S2_l⟩ := S27.out.c2
  go_wp2_with fail
  refine (works5_any _ HTB7.out).mono ?_
  rintro e w99 ⟨rfl, hb99⟩
  go_wp2_with fail
  go_ret
  exact ⟨rfl, bTrans HD7.out hb99⟩
end Go.Proofs.YtchhodikgllgnaaDoor
