/- Parts joined. -/
import Derived.Test.YtchhodikgllgnaaDoorNQQ
import Derived.Test.YtchhodikgllgnaaDoorNQR
set_option linter.unusedSimpArgs false
set_option linter.unusedVariables false
/- The statement QuarrelsAlike: the walk. Conditions: what is read fits into memory; the listed table holds what it holds. -/
namespace Go.Proofs.YtchhodikgllgnaaDoor
open Go.RowKit Go.Sort
set_option maxHeartbeats 8000000 in
set_option maxRecDepth 100000 in
theorem quarrelsAlike_any (Aw Af : Option Addr) (cw cf : Nat) (t : Qt) (world fp fq law : Int) (Ad : Option Addr) (nd cd : Nat) (w : World) (hf : t.Fits) (hT : QAt w Aw Af t) (hB : TabAt w) :
    Calls Tryd.prog 14 #[.agg #[.int .i64 t.wells, .slice Aw t.nw cw, .slice Af t.nf cf], .int .i64 world, .agg #[.int .i64 fp, .int .i64 fq, .int .i64 law, .slice Ad nd cd]] w fun e w' => e = .returned (.bool true) ∧ Below w.heap.size w w' := by
  have HT0 := Lib.hid hT
  have HTB0 := Lib.hid hB
  have HD0 := Lib.hid (Below.refl w.heap.size w)
  have HS := Lib.hid hf.small
  have HF := Lib.hid hf
  clear hT hB hf
  go_enter Tryd.func14, Tryd.ntmps14
  go_wp2_with fail
  refine (ready_any _ _ _ _ t _ HS.out (HT0.out.mono (bAlloc (bAlloc (Below.refl _ _) (.cells #[.int .i64 t.wells, .slice Aw t.nw cw, .slice Af t.nf cf] 25)) (.cells #[.int .i64 fp, .int .i64 fq, .int .i64 law, .slice Ad nd cd] 45)))).mono ?_
  rintro e w1 ⟨rfl, hb⟩
  have hB1 : Below w.heap.size w w1 := bTrans (bAlloc (bAlloc (Below.refl _ _) (.cells #[.int .i64 t.wells, .slice Aw t.nw cw, .slice Af t.nf cf] 25)) (.cells #[.int .i64 fp, .int .i64 fq, .int .i64 law, .slice Ad nd cd] 45)) hb
  have HD1 := Lib.hid (bTrans HD0.out hB1)
  have HT1 := Lib.hid (HT0.out.mono hB1)
  have HTB1 := Lib.hid (HTB0.out.mono hB1)
  have T1 := Lib.hid (show TBox w1 w.heap.size 25 #[.int .i64 t.wells, .slice Aw t.nw cw, .slice Af t.nf cf] from by have := ((TBox.new w #[.int .i64 t.wells, .slice Aw t.nw cw, .slice Af t.nf cf] 25).mono (bAlloc (Below.refl _ _) (.cells #[.int .i64 fp, .int .i64 fq, .int .i64 law, .slice Ad nd cd] 45))).mono hb; simpa using this)
  have X1 := Lib.hid (show TBox w1 (w.heap.size + 1) 45 #[.int .i64 fp, .int .i64 fq, .int .i64 law, .slice Ad nd cd] from by have := ((TBox.new (w.alloc (.cells #[.int .i64 t.wells, .slice Aw t.nw cw, .slice Af t.nf cf] 25)) #[.int .i64 fp, .int .i64 fq, .int .i64 law, .slice Ad nd cd] 45).mono (Below.refl _ _)).mono hb; simpa using this)
  clear hb hB1 HD0 HT0 HTB0
  obtain ⟨T_0, T_1, T_2, T_l⟩ := T1.out.c3
  obtain ⟨X_0, X_1, X_2, X_3, X_l⟩ := X1.out.c4
  obtain ⟨bq, hbq⟩ : ∃ b, t.readyB = b := ⟨_, rfl⟩
  rw [hbq]
  have HR1 := Lib.hid hbq
  clear hbq
  cases bq
  case false =>
    go_wp2_with fail
    refine (works5_any _ HTB1.out).mono ?_
    rintro e w99 ⟨rfl, hb99⟩
    go_wp2_with fail
    go_ret
    exact ⟨rfl, bTrans HD1.out hb99⟩
  go_wp2_with fail
  refine (isWorld5_any _ _ _ _ t world _ HS.out.1).mono ?_
  rintro e w2 ⟨rfl, hb⟩
  have hB2 : Below w1.heap.size w1 w2 := bTrans (Below.refl _ _) hb
  have HD2 := Lib.hid (bTrans HD1.out hB2)
  have HT2 := Lib.hid (HT1.out.mono hB2)
  have HTB2 := Lib.hid (HTB1.out.mono hB2)
  have T2 := Lib.hid (T1.out.mono hB2)
  have X2 := Lib.hid (X1.out.mono hB2)
  clear hb hB2 HD1 HT1 HTB1 T1 T_0 T_1 T_2 T_l X1 X_0 X_1 X_2 X_3 X_l
  obtain ⟨T_0, T_1, T_2, T_l⟩ := T2.out.c3
  obtain ⟨X_0, X_1, X_2, X_3, X_l⟩ := X2.out.c4
  obtain ⟨bq, hbq⟩ : ∃ b, inR world 0 ((t.nw : Int) - 1) = b := ⟨_, rfl⟩
  rw [hbq]
  have HIW := Lib.hid hbq
  clear hbq
  cases bq
  case false =>
    go_wp2_with fail
    refine (works5_any _ HTB2.out).mono ?_
    rintro e w99 ⟨rfl, hb99⟩
    go_wp2_with fail
    go_ret
    exact ⟨rfl, bTrans HD2.out hb99⟩
  go_wp2_with fail
  refine (isWell5_any _ _ _ _ t fp _).mono ?_
  rintro e w3 ⟨rfl, hb⟩
  have hB3 : Below w2.heap.size w2 w3 := bTrans (Below.refl _ _) hb
  have HD3 := Lib.hid (bTrans HD2.out hB3)
  have HT3 := Lib.hid (HT2.out.mono hB3)
  have HTB3 := Lib.hid (HTB2.out.mono hB3)
  have T3 := Lib.hid (T2.out.mono hB3)
  have X3 := Lib.hid (X2.out.mono hB3)
  clear hb hB3 HD2 HT2 HTB2 T2 T_0 T_1 T_2 T_l X2 X_0 X_1 X_2 X_3 X_l
  obtain ⟨T_0, T_1, T_2, T_l⟩ := T3.out.c3
  obtain ⟨X_0, X_1, X_2, X_3, X_l⟩ := X3.out.c4
  obtain ⟨bq, hbq⟩ : ∃ b, t.wellB fp = b := ⟨_, rfl⟩
  rw [hbq]
  have HW1 := Lib.hid hbq
  clear hbq
  cases bq
  case false =>
    go_wp2_with fail
    refine (works5_any _ HTB3.out).mono ?_
    rintro e w99 ⟨rfl, hb99⟩
    go_wp2_with fail
    go_ret
    exact ⟨rfl, bTrans HD3.out hb99⟩
  go_wp2_with fail
  refine (isWell5_any _ _ _ _ t fq _).mono ?_
  rintro e w4 ⟨rfl, hb⟩
  have hB4 : Below w3.heap.size w3 w4 := bTrans (Below.refl _ _) hb
  have HD4 := Lib.hid (bTrans HD3.out hB4)
  have HT4 := Lib.hid (HT3.out.mono hB4)
  have HTB4 := Lib.hid (HTB3.out.mono hB4)
  have T4 := Lib.hid (T3.out.mono hB4)
  have X4 := Lib.hid (X3.out.mono hB4)
  clear hb hB4 HD3 HT3 HTB3 T3 T_0 T_1 T_2 T_l X3 X_0 X_1 X_2 X_3 X_l
  obtain ⟨T_0, T_1, T_2, T_l⟩ := T4.out.c3
  obtain ⟨X_0, X_1, X_2, X_3, X_l⟩ := X4.out.c4
  obtain ⟨bq, hbq⟩ : ∃ b, t.wellB fq = b := ⟨_, rfl⟩
  rw [hbq]
  have HW2 := Lib.hid hbq
  clear hbq
  cases bq
  case false =>
    go_wp2_with fail
    refine (works5_any _ HTB4.out).mono ?_
    rintro e w99 ⟨rfl, hb99⟩
    go_wp2_with fail
    go_ret
    exact ⟨rfl, bTrans HD4.out hb99⟩
  go_wp2_with fail
  refine (isLaw5_any law _).mono ?_
  rintro e w5 ⟨rfl, hb⟩
  have hB5 : Below w4.heap.size w4 w5 := bTrans (Below.refl _ _) hb
  have HD5 := Lib.hid (bTrans HD4.out hB5)
  have HT5 := Lib.hid (HT4.out.mono hB5)
  have HTB5 := Lib.hid (HTB4.out.mono hB5)
  have T5 := Lib.hid (T4.out.mono hB5)
  have X5 := Lib.hid (X4.out.mono hB5)
  clear hb hB5 HD4 HT4 HTB4 T4 T_0 T_1 T_2 T_l X4 X_0 X_1 X_2 X_3 X_l
  obtain ⟨T_0, T_1, T_2, T_l⟩ := T5.out.c3
  obtain ⟨X_0, X_1, X_2, X_3, X_l⟩ := X5.out.c4
  obtain ⟨bq, hbq⟩ : ∃ b, inR law 0 99 = b := ⟨_, rfl⟩
  rw [hbq]
  have HLW := Lib.hid hbq
  clear hbq
  cases bq
  case false =>
    go_wp2_with fail
    refine (works5_any _ HTB5.out).mono ?_
    rintro e w99 ⟨rfl, hb99⟩
    go_wp2_with fail
    go_ret
    exact ⟨rfl, bTrans HD5.out hb99⟩
  have HOK := Lib.hid (readyB_ok HR1.out).1
  have hiw := inR_iff.1 HIW.out
  have hw1 := inR_iff.1 ((wellB_ok HOK.out fp).symm.trans HW1.out)
  have hw2 := inR_iff.1 ((wellB_ok HOK.out fq).symm.trans HW2.out)
  obtain ⟨i, rfl⟩ : ∃ i : Nat, world = (i : Int) := ⟨world.toNat, by omega⟩
  obtain ⟨p, rfl⟩ : ∃ p : Nat, fp = (p : Int) := ⟨fp.toNat, by omega⟩
  obtain ⟨q, rfl⟩ : ∃ q : Nat, fq = (q : Int) := ⟨fq.toNat, by omega⟩
  have HP := Lib.hid (show (p : Int) < t.wells by omega)
  have HQQ := Lib.hid (show (q : Int) < t.wells by omega)
  have HII := Lib.hid (show i < t.nw by omega)
  clear hiw hw1 hw2
  go_wp2_with fail
  refine (copy5_any _ _ _ _ t _ HF.out HT5.out).mono ?_
  rintro e w6 ⟨⟨vW, vF, rfl, hc⟩, hb⟩
  obtain ⟨Bw, dw, Bf, df, rfl, rfl, _⟩ := hc.qat
  have HC := Lib.hid hc
  have HBC := Lib.hid hb
  have hB6 : Below w5.heap.size w5 w6 := bTrans (Below.refl _ _) hb
  have HD6 := Lib.hid (bTrans HD5.out hB6)
  have HT6 := Lib.hid (HT5.out.mono hB6)
  have HTB6 := Lib.hid (HTB5.out.mono hB6)
  have T6 := Lib.hid (T5.out.mono hB6)
  have X6 := Lib.hid (X5.out.mono hB6)
  clear hb hB6 T_0 T_1 T_2 T_l X_0 X_1 X_2 X_3 X_l
  obtain ⟨T_0, T_1, T_2, T_l⟩ := T6.out.c3
  obtain ⟨X_0, X_1, X_2, X_3, X_l⟩ := X6.out.c4
  clear hc
  go_wp2_with fail
  obtain ⟨us, huo, hur⟩ := HC.out.worlds
  have HO := Lib.hid (huo.alloc (.cells #[.int .i64 t.wells, .slice Bw t.nw dw, .slice Bf t.nf df] 25))
  have HR := Lib.hid (hur.mono (bAlloc (Below.refl _ _) (.cells #[.int .i64 t.wells, .slice Bw t.nw dw, .slice Bf t.nf df] 25)))
  have HFA := Lib.hid (HC.out.facts.alloc (.cells #[.int .i64 t.wells, .slice Bw t.nw dw, .slice Bf t.nf df] 25))
  have HX := Lib.hid (TBox.new w6 #[.int .i64 t.wells, .slice Bw t.nw dw, .slice Bf t.nf df] 25)
  have HL := Lib.hid (bTrans HBC.out (bAlloc (Below.refl _ _) (.cells #[.int .i64 t.wells, .slice Bw t.nw dw, .slice Bf t.nf df] 25)))
  clear huo hur
  rcases HT6.out.worlds with h0 | ⟨b, o, hA, hbl, hcell⟩
  · exact absurd HII.out (by omega)
  obtain ⟨A', c', c0, hrow, hlen⟩ := hcell i HII.out
  subst hA
  obtain ⟨x, hx⟩ : ∃ x, t.world i = x := ⟨_, rfl⟩
  rw [hx] at c0 hrow hlen
  have HXE := Lib.hid hx
  have HXF := Lib.hid (show x.Fits by have := HF.out.2.2 i HII.out; rw [hx] at this; exact this)
  have HROW := Lib.hid (hrow.mono (bAlloc (Below.refl _ _) (.cells #[.int .i64 t.wells, .slice Bw t.nw dw, .slice Bf t.nf df] 25)))
  have k1 : (i : Int) < (t.nw : Int) := by have := HII.out; omega
  have k0 : (0 : Int) ≤ (i : Int) := by omega
  have HN := Lib.hid (show (t.nw + 1) * 24 ≤ 140737488355328 by have := HF.out.1; omega)
  clear hcell hrow hx
  refine wp_region_pin 9 [.const (.pointer (some ⟨w6.heap.size, 1, none⟩)), .const (.slice Bw t.nw dw), .const (.pointer (some ⟨w.heap.size, 1, none⟩)), .const (.slice (some ⟨b, o, none⟩) t.nw cw), .const (.int .i64 (i : Int)), .const (.pointer (some ⟨b, o + i, none⟩)), .const (.agg #[.slice A' x.n c']), .held (wdS x.n) (wdR x), .held one1 (wdIn x)]
    [.pointer (some ⟨w6.heap.size, 1, none⟩)] (by kernel_rfl) (by kernel_rfl) rfl ⟨trivial, trivial, trivial, trivial, trivial, trivial, trivial, wdG, wdInG, trivial⟩ (crossAll_no _ _ _ _ trivial) rfl rfl (fun j u hj => ?_) ?_
  · match j, hj with
    | 0, hj =>
      obtain rfl : Value.pointer (some ⟨w6.heap.size, 1, none⟩) = u := by simpa using hj
      exact ⟨_, rfl, rfl, fun w' => by go_simp⟩
  iterate 7 refine wpStir_const (by go_simp) ?_
  simp only [Act.put, List.setIfInBounds_toArray, List.set_cons_succ, List.set_cons_zero]
  refine wpStir_held rfl (fun w' hb hd => ?_) (fun v hv => ?_)
  · clear hd
    have hcw := Lib.hid (copyWorld5_any A' c' x w' HXF.out (HROW.out.mono hb))
    go_simp
    refine hcw.out.mono ?_
    rintro e w'' ⟨⟨v, vs, rfl, ho, hr⟩, hb'⟩
    obtain ⟨A3, c3', rfl, h3⟩ := RowK.own ho
    refine ⟨_, rfl, hb', ⟨_, _, rfl⟩, fun u e => ?_⟩
    obtain rfl : Value.slice A3 x.n c3' = u := by simpa using e
    exact ⟨A3, c3', vs, rfl, h3, hr⟩
  obtain ⟨A3, c4, rfl⟩ := hv
  refine wpStir_held rfl (fun w' hb hd => ?_) (fun v hv => ?_)
  · have h1 : WdK w' (.slice A3 x.n c4) x := hd.1 (by kernel_rfl) _ rfl
    clear hd
    go_simp
    refine ⟨bAlloc (Below.refl _ _) _, ⟨_, rfl⟩, fun b' hb' => ?_⟩
    obtain rfl : w'.heap.size = b' := by simpa using hb'
    exact ⟨_, by simp [go_sem], h1.mono (bAlloc (Below.refl _ _) _)⟩
  obtain ⟨b9, rfl⟩ := hv
  simp only [Act.put, List.setIfInBounds_toArray, List.set_cons_succ, List.set_cons_zero]
  refine wpStir_end (fun w9 hb9 hd => ?_)
  obtain ⟨u, h4, h5⟩ := hd.1 b9 rfl
  clear hd
  have HX9 := Lib.hid (HX.out.mono hb9)
  have HO9 := Lib.hid (owns_below HO.out hb9)
  have HR9 := Lib.hid (HR.out.mono hb9)
  have HFA9 := Lib.hid (owns_below HFA.out hb9)
  have HK9 := Lib.hid h5
  have HL9 := Lib.hid (bTrans HL.out hb9)
  have HZ9 := Lib.hid hb9.size
  refine stir_own (Operand.tmp 41) (Operand.tmp 48) 22 rfl w5.heap.size 81 (.agg #[.slice none 0 0]) 1 24 infoWorld Tryd.underlying22 rfl (by decide) (.slice Bw t.nw dw) t.nw us rfl HO9.out ⟨b9, 0, none⟩ 1 1 [u] rfl rfl (news1 h4) (one1c h5.one) (by unfold maxLen; have := HN.out; omega) (by have := HN.out; omega) HL9.out.size (fun v' w10 hown10 hg10 => ?_)
  obtain ⟨A6, c6, rfl, _⟩ := RowK.own hown10
  have hnb : some w6.heap.size ≠ (Value.slice Bw t.nw dw).ownBlock := fun e => by have := HC.out.worlds; obtain ⟨_, h1, _⟩ := this; have := h1.lt _ e.symm; omega
  have HX10 := Lib.hid (HX9.out.grown hg10 hnb)
  have hk10 : Kept [3, 40, 53] w9 w10 := Kept.of_own hg10 HO9.out (by decide)
  have HR10 := Lib.hid (HR9.out.kept hk10 (by simp) (by simp))
  have HK10 := Lib.hid (HK9.out.kept hk10 (by simp) (by simp))
  have HFA10 := Lib.hid (owns_kept HFA9.out hk10 (by simp))
  have HL10 := Lib.hid (HL9.out.grown hg10 HL9.out.size (fun q hq => (HO9.out.lt q hq).1))
  have HO10 := Lib.hid hown10
  have r1 : w10.cell? ⟨w6.heap.size, 1, none⟩ = some (.slice Bw t.nw dw) := HX10.out.cell 1
  have r2 := HX10.out.frozen 1
  have r3 := HX10.out.lt
  clear hown10 hg10 h4 h5 hb9 c0 hnb hk10 hbl
  simp only [putF, Act.put, List.setIfInBounds_toArray, List.set_cons_succ, List.set_cons_zero, List.drop_succ_cons, List.drop_zero]
  obtain ⟨w20, hw20⟩ : ∃ w20, w10.setCell ⟨w6.heap.size, 1, none⟩ (.slice A6 (t.nw + 1) c6) = w20 := ⟨_, rfl⟩
  have hk11 : Kept [3, 40, 53, 81] w10 w20 := hw20 ▸ Kept.set HX10.out (by decide) 1 _
  have hs11 : WsRows w20 (t.again i).world (t.nw + 1) (us ++ [u]) := ((HR10.out.congr fun j hj => (again_at t i hj).symm).kept hk11 (by simp) (by simp)).snoc (by rw [again_last, HXE.out]; exact HK10.out.kept hk11 (by simp) (by simp)) (by rw [again_last, HXE.out]; have := HXF.out.1; omega)
  have hca : CopyAt w20 w5.heap.size (.slice A6 (t.nw + 1) c6) (.slice Bf t.nf df) (t.again i) := ⟨⟨us ++ [u], owns_kept HO10.out hk11 (by simp), hs11⟩, owns_kept HFA10.out hk11 (by simp)⟩
  obtain ⟨A7, c7, A8, c8, e7, e8, hq⟩ := hca.qat
  have e7 : Value.slice A6 (t.nw + 1) c6 = Value.slice A7 (t.nw + 1) c7 := e7
  have e8 : Value.slice Bf t.nf df = Value.slice A8 t.nf c8 := e8
  simp only [Value.slice.injEq] at e7 e8
  obtain ⟨rfl, _, rfl⟩ := e7
  obtain ⟨rfl, _, rfl⟩ := e8
  have HQQ2 := Lib.hid hq
  have HOX := Lib.hid (show TBox w20 w6.heap.size 25 #[.int .i64 t.wells, .slice A6 (t.nw + 1) c6, .slice Bf t.nf df] from hw20 ▸ HX10.out.set 1 (.slice A6 (t.nw + 1) c6))
  have HBB := Lib.hid (show Below w5.heap.size w5 w20 from hw20 ▸ Below.setCell (p := ⟨w6.heap.size, 1, none⟩) HL10.out (show w5.heap.size ≤ w6.heap.size from HBC.out.size) _)
  have HW20 := Lib.hid hw20
  clear hk11 hs11 hca hq hw20
  refine wpList_skip rfl rfl (w'' := w20) (by rw [← HW20.out]; go_simp) ?_
  clear r1 r2 r3 T_0 T_1 T_2 T_l X_0 X_1 X_2 X_3 X_l
  have hb := HBB.out
  have hB20 : Below w5.heap.size w5 w20 := bTrans (Below.refl _ _) hb
  have HD20 := Lib.hid (bTrans HD5.out hB20)
  have HT20 := Lib.hid (HT5.out.mono hB20)
  have HTB20 := Lib.hid (HTB5.out.mono hB20)
  have HQ20 := Lib.hid (HQQ2.out)
  have T20 := Lib.hid (T5.out.mono hB20)
  have X20 := Lib.hid (X5.out.mono hB20)
  clear hb hB20
  obtain ⟨T_0, T_1, T_2, T_l⟩ := T20.out.c3
  obtain ⟨X_0, X_1, X_2, X_3, X_l⟩ := X20.out.c4
  have O20 := HOX
  clear HOX
  obtain ⟨O_0, O_1, O_2, O_l⟩ := O20.out.c3
  obtain ⟨v2, hv2⟩ : ∃ o, t.again i = o := ⟨_, rfl⟩
  have HO2 := Lib.hid hv2
  have HSO := Lib.hid (show v2.Small by rw [← hv2]; exact again_small HF.out HII.out)
  rw [hv2] at HQ20
  clear hv2
  go_wp2_with fail
  refine ((show Calls Tryd.prog 26 #[.agg #[.int .i64 t.wells, .slice A6 (t.nw + 1) c6, .slice Bf t.nf df]] w20 fun e w' => e = .returned (.bool v2.readyB) ∧ Below w20.heap.size w20 w' by have := ready_any A6 Bf c6 df v2 w20 HSO.out HQ20.out; rw [← HO2.out] at this ⊢; exact this)).mono ?_
  rintro e w21 ⟨rfl, hb⟩
  have hB21 : Below w20.heap.size w20 w21 := bTrans (Below.refl _ _) hb
  have HD21 := Lib.hid (bTrans HD20.out hB21)
  have HT21 := Lib.hid (HT20.out.mono hB21)
  have HTB21 := Lib.hid (HTB20.out.mono hB21)
  have HQ21 := Lib.hid (HQ20.out.mono hB21)
  have T21 := Lib.hid (T20.out.mono hB21)
  have X21 := Lib.hid (X20.out.mono hB21)
  have O21 := Lib.hid (O20.out.mono hB21)
  clear hb hB21 HD20 HT20 HTB20 HQ20 T20 T_0 T_1 T_2 T_l X20 X_0 X_1 X_2 X_3 X_l O20 O_0 O_1 O_2 O_l
  obtain ⟨T_0, T_1, T_2, T_l⟩ := T21.out.c3
  obtain ⟨X_0, X_1, X_2, X_3, X_l⟩ := X21.out.c4
  obtain ⟨O_0, O_1, O_2, O_l⟩ := O21.out.c3
  obtain ⟨bq, hbq⟩ : ∃ b, v2.readyB = b := ⟨_, rfl⟩
  rw [hbq]
  have HR2 := Lib.hid hbq
  clear hbq
  cases bq
  case false =>
    go_wp2_with fail
    refine (works5_any _ HTB21.out).mono ?_
    rintro e w99 ⟨rfl, hb99⟩
    go_wp2_with fail
    go_ret
    exact ⟨rfl, bTrans HD21.out hb99⟩
  go_wp2_with fail
  have HAL := Lib.hid (show Alike t v2 by have := (readyB_ok HR2.out).1; rw [← HO2.out] at this ⊢; exact again_ok HOK.out HII.out this)
  refine ((show Calls Tryd.prog 65 #[.agg #[.int .i64 t.wells, .slice (some ⟨b, o, none⟩) t.nw cw, .slice Af t.nf cf], .agg #[.int .i64 t.wells, .slice A6 (t.nw + 1) c6, .slice Bf t.nf df], .agg #[.int .i64 (p : Int), .int .i64 (q : Int), .int .i64 law, .slice Ad nd cd]] w21 fun e w' => e = .returned (.bool true) ∧ Below w21.heap.size w21 w' by have := alikeS_any (some ⟨b, o, none⟩) Af A6 Bf cw cf c6 df t v2 p q law Ad nd cd w21 HS.out HSO.out HT21.out HQ21.out HTB21.out HAL.out HP.out HQQ.out; rw [← HO2.out] at this; exact this)).mono ?_
  rintro e w22 ⟨rfl, hb⟩
  have hB22 : Below w21.heap.size w21 w22 := bTrans (Below.refl _ _) hb
  have HD22 := Lib.hid (bTrans HD21.out hB22)
  have HT22 := Lib.hid (HT21.out.mono hB22)
  have HTB22 := Lib.hid (HTB21.out.mono hB22)
  have HQ22 := Lib.hid (HQ21.out.mono hB22)
  have T22 := Lib.hid (T21.out.mono hB22)
  have X22 := Lib.hid (X21.out.mono hB22)
  have O22 := Lib.hid (O21.out.mono hB22)
  clear hb hB22 HD21 HT21 HTB21 HQ21 T21 T_0 T_1 T_2 T_l X21 X_0 X_1 X_2 X_3 X_l O21 O_0 O_1 O_2 O_l
  obtain ⟨T_0, T_1, T_2, T_l⟩ := T22.out.c3
  obtain ⟨X_0, X_1, X_2, X_3, X_l⟩ := X22.out.c4
  obtain ⟨O_0, O_1, O_2, O_l⟩ := O22.out.c3
  go_wp2_with fail
  refine (works5_any _ HTB22.out).mono ?_
  rintro e w99 ⟨rfl, hb99⟩
  go_wp2_with fail
  go_ret
  exact ⟨rfl, bTrans HD22.out hb99⟩
end Go.Proofs.YtchhodikgllgnaaDoor
