/- Parts joined: what all claims of this seat need. -/
import Derived.Test.YtifkjnmnflhnoaaGreatDoorNBI
set_option linter.unusedSimpArgs false
set_option linter.unusedVariables false
namespace Go.Proofs.YtifkjnmnflhnoaaGreatDoor
open Go.RowKit Go.Sort
theorem made2 (m i : Nat) (h : i < m) : (madeCells #[Value.int .i64 0, .int .i64 0] m).toList[i]? = some (.int .i64 0) := by
  simp only [madeCells, Array.toList_map, Array.toList_range, List.getElem?_map, List.getElem?_range h, Option.map_some]
  have : (#[Value.int .i64 0, Value.int .i64 0] : Array Value).size = 2 := rfl
  rw [this]
  rcases Nat.mod_two_eq_zero_or_one i with e | e <;> rw [e] <;> rfl
theorem SpsAt.setOther {w : World} {T o n b : Nat} {f : Nat → Int × Int} (h : SpsAt w (some ⟨T, o, none⟩) n f) (hne : T ≠ b) (j : Nat) (v : Value) : SpsAt (w.setCell ⟨b, j, none⟩ v) (some ⟨T, o, none⟩) n f := by
  rcases h with h | ⟨b', o', e, hlt, hc⟩
  · exact .inl h
  · simp only [Option.some.injEq, Addr.mk.injEq, and_true] at e
    obtain ⟨rfl, rfl⟩ := e
    have hk : ∀ i, (w.setCell ⟨b, j, none⟩ v).cell? ⟨T, i, none⟩ = w.cell? ⟨T, i, none⟩ := fun i => cell_of_heap (Below.heap_setCell _ _ _ _ (by dsimp only; omega)) _
    exact .inr ⟨T, o, rfl, by simpa [World.setCell] using hlt, fun i hi => ⟨(hk _).trans (hc i hi).1, (hk _).trans (hc i hi).2⟩⟩
def zsR (N n : Nat) (w : World) (v : Value) : Prop := ∀ b, v = .slice (some ⟨b, 0, none⟩) n n → N ≤ b ∧ SpsAt w (some ⟨b, 0, none⟩) n (fun _ => (0, 0))
theorem zsG {N n : Nat} : (Stir.held (slS n) (zsR N n)).good := ⟨⟨_, 0, rfl⟩, fun _ _ _ hb h b e => ⟨(h b e).1, (h b e).2.mono hb⟩⟩
theorem infoSpan9 : (Tryz.prog.info? 43).map (fun i => (i.zero, i.size, i.bytes)) = some (some (.agg #[.int .i64 0, .int .i64 0]), 2, 16) := by kernel_rfl
theorem stir_make {o : Oper} {a : Act} (w : World) (l c : Operand) (hop : o.op = Op.makeSlice 46 l c) (n : Nat) (hl : a.eval l = .int .i64 (n : Int)) (hc : a.eval c = .int .i64 (n : Int)) (hn : n ≤ 4) (N : Nat) (hN : N ≤ w.heap.size) : Oper.stirAt Tryz.prog o a w Newer (fun w' v => slS n v ∧ zsR N n w' v) := by
  obtain ⟨i0, hi, iz0, iz1, iz2⟩ := info_parts infoSpan9
  obtain ⟨w', hrun, hown, hg⟩ := run_make_full (P := Tryz.prog) w w.heap.size 46 43 i0 (.agg #[.int .i64 0, .int .i64 0]) 2 Tryz.underlying46 hi iz0 iz1 .i64 .i64 n (by rw [iz2]; omega) (by unfold maxLen; omega) (Nat.le_refl _)
  unfold Oper.stirAt
  simp only [execOp, hop, hl, hc, hrun, Result.andThen, Sem.run_bind, Sem.run_pure, Oper.stirUpon]
  refine ⟨below_grown hg, ⟨_, rfl⟩, fun b e => ?_⟩
  obtain rfl : w.heap.size = b := by simpa using e
  obtain ⟨_, cur, hbx, hcur⟩ := owns_box hown
  refine ⟨hN, ?_⟩
  refine .inr ⟨_, 0, rfl, hbx.lt, fun i hi => ?_⟩
  have key : ∀ j, j < n * 2 → w'.cell? ⟨w.heap.size, j, none⟩ = some (.int .i64 0) := fun j hj => by
    refine (hbx.cell j).trans ?_
    have h1 : (cur.toList.take (n * 2))[j]? = some (.int .i64 0) := by rw [hcur]; exact made2 _ _ hj
    rw [List.getElem?_take, if_pos hj, Array.getElem?_toList] at h1
    exact h1
  rw [Nat.zero_add]
  exact ⟨key _ (by omega), key _ (by omega)⟩
theorem withinF_b (n lo hi : Int) (b : Bool) (w : World) (h : inR n lo hi = b) : Calls Tryz.prog 42 #[.int .i64 n, .int .i64 lo, .int .i64 hi] w fun e w' => e = .returned (.bool b) ∧ Below w.heap.size w w' := by
  have H := Lib.hid h
  clear h
  go_enter Tryz.func42, Tryz.ntmps42
  go_wp2
  all_goals
    go_ret
    exact ⟨ret_bool (by rw [← H.out]; unfold inR; simp; omega), Below.refl _ _⟩
def kOf (b : Bk) (T : Nat) (KA : Option Addr) (kn kc : Nat) (g : Nat → Crd) : Kb := { base := b.base, pl := b.pl, n := kn, a := KA, c := kc, g := g, top := { ca := some ⟨T, 0, none⟩, cc := b.pl, sp := fun _ => (0, 0) } }
theorem cord_zero {base : Int} (hb : 2 ≤ base) (pl : Nat) : CordOk base pl (fun _ => (0, 0)) := fun _ _ => ⟨Int.le_refl _, Int.le_refl _, show (0 : Int) < base by omega⟩
def KnOut (w : World) (b : Bk) (KA : Option Addr) (kn kc : Nat) (v : Value) : Prop := ∃ T, v = .agg #[.int .i64 b.base, .int .i64 (b.pl : Int), .slice KA kn kc, .slice (some ⟨T, 0, none⟩) b.pl b.pl] ∧ SpsAt w (some ⟨T, 0, none⟩) b.pl (fun _ => (0, 0))
set_option maxHeartbeats 4000000 in
set_option maxRecDepth 100000 in
theorem knotted_any (b : Bk) (KA : Option Addr) (kn kc : Nat) (w : World) (hp : b.pl ≤ 4) :
    Calls Tryz.prog 55 #[.agg #[.int .i64 b.base, .int .i64 (b.pl : Int), .int .i64 b.pers, .int .i64 b.late, .slice b.a1 b.n1 b.c1, .slice b.a2 b.n2 b.c2], .slice KA kn kc] w fun e w' => (∃ v, e = .returned v ∧ KnOut w' b KA kn kc v) ∧ Below w.heap.size w w' := by
  have m1 : ¬ (b.pl : Int) < 0 := by omega
  have m2 : ¬ (4 : Int) < (b.pl : Int) := by omega
  have m3 : (0 : Int) ≤ (b.pl : Int) := by omega
  have m4 : (b.pl : Int) ≤ 4 := by omega
  have HD0 := Lib.hid (Below.refl w.heap.size w)
  have HP := Lib.hid hp
  clear hp
  go_enter Tryz.func55, Tryz.ntmps55
  have HR := Lib.hid (TBox.new (w.alloc (.cells #[.int .i64 b.base, .int .i64 (b.pl : Int), .int .i64 b.pers, .int .i64 b.late, .slice b.a1 b.n1 b.c1, .slice b.a2 b.n2 b.c2] 41)) #[.int .i64 0, .int .i64 0, .slice none 0 0, .slice none 0 0] 70)
  go_wp2_with fail
  refine wp_region_stir 10 [.const (.pointer (some ⟨w.heap.size, 0, none⟩)), .const (.int .i64 b.base), .const (.pointer (some ⟨w.heap.size, 1, none⟩)), .const (.int .i64 (b.pl : Int)), .const (.slice KA kn kc), .const (.pointer (some ⟨w.heap.size, 1, none⟩)), .const (.int .i64 (b.pl : Int)), .const (.int .i64 (b.pl : Int)), .const (.int .i64 (b.pl : Int)), .held (slS b.pl) (zsR (w.heap.size + 1 + 1) b.pl)] (by kernel_rfl) (by kernel_rfl) rfl ⟨trivial, trivial, trivial, trivial, trivial, trivial, trivial, trivial, trivial, zsG, trivial⟩ (crossAll_no _ _ _ _ trivial) ?_
  iterate 7 refine wpStir_const (by go_simp) ?_
  iterate 2 refine wpStir_const (by go_simp; omega) ?_
  simp only [Act.put, List.setIfInBounds_toArray, List.set_cons_succ, List.set_cons_zero]
  refine wpStir_held rfl (fun w' hb' hd => ?_) (fun v' hv' => ?_)
  · clear hd
    exact stir_make w' (Operand.tmp 13) (Operand.tmp 13) rfl b.pl rfl rfl HP.out _ (by have := hb'.size; simpa using this)
  obtain ⟨T, rfl⟩ := hv'
  refine wpStir_end (fun w1 hb5 hd => ?_)
  obtain ⟨hTN, hz⟩ := hd.1 _ rfl
  have HTN := Lib.hid hTN
  have HZ := Lib.hid hz
  clear hTN hz
  clear hd
  simp only [List.drop_succ_cons, List.drop_zero]
  simp only [Act.put, List.setIfInBounds_toArray, List.set_cons_succ, List.set_cons_zero]
  have hb := hb5
  clear hb5
  have hB1 : Below w.heap.size w w1 := bTrans (bAlloc (bAlloc (Below.refl _ _) (.cells #[.int .i64 b.base, .int .i64 (b.pl : Int), .int .i64 b.pers, .int .i64 b.late, .slice b.a1 b.n1 b.c1, .slice b.a2 b.n2 b.c2] 41)) (.cells #[.int .i64 0, .int .i64 0, .slice none 0 0, .slice none 0 0] 70)) hb
  have HD1 := Lib.hid (bTrans HD0.out hB1)
  have HZS1 := Lib.hid (HZ.out)
  have B1 := Lib.hid (show TBox w1 w.heap.size 41 #[.int .i64 b.base, .int .i64 (b.pl : Int), .int .i64 b.pers, .int .i64 b.late, .slice b.a1 b.n1 b.c1, .slice b.a2 b.n2 b.c2] from by have := ((TBox.new w #[.int .i64 b.base, .int .i64 (b.pl : Int), .int .i64 b.pers, .int .i64 b.late, .slice b.a1 b.n1 b.c1, .slice b.a2 b.n2 b.c2] 41).mono (bAlloc (Below.refl _ _) (.cells #[.int .i64 0, .int .i64 0, .slice none 0 0, .slice none 0 0] 70))).mono hb; simpa using this)
  have R1 := Lib.hid (show TBox w1 (w.heap.size + 1) 70 #[.int .i64 0, .int .i64 0, .slice none 0 0, .slice none 0 0] from by have := ((TBox.new (w.alloc (.cells #[.int .i64 b.base, .int .i64 (b.pl : Int), .int .i64 b.pers, .int .i64 b.late, .slice b.a1 b.n1 b.c1, .slice b.a2 b.n2 b.c2] 41)) #[.int .i64 0, .int .i64 0, .slice none 0 0, .slice none 0 0] 70).mono (Below.refl _ _)).mono hb; simpa using this)
  clear hb hB1 HD0
  obtain ⟨B_0, B_1, B_2, B_3, B_4, B_5, B_l⟩ := B1.out.c6
  obtain ⟨R_0, R_1, R_2, R_3, R_l⟩ := R1.out.c4
  clear HZ
  have rf0 := R1.out.frozen 0
  have rf1 := R1.out.frozen 1
  have rf2 := R1.out.frozen 2
  have rf3 := R1.out.frozen 3
  go_wp2_with fail
  refine bodyPost_ret (v := .agg #[.int .i64 b.base, .int .i64 (b.pl : Int), .slice KA kn kc, .slice (some ⟨T, 0, none⟩) b.pl b.pl]) (by simp [results, Tryz.results55, go_sem, *]) rfl ⟨⟨_, rfl, T, rfl, ?_⟩, (Below.setCell (p := ⟨(w.heap.size + 1), 3, none⟩) (Below.setCell (p := ⟨(w.heap.size + 1), 2, none⟩) (Below.setCell (p := ⟨(w.heap.size + 1), 1, none⟩) (Below.setCell (p := ⟨(w.heap.size + 1), 0, none⟩) HD1.out (by simp <;> omega) _) (by simp <;> omega) _) (by simp <;> omega) _) (by simp <;> omega) _)⟩
  have hne : T ≠ w.heap.size + 1 := by have := HTN.out; omega
  exact ((((HZS1.out.setOther hne 0 _).setOther hne 1 _).setOther hne 2 _).setOther hne 3 _)
theorem kOf_ok {b : Bk} {T : Nat} {KA : Option Addr} {kn kc : Nat} {g : Nat → Crd} (ok : b.Ok) (hk : kn ≤ 4) (h : ∀ i, i < kn → CordOk b.base b.pl (g i).sp) : (kOf b T KA kn kc g).Ok := ⟨ok.base, ok.pl, hk, h, cord_zero ok.base.1 _⟩
theorem one_crd {w : World} {c pl : Nat} {C : Crd} (h : TBox w c 46 #[.slice C.ca pl C.cc]) (hx : SpsAt w C.ca pl C.sp) : CrdsAt w (some ⟨c, 0, none⟩) 1 pl (fun _ => C) := .inr ⟨c, 0, rfl, h.lt, fun i hi => by
  obtain rfl : i = 0 := by omega
  exact ⟨h.cell 0, hx⟩⟩
def Ent.crd (x : Ent) : Crd := { ca := x.ca, cc := x.cc, sp := x.sp }
set_option maxHeartbeats 4000000 in
set_option maxRecDepth 100000 in
theorem isEntry_any (b : Bk) (x : Ent) (w : World) (ok : b.Ok) (h : EntOk b x) (hx : SpsAt w x.ca b.pl x.sp) :
    Calls Tryz.prog 58 #[.agg #[.int .i64 b.base, .int .i64 (b.pl : Int), .int .i64 b.pers, .int .i64 b.late, .slice b.a1 b.n1 b.c1, .slice b.a2 b.n2 b.c2], .agg #[.int .i64 x.day, .int .i64 x.who, .slice x.ca b.pl x.cc]] w fun e w' => e = .returned (.bool (true)) ∧ Below w.heap.size w w' := by
  have hw : IntKind.i64.wrap (b.pers - 1) = b.pers - 1 := IntWalk.i64_in _ (by have := ok.pers; omega)
  have HD0 := Lib.hid (Below.refl w.heap.size w)
  have HOK := Lib.hid ok
  have HH := Lib.hid h
  have HX0 := Lib.hid hx
  clear ok h hx
  go_enter Tryz.func58, Tryz.ntmps58
  go_wp2_with fail
  refine (withinF_b _ _ _ true _ (inR_t HH.out.day)).mono ?_
  rintro e w1 ⟨rfl, hb⟩
  have hB1 : Below w.heap.size w w1 := bTrans (bAlloc (bAlloc (Below.refl _ _) (.cells #[.int .i64 b.base, .int .i64 (b.pl : Int), .int .i64 b.pers, .int .i64 b.late, .slice b.a1 b.n1 b.c1, .slice b.a2 b.n2 b.c2] 41)) (.cells #[.int .i64 x.day, .int .i64 x.who, .slice x.ca b.pl x.cc] 48)) hb
  have HD1 := Lib.hid (bTrans HD0.out hB1)
  have HX1 := Lib.hid (HX0.out.mono hB1)
  have B1 := Lib.hid (show TBox w1 w.heap.size 41 #[.int .i64 b.base, .int .i64 (b.pl : Int), .int .i64 b.pers, .int .i64 b.late, .slice b.a1 b.n1 b.c1, .slice b.a2 b.n2 b.c2] from by have := ((TBox.new w #[.int .i64 b.base, .int .i64 (b.pl : Int), .int .i64 b.pers, .int .i64 b.late, .slice b.a1 b.n1 b.c1, .slice b.a2 b.n2 b.c2] 41).mono (bAlloc (Below.refl _ _) (.cells #[.int .i64 x.day, .int .i64 x.who, .slice x.ca b.pl x.cc] 48))).mono hb; simpa using this)
  have X1 := Lib.hid (show TBox w1 (w.heap.size + 1) 48 #[.int .i64 x.day, .int .i64 x.who, .slice x.ca b.pl x.cc] from by have := ((TBox.new (w.alloc (.cells #[.int .i64 b.base, .int .i64 (b.pl : Int), .int .i64 b.pers, .int .i64 b.late, .slice b.a1 b.n1 b.c1, .slice b.a2 b.n2 b.c2] 41)) #[.int .i64 x.day, .int .i64 x.who, .slice x.ca b.pl x.cc] 48).mono (Below.refl _ _)).mono hb; simpa using this)
  clear hb hB1 HD0 HX0
  obtain ⟨B_0, B_1, B_2, B_3, B_4, B_5, B_l⟩ := B1.out.c6
  obtain ⟨X_0, X_1, X_2, X_l⟩ := X1.out.c3
  go_wp2_with fail
  refine (withinF_b _ _ _ true _ (inR_t HH.out.who)).mono ?_
  rintro e w2 ⟨rfl, hb⟩
  have hB2 : Below w1.heap.size w1 w2 := bTrans (Below.refl _ _) hb
  have HD2 := Lib.hid (bTrans HD1.out hB2)
  have HX2 := Lib.hid (HX1.out.mono hB2)
  have B2 := Lib.hid (B1.out.mono hB2)
  have X2 := Lib.hid (X1.out.mono hB2)
  clear hb hB2 HD1 HX1 B1 B_0 B_1 B_2 B_3 B_4 B_5 B_l X1 X_0 X_1 X_2 X_l
  obtain ⟨B_0, B_1, B_2, B_3, B_4, B_5, B_l⟩ := B2.out.c6
  obtain ⟨X_0, X_1, X_2, X_l⟩ := X2.out.c3
  go_wp2_with fail
  refine (knotted_any b (some ⟨w2.heap.size, 0, none⟩) 1 1 _ HOK.out.pl.2).mono ?_
  rintro e w3 ⟨⟨v, rfl, T, rfl, hz⟩, hb⟩
  have HZ := Lib.hid hz
  clear hz
  have hB3 : Below w2.heap.size w2 w3 := bTrans (bAlloc (Below.refl _ _) (.cells #[.slice x.ca b.pl x.cc] 46)) hb
  have HD3 := Lib.hid (bTrans HD2.out hB3)
  have HX3 := Lib.hid (HX2.out.mono hB3)
  have HZS3 := Lib.hid (HZ.out)
  have B3 := Lib.hid (B2.out.mono hB3)
  have X3 := Lib.hid (X2.out.mono hB3)
  have C3 := Lib.hid (show TBox w3 w2.heap.size 46 #[.slice x.ca b.pl x.cc] from by have := ((TBox.new w2 #[.slice x.ca b.pl x.cc] 46).mono (Below.refl _ _)).mono hb; simpa using this)
  clear hb hB3 HD2 HX2 B2 B_0 B_1 B_2 B_3 B_4 B_5 B_l X2 X_0 X_1 X_2 X_l
  obtain ⟨B_0, B_1, B_2, B_3, B_4, B_5, B_l⟩ := B3.out.c6
  obtain ⟨X_0, X_1, X_2, X_l⟩ := X3.out.c3
  obtain ⟨C_0, C_l⟩ := C3.out.c1
  clear HZ
  go_wp2_with fail
  refine (checkK_any (kOf b T (some ⟨w2.heap.size, 0, none⟩) 1 1 (fun _ => x.crd)) _ (kOf_ok HOK.out (by omega) (fun _ _ => HH.out.cord)) ⟨one_crd C3.out HX3.out, HZS3.out⟩).mono ?_
  rintro e w4 ⟨rfl, hb⟩
  have hB4 : Below w3.heap.size w3 w4 := bTrans (Below.refl _ _) hb
  have HD4 := Lib.hid (bTrans HD3.out hB4)
  have HX4 := Lib.hid (HX3.out.mono hB4)
  have HZS4 := Lib.hid (HZS3.out.mono hB4)
  have B4 := Lib.hid (B3.out.mono hB4)
  have X4 := Lib.hid (X3.out.mono hB4)
  have C4 := Lib.hid (C3.out.mono hB4)
  clear hb hB4 HD3 HX3 HZS3 B3 B_0 B_1 B_2 B_3 B_4 B_5 B_l X3 X_0 X_1 X_2 X_l C3 C_0 C_l
  obtain ⟨B_0, B_1, B_2, B_3, B_4, B_5, B_l⟩ := B4.out.c6
  obtain ⟨X_0, X_1, X_2, X_l⟩ := X4.out.c3
  obtain ⟨C_0, C_l⟩ := C4.out.c1
  go_wp2_with fail
  go_ret
  exact ⟨rfl, HD4.out⟩
set_option maxHeartbeats 4000000 in
set_option maxRecDepth 100000 in
theorem badE_any (fb : Nat) (b : Bk) (x : Ent) (w : World) (ok : b.Ok) (h : EntOk b x) (hx : SpsAt w x.ca b.pl x.sp) (hk : TBox w fb 41 #[.int .i64 b.base, .int .i64 (b.pl : Int), .int .i64 b.pers, .int .i64 b.late, .slice b.a1 b.n1 b.c1, .slice b.a2 b.n2 b.c2]) :
    Calls Tryz.prog 57 #[.agg #[.int .i64 x.day, .int .i64 x.who, .slice x.ca b.pl x.cc], .pointer (some ⟨fb, 0, none⟩)] w fun e w' => e = .returned (.bool (false)) ∧ Below w.heap.size w w' := by
  have HD0 := Lib.hid (Below.refl w.heap.size w)
  have HOK := Lib.hid ok
  have HH := Lib.hid h
  have HX0 := Lib.hid hx
  clear ok h hx
  go_enter Tryz.func57, Tryz.ntmps57
  have B0 := Lib.hid hk
  clear hk
  obtain ⟨B_0, B_1, B_2, B_3, B_4, B_5, B_l⟩ := B0.out.c6
  go_wp2_with fail
  refine (isEntry_any b x _ HOK.out HH.out (HX0.out.mono (bAlloc (Below.refl _ _) (.cells #[.int .i64 x.day, .int .i64 x.who, .slice x.ca b.pl x.cc] 48)))).mono ?_
  rintro e w1 ⟨rfl, hb⟩
  have hB1 : Below w.heap.size w w1 := bTrans (bAlloc (Below.refl _ _) (.cells #[.int .i64 x.day, .int .i64 x.who, .slice x.ca b.pl x.cc] 48)) hb
  have HD1 := Lib.hid (bTrans HD0.out hB1)
  have HX1 := Lib.hid (HX0.out.mono hB1)
  have B1 := Lib.hid (B0.out.mono hB1)
  have X1 := Lib.hid (show TBox w1 w.heap.size 48 #[.int .i64 x.day, .int .i64 x.who, .slice x.ca b.pl x.cc] from by have := ((TBox.new w #[.int .i64 x.day, .int .i64 x.who, .slice x.ca b.pl x.cc] 48).mono (Below.refl _ _)).mono hb; simpa using this)
  clear hb hB1 HD0 HX0 B0 B_0 B_1 B_2 B_3 B_4 B_5 B_l
  obtain ⟨B_0, B_1, B_2, B_3, B_4, B_5, B_l⟩ := B1.out.c6
  obtain ⟨X_0, X_1, X_2, X_l⟩ := X1.out.c3
  go_wp2_with fail
  go_ret
  exact ⟨rfl, HD1.out⟩
theorem EntsAt.sp {w : World} {A : Option Addr} {n pl : Nat} {g : Nat → Ent} (h : EntsAt w A n pl g) {i : Nat} (hi : i < n) : SpsAt w (g i).ca pl (g i).sp := by
  rcases h with h | ⟨b, o, _, _, hc⟩
  · omega
  · exact (hc i hi).2.2.2
theorem noneE_any (fb : Nat) (b : Bk) (A : Option Addr) (n c : Nat) (f : Nat → Ent) (w : World) (ok : b.Ok) (hn : n ≤ 5) (hf : ∀ i, i < n → EntOk b (f i)) (hA : EntsAt w A n b.pl f) (hk : TBox w fb 41 #[.int .i64 b.base, .int .i64 (b.pl : Int), .int .i64 b.pers, .int .i64 b.late, .slice b.a1 b.n1 b.c1, .slice b.a2 b.n2 b.c2]) : Calls Tryz.prog 56 #[.slice A n c, .func (.func 57) #[] #[.pointer (some ⟨fb, 0, none⟩)]] w fun e w' => e = .returned (.bool false) ∧ Below w.heap.size w w' :=
  none_ent b.pl f A n c 57 #[.pointer (some ⟨fb, 0, none⟩)] _ (by omega) hA (enters_of Tryz.func57 (by kernel_rfl)) (fun i hi w3 hb3 => by
    have h := badE_any fb b (f i) w3 ok (hf i hi) ((hA.mono hb3).sp hi) (hk.mono hb3)
    simpa using h)
theorem index_two (x y : Value) (w : World) : (Instr.index 112 (.agg #[x, y]) (.int .i64 0)).run Tryz.prog w = .ok x w ∧ (Instr.index 112 (.agg #[x, y]) (.int .i64 1)).run Tryz.prog w = .ok y w := by
  have h : Tryz.prog.underlying 112 = some (.array 2 39) := by kernel_rfl
  constructor <;> simp [Instr.index, run_underlying h, asIntOf, go_sem]
set_option maxHeartbeats 4000000 in
set_option maxRecDepth 100000 in
theorem checkF_any (b : Bk) (w : World) (ok : b.Ok) (hT : BkAt w b) :
    Calls Tryz.prog 34 #[.agg #[.int .i64 b.base, .int .i64 (b.pl : Int), .int .i64 b.pers, .int .i64 b.late, .slice b.a1 b.n1 b.c1, .slice b.a2 b.n2 b.c2]] w fun e w' => e = .returned (.int .i64 (0)) ∧ Below w.heap.size w w' := by
  have h5 : ¬ (b.n1 : Int) > 5 := by have := ok.n1; omega
  have h5b : decide ((b.n1 : Int) > 5) = false := by simp; have := ok.n1; omega
  have h6 : ¬ (b.n2 : Int) > 5 := by have := ok.n2; omega
  have h6b : decide ((b.n2 : Int) > 5) = false := by simp; have := ok.n2; omega
  have HD0 := Lib.hid (Below.refl w.heap.size w)
  have HOK := Lib.hid ok
  have HT0 := Lib.hid hT
  clear ok hT
  go_enter Tryz.func34, Tryz.ntmps34
  go_wp2_with fail
  refine (knotted_any b none 0 0 _ HOK.out.pl.2).mono ?_
  rintro e w1 ⟨⟨v, rfl, T, rfl, hz⟩, hb⟩
  have HZ := Lib.hid hz
  clear hz
  have hB1 : Below w.heap.size w w1 := bTrans (bAlloc (Below.refl _ _) (.cells #[.int .i64 b.base, .int .i64 (b.pl : Int), .int .i64 b.pers, .int .i64 b.late, .slice b.a1 b.n1 b.c1, .slice b.a2 b.n2 b.c2] 41)) hb
  have HD1 := Lib.hid (bTrans HD0.out hB1)
  have HT1 := Lib.hid (HT0.out.mono hB1)
  have HZS1 := Lib.hid (HZ.out)
  have B1 := Lib.hid (show TBox w1 w.heap.size 41 #[.int .i64 b.base, .int .i64 (b.pl : Int), .int .i64 b.pers, .int .i64 b.late, .slice b.a1 b.n1 b.c1, .slice b.a2 b.n2 b.c2] from by have := ((TBox.new w #[.int .i64 b.base, .int .i64 (b.pl : Int), .int .i64 b.pers, .int .i64 b.late, .slice b.a1 b.n1 b.c1, .slice b.a2 b.n2 b.c2] 41).mono (Below.refl _ _)).mono hb; simpa using this)
  clear hb hB1 HD0 HT0
  obtain ⟨B_0, B_1, B_2, B_3, B_4, B_5, B_l⟩ := B1.out.c6
  clear HZ
  go_wp2_with fail
  refine (checkK_any (kOf b T none 0 0 (fun _ => { ca := none, cc := 0, sp := fun _ => (0, 0) })) _ (kOf_ok HOK.out (by omega) (fun _ h => absurd h (Nat.not_lt_zero _))) ⟨.inl rfl, HZS1.out⟩).mono ?_
  rintro e w2 ⟨rfl, hb⟩
  have hB2 : Below w1.heap.size w1 w2 := bTrans (Below.refl _ _) hb
  have HD2 := Lib.hid (bTrans HD1.out hB2)
  have HT2 := Lib.hid (HT1.out.mono hB2)
  have B2 := Lib.hid (B1.out.mono hB2)
  clear hb hB2 HD1 HT1 HZS1 B1 B_0 B_1 B_2 B_3 B_4 B_5 B_l
  obtain ⟨B_0, B_1, B_2, B_3, B_4, B_5, B_l⟩ := B2.out.c6
  go_wp2_with fail
  refine (withinF_b _ _ _ true _ (inR_t (by have := HOK.out.pers; omega))).mono ?_
  rintro e w3 ⟨rfl, hb⟩
  have hB3 : Below w2.heap.size w2 w3 := bTrans (Below.refl _ _) hb
  have HD3 := Lib.hid (bTrans HD2.out hB3)
  have HT3 := Lib.hid (HT2.out.mono hB3)
  have B3 := Lib.hid (B2.out.mono hB3)
  clear hb hB3 HD2 HT2 B2 B_0 B_1 B_2 B_3 B_4 B_5 B_l
  obtain ⟨B_0, B_1, B_2, B_3, B_4, B_5, B_l⟩ := B3.out.c6
  go_wp2_with fail
  refine (withinF_b _ _ _ true _ (inR_t (by have := HOK.out.late; omega))).mono ?_
  rintro e w4 ⟨rfl, hb⟩
  have hB4 : Below w3.heap.size w3 w4 := bTrans (Below.refl _ _) hb
  have HD4 := Lib.hid (bTrans HD3.out hB4)
  have HT4 := Lib.hid (HT3.out.mono hB4)
  have B4 := Lib.hid (B3.out.mono hB4)
  clear hb hB4 HD3 HT3 B3 B_0 B_1 B_2 B_3 B_4 B_5 B_l
  obtain ⟨B_0, B_1, B_2, B_3, B_4, B_5, B_l⟩ := B4.out.c6
  go_wp2_with fail
  clear B_0 B_1 B_2 B_3 B_4 B_5 B_l
  go_loopw [26] (fun s26 wr => ∃ k : Nat, k ≤ 2 ∧ s26 = .int .i64 (k : Int) ∧ Below w4.heap.size w4 wr) (fun s26 _ => 2 - (intOf s26).toNat)
  case atStart => exact ⟨0, Nat.zero_le _, rfl, Below.refl _ _⟩
  case round =>
    obtain ⟨k, hk_k, rfl, hb⟩ := hrel
    have HBk := Lib.hid hb
    have hB5 : Below w4.heap.size w4 wr := bTrans (Below.refl _ _) hb
    have HD5 := Lib.hid (bTrans HD4.out hB5)
    have HT5 := Lib.hid (HT4.out.mono hB5)
    have HU_k5 := Lib.hid ((show Upto w4 wr from HBk.out))
    have B5 := Lib.hid (B4.out.mono hB5)
    clear hb hB5
    obtain ⟨B_0, B_1, B_2, B_3, B_4, B_5, B_l⟩ := B5.out.c6
    by_cases hlt_k : k < 2
    case pos =>
      have h1_k : (k : Int) < (2 : Int) := by omega
      have h0_k : (0 : Int) ≤ (k : Int) := by omega
      by_cases hk0 : k = 0
      case pos =>
        subst hk0
        have hix := (index_two (.slice b.a1 b.n1 b.c1) (.slice b.a2 b.n2 b.c2) wr).1
        go_wp2_with fail
        refine (noneE_any w.heap.size b b.a1 b.n1 b.c1 b.e1 _ HOK.out HOK.out.n1 HOK.out.e1 HT5.out.ones B5.out).mono ?_
        rintro e w6 ⟨rfl, hb⟩
        have hB6 : Below wr.heap.size wr w6 := bTrans (Below.refl _ _) hb
        have HD6 := Lib.hid (bTrans HD5.out hB6)
        have HT6 := Lib.hid (HT5.out.mono hB6)
        have HU_k6 := Lib.hid (HU_k5.out.mono hB6)
        have B6 := Lib.hid (B5.out.mono hB6)
        clear hb hB6 HD5 HT5 HU_k5 B5 B_0 B_1 B_2 B_3 B_4 B_5 B_l
        obtain ⟨B_0, B_1, B_2, B_3, B_4, B_5, B_l⟩ := B6.out.c6
        go_wp2_with fail
        go_roundw
        case rel =>
          first
          | exact ⟨0 + 1, by omega, by go_num, HU_k6.out⟩
          | ((repeat apply Exists.intro)
             refine ⟨⟨0 + 1, by omega, ?_, HU_k6.out⟩, rfl⟩
             go_num)
        case measure => simp [intOf]
      have hk1 : k = 1 := by omega
      subst hk1
      have hix := (index_two (.slice b.a1 b.n1 b.c1) (.slice b.a2 b.n2 b.c2) wr).2
      go_wp2_with fail
      refine (noneE_any w.heap.size b b.a2 b.n2 b.c2 b.e2 _ HOK.out HOK.out.n2 HOK.out.e2 HT5.out.others B5.out).mono ?_
      rintro e w6 ⟨rfl, hb⟩
      have hB6 : Below wr.heap.size wr w6 := bTrans (Below.refl _ _) hb
      have HD6 := Lib.hid (bTrans HD5.out hB6)
      have HT6 := Lib.hid (HT5.out.mono hB6)
      have HU_k6 := Lib.hid (HU_k5.out.mono hB6)
      have B6 := Lib.hid (B5.out.mono hB6)
      clear hb hB6 HD5 HT5 HU_k5 B5 B_0 B_1 B_2 B_3 B_4 B_5 B_l
      obtain ⟨B_0, B_1, B_2, B_3, B_4, B_5, B_l⟩ := B6.out.c6
      go_wp2_with fail
      go_roundw
      case rel =>
        first
        | exact ⟨1 + 1, by omega, by go_num, HU_k6.out⟩
        | ((repeat apply Exists.intro)
           refine ⟨⟨1 + 1, by omega, ?_, HU_k6.out⟩, rfl⟩
           go_num)
      case measure => simp [intOf]
    have he_k : k = 2 := by omega
    subst he_k
    go_wp2_with fail
    go_ret
    exact ⟨rfl, HD5.out⟩
set_option maxHeartbeats 4000000 in
set_option maxRecDepth 100000 in
theorem askF_any (b : Bk) (w : World) (ok : b.Ok) (hT : BkAt w b) :
    Calls Tryz.prog 38 #[.agg #[.int .i64 b.base, .int .i64 (b.pl : Int), .int .i64 b.pers, .int .i64 b.late, .slice b.a1 b.n1 b.c1, .slice b.a2 b.n2 b.c2], .bool true] w fun e w' => e = .returned (.int .i64 (0)) ∧ Below w.heap.size w w' := by
  have HD0 := Lib.hid (Below.refl w.heap.size w)
  have HOK := Lib.hid ok
  have HT0 := Lib.hid hT
  clear ok hT
  go_enter Tryz.func38, Tryz.ntmps38
  go_wp2_with fail
  refine (checkF_any b _ HOK.out (HT0.out.mono (bAlloc (Below.refl _ _) (.cells #[.int .i64 b.base, .int .i64 (b.pl : Int), .int .i64 b.pers, .int .i64 b.late, .slice b.a1 b.n1 b.c1, .slice b.a2 b.n2 b.c2] 41)))).mono ?_
  rintro e w1 ⟨rfl, hb⟩
  have hB1 : Below w.heap.size w w1 := bTrans (bAlloc (Below.refl _ _) (.cells #[.int .i64 b.base, .int .i64 (b.pl : Int), .int .i64 b.pers, .int .i64 b.late, .slice b.a1 b.n1 b.c1, .slice b.a2 b.n2 b.c2] 41)) hb
  have HD1 := Lib.hid (bTrans HD0.out hB1)
  have HT1 := Lib.hid (HT0.out.mono hB1)
  have B1 := Lib.hid (show TBox w1 w.heap.size 41 #[.int .i64 b.base, .int .i64 (b.pl : Int), .int .i64 b.pers, .int .i64 b.late, .slice b.a1 b.n1 b.c1, .slice b.a2 b.n2 b.c2] from by have := ((TBox.new w #[.int .i64 b.base, .int .i64 (b.pl : Int), .int .i64 b.pers, .int .i64 b.late, .slice b.a1 b.n1 b.c1, .slice b.a2 b.n2 b.c2] 41).mono (Below.refl _ _)).mono hb; simpa using this)
  clear hb hB1 HD0 HT0
  obtain ⟨B_0, B_1, B_2, B_3, B_4, B_5, B_l⟩ := B1.out.c6
  go_wp2_with fail
  go_ret
  exact ⟨rfl, HD1.out⟩
set_option maxHeartbeats 4000000 in
set_option maxRecDepth 100000 in
theorem hasF_any (A : Option Addr) (n c : Nat) (i : Int) (w : World) (h : 0 ≤ i ∧ i < (n : Int)) (hn : n ≤ 5) :
    Calls Tryz.prog 39 #[.slice A n c, .int .i64 i] w fun e w' => e = .returned (.bool (true)) ∧ Below w.heap.size w w' := by
  have hw : IntKind.i64.wrap ((n : Int) - 1) = (n : Int) - 1 := IntWalk.i64_in _ (by omega)
  have HH := Lib.hid (show 0 ≤ i ∧ i ≤ (n : Int) - 1 by omega)
  have HD0 := Lib.hid (Below.refl w.heap.size w)
  go_enter Tryz.func39, Tryz.ntmps39
  go_wp2_with fail
  refine (withinF_b _ _ _ true _ (inR_t HH.out)).mono ?_
  rintro e w1 ⟨rfl, hb⟩
  have hB1 : Below w.heap.size w w1 := bTrans (Below.refl _ _) hb
  have HD1 := Lib.hid (bTrans HD0.out hB1)
  clear hb hB1 HD0
  go_wp2_with fail
  go_ret
  exact ⟨rfl, HD1.out⟩
def dayD (x y : Ent) : Int := max (x.day - y.day) (y.day - x.day)
set_option maxHeartbeats 4000000 in
set_option maxRecDepth 100000 in
theorem daysF_any (px py : Nat) (x y : Ent) (w : World) (hx : 0 ≤ x.day ∧ x.day ≤ 99) (hy : 0 ≤ y.day ∧ y.day ≤ 99) :
    Calls Tryz.prog 37 #[.agg #[.int .i64 x.day, .int .i64 x.who, .slice x.ca px x.cc], .agg #[.int .i64 y.day, .int .i64 y.who, .slice y.ca py y.cc]] w fun e w' => e = .returned (.int .i64 (dayD x y)) ∧ Below w.heap.size w w' := by
  have e1 : IntKind.i64.wrap (x.day - y.day) = x.day - y.day := IntWalk.i64_in _ (by omega)
  have e2 : IntKind.i64.wrap (y.day - x.day) = y.day - x.day := IntWalk.i64_in _ (by omega)
  obtain ⟨hi, hhi⟩ : ∃ hi, (if x.day - y.day < y.day - x.day then y.day - x.day else x.day - y.day) = hi := ⟨_, rfl⟩
  have HE := Lib.hid (show dayD x y = hi by unfold dayD; rw [← hhi, Int.max_def]; split <;> split <;> omega)
  clear hx hy
  have HD0 := Lib.hid (Below.refl w.heap.size w)
  go_enter Tryz.func37, Tryz.ntmps37
  go_wp2_with fail
  go_ret
  exact ⟨by rw [HE.out]; rfl, (bTrans HD0.out (bAlloc (bAlloc (Below.refl _ _) (.cells #[.int .i64 x.day, .int .i64 x.who, .slice x.ca px x.cc] 48)) (.cells #[.int .i64 y.day, .int .i64 y.who, .slice y.ca py y.cc] 48)))⟩
end Go.Proofs.YtifkjnmnflhnoaaGreatDoor

namespace Go.Proofs.YtifkjnmnflhnoaaGreatDoor
open Go.RowKit Go.Sort
set_option maxHeartbeats 4000000 in
set_option maxRecDepth 100000 in
theorem pence_any (b : Bk) (C : Crd) (lo hi : Int) (w : World) (ok : b.Ok) (h : CordOk b.base b.pl C.sp) (hC : SpsAt w C.ca b.pl C.sp) (he : endsF b.base C.sp b.pl = (lo, hi)) :
    Calls Tryz.prog 41 #[.agg #[.int .i64 b.base, .int .i64 (b.pl : Int), .int .i64 b.pers, .int .i64 b.late, .slice b.a1 b.n1 b.c1, .slice b.a2 b.n2 b.c2], .slice C.ca b.pl C.cc] w fun e w' => e = .returned (.agg #[.int .i64 lo, .int .i64 hi]) ∧ Below w.heap.size w w' := by
  have HD0 := Lib.hid (Below.refl w.heap.size w)
  have HOK := Lib.hid ok
  have HH := Lib.hid h
  have HC0 := Lib.hid hC
  have HE := Lib.hid he
  clear ok h hC he
  go_enter Tryz.func41, Tryz.ntmps41
  go_wp2_with fail
  refine (knotted_any b (some ⟨(w.heap.size + 1 + 1), 0, none⟩) 1 1 _ HOK.out.pl.2).mono ?_
  rintro e w1 ⟨⟨v, rfl, T, rfl, hz⟩, hb⟩
  have HZ := Lib.hid hz
  clear hz
  have hB1 : Below w.heap.size w w1 := bTrans (bAlloc (bAlloc (bAlloc (Below.refl _ _) (.cells #[.int .i64 b.base, .int .i64 (b.pl : Int), .int .i64 b.pers, .int .i64 b.late, .slice b.a1 b.n1 b.c1, .slice b.a2 b.n2 b.c2] 41)) (.cells #[.int .i64 0, .int .i64 0] 43)) (.cells #[.slice C.ca b.pl C.cc] 46)) hb
  have HD1 := Lib.hid (bTrans HD0.out hB1)
  have HC1 := Lib.hid (HC0.out.mono hB1)
  have HZS1 := Lib.hid (HZ.out)
  have B1 := Lib.hid (show TBox w1 w.heap.size 41 #[.int .i64 b.base, .int .i64 (b.pl : Int), .int .i64 b.pers, .int .i64 b.late, .slice b.a1 b.n1 b.c1, .slice b.a2 b.n2 b.c2] from by have := ((TBox.new w #[.int .i64 b.base, .int .i64 (b.pl : Int), .int .i64 b.pers, .int .i64 b.late, .slice b.a1 b.n1 b.c1, .slice b.a2 b.n2 b.c2] 41).mono (bAlloc (bAlloc (Below.refl _ _) (.cells #[.int .i64 0, .int .i64 0] 43)) (.cells #[.slice C.ca b.pl C.cc] 46))).mono hb; simpa using this)
  have R1 := Lib.hid (show TBox w1 (w.heap.size + 1) 43 #[.int .i64 0, .int .i64 0] from by have := ((TBox.new (w.alloc (.cells #[.int .i64 b.base, .int .i64 (b.pl : Int), .int .i64 b.pers, .int .i64 b.late, .slice b.a1 b.n1 b.c1, .slice b.a2 b.n2 b.c2] 41)) #[.int .i64 0, .int .i64 0] 43).mono (bAlloc (Below.refl _ _) (.cells #[.slice C.ca b.pl C.cc] 46))).mono hb; simpa using this)
  have K1 := Lib.hid (show TBox w1 (w.heap.size + 1 + 1) 46 #[.slice C.ca b.pl C.cc] from by have := ((TBox.new ((w.alloc (.cells #[.int .i64 b.base, .int .i64 (b.pl : Int), .int .i64 b.pers, .int .i64 b.late, .slice b.a1 b.n1 b.c1, .slice b.a2 b.n2 b.c2] 41)).alloc (.cells #[.int .i64 0, .int .i64 0] 43)) #[.slice C.ca b.pl C.cc] 46).mono (Below.refl _ _)).mono hb; simpa using this)
  clear hb hB1 HD0 HC0
  obtain ⟨B_0, B_1, B_2, B_3, B_4, B_5, B_l⟩ := B1.out.c6
  obtain ⟨R_0, R_1, R_l⟩ := R1.out.c2
  obtain ⟨K_0, K_l⟩ := K1.out.c1
  clear HZ
  go_wp2_with fail
  refine (cordK_any (kOf b T (some ⟨(w.heap.size + 1 + 1), 0, none⟩) 1 1 (fun _ => C)) 0 lo hi _ (kOf_ok HOK.out (by omega) (fun _ _ => HH.out)) ⟨one_crd K1.out HC1.out, HZS1.out⟩ (fun h => by cases h) ⟨Nat.le_refl _, (by decide : 1 ≤ 9223372036854775807)⟩ Nat.one_pos HE.out).mono ?_
  rintro e w2 ⟨rfl, hb⟩
  have hB2 : Below w1.heap.size w1 w2 := bTrans (Below.refl _ _) hb
  have HD2 := Lib.hid (bTrans HD1.out hB2)
  have HC2 := Lib.hid (HC1.out.mono hB2)
  have HZS2 := Lib.hid (HZS1.out.mono hB2)
  have B2 := Lib.hid (B1.out.mono hB2)
  have R2 := Lib.hid (R1.out.mono hB2)
  have K2 := Lib.hid (K1.out.mono hB2)
  clear hb hB2 HD1 HC1 HZS1 B1 B_0 B_1 B_2 B_3 B_4 B_5 B_l R1 R_0 R_1 R_l K1 K_0 K_l
  obtain ⟨B_0, B_1, B_2, B_3, B_4, B_5, B_l⟩ := B2.out.c6
  obtain ⟨R_0, R_1, R_l⟩ := R2.out.c2
  obtain ⟨K_0, K_l⟩ := K2.out.c1
  have rf0 := R2.out.frozen 0
  have rf1 := R2.out.frozen 1
  go_wp2_with fail
  refine bodyPost_ret (v := .agg #[.int .i64 lo, .int .i64 hi]) (by simp [results, Tryz.results41, go_sem, *]) rfl ⟨rfl, ?_⟩
  exact bAlloc (Below.setCell (p := ⟨(w.heap.size + 1), 1, none⟩) (Below.setCell (p := ⟨(w.heap.size + 1), 0, none⟩) HD2.out (by simp <;> omega) _) (by simp <;> omega) _) _
def comF (x y : Ent) (j : Nat) : Int × Int := (max (x.sp j).1 (y.sp j).1, min (x.sp j).2 (y.sp j).2)
def comB (late : Int) (x y : Ent) : Nat → Bool
  | 0 => decide (x.who = y.who) && decide (dayD x y ≤ late)
  | k + 1 => comB late x y k && decide ((comF x y k).1 ≤ (comF x y k).2)
def CmOut (w : World) (pl : Nat) (late : Int) (x y : Ent) (v : Value) : Prop := ∃ A c, v = .tuple #[.slice A pl c, .bool (comB late x y pl)] ∧ SpsAt w A pl (comF x y)
def spE : Elem (Int × Int) := { enc := fun x => [.int .i64 x.1, .int .i64 x.2], size := 2, ty := 43, sl := 46, z := .agg #[.int .i64 0, .int .i64 0], bytes := 16 }
theorem spEG : spE.Good :=
  ⟨by kernel_rfl, Tryz.underlying46, by decide, by decide, fun _ => rfl, fun x u hu => by
    rcases (by simpa [spE] using hu : u = .int .i64 x.1 ∨ u = .int .i64 x.2) with rfl | rfl <;> rfl, by decide⟩
def spL (f : Nat → Int × Int) (n : Nat) : List (Int × Int) := (List.range n).map f
theorem spL_len (f : Nat → Int × Int) (n : Nat) : (spL f n).length = n := by unfold spL; simp
theorem spL_get (f : Nat → Int × Int) {n j : Nat} (h : j < n) : (spL f n)[j]? = some (f j) := by unfold spL; simp [h]
theorem spL_snoc (f : Nat → Int × Int) (n : Nat) : spL f (n + 1) = spL f n ++ [f n] := by unfold spL; rw [List.range_succ, List.map_append]; rfl
theorem RowAt.sps {w : World} {A : Option Addr} {n : Nat} {f : Nat → Int × Int} (h : RowAt w A (spE.cells (spL f n))) : SpsAt w A n f := by
  rcases Nat.eq_zero_or_pos n with h0 | h0
  · exact .inl h0
  rcases h with h | ⟨b, o, rfl, hlt, hc⟩
  · have := congrArg List.length h
    rw [Elem.cells_len spEG, spL_len] at this
    simp [spE] at this
    omega
  · refine .inr ⟨b, o, rfl, hlt, fun i hi => ⟨?_, ?_⟩⟩
    · exact hc (i * 2) _ (Elem.cells_get spEG (l := spL f n) (j := i) 0 (spL_get f hi) (by decide))
    · exact hc (i * 2 + 1) _ (Elem.cells_get spEG (l := spL f n) (j := i) 1 (spL_get f hi) (by decide))
theorem cell_new2 {w : World} {u v : Value} {T : TypeId} : ∀ j x, [u, v][j]? = some x → (w.alloc (.cells #[u, v] T)).cell? ((⟨w.heap.size, 0, none⟩ : Addr).add j) = some x := by
  intro j x hj
  have h := TBox.new w #[u, v] T
  rw [show (⟨w.heap.size, 0, none⟩ : Addr).add j = ⟨w.heap.size, j, none⟩ from by unfold Addr.add; split <;> simp_all]
  exact (h.cell j).trans (by simpa using hj)
set_option maxHeartbeats 4000000 in
set_option maxRecDepth 100000 in
theorem common_any (pl : Nat) (late : Int) (x y : Ent) (w : World) (hp : pl ≤ 4) (hx : 0 ≤ x.day ∧ x.day ≤ 99) (hy : 0 ≤ y.day ∧ y.day ≤ 99) (hX : SpsAt w x.ca pl x.sp) (hY : SpsAt w y.ca pl y.sp) :
    Calls Tryz.prog 40 #[.int .i64 late, .agg #[.int .i64 x.day, .int .i64 x.who, .slice x.ca pl x.cc], .agg #[.int .i64 y.day, .int .i64 y.who, .slice y.ca pl y.cc]] w fun e w' => (∃ v, e = .returned v ∧ CmOut w' pl late x y v) ∧ Below w.heap.size w w' := by
  obtain ⟨i0, hi, iz0, iz1, iz2⟩ := info_parts infoSpan9
  obtain ⟨xca, hxa⟩ : ∃ a, x.ca = a := ⟨_, rfl⟩
  obtain ⟨yca, hya⟩ : ∃ a, y.ca = a := ⟨_, rfl⟩
  rw [hxa] at hX ⊢
  rw [hya] at hY ⊢
  clear hxa hya
  have HD0 := Lib.hid (Below.refl w.heap.size w)
  have HP := Lib.hid hp
  have HDX := Lib.hid hx
  have HDY := Lib.hid hy
  have HX0 := Lib.hid hX
  have HY0 := Lib.hid hY
  clear hp hx hy hX hY
  go_enter Tryz.func40, Tryz.ntmps40
  by_cases hwho : x.who = y.who
  case pos =>
    have hwb : (x.who == y.who) = true := by simp [hwho]
    obtain ⟨b0, hb0⟩ : ∃ b0, decide (dayD x y ≤ late) = b0 := ⟨_, rfl⟩
    have HB0 := Lib.hid (show comB late x y 0 = b0 by show (decide (x.who = y.who) && decide (dayD x y ≤ late)) = b0; rw [hb0]; simp [hwho])
    clear hwho
    go_wp2_with fail
    refine (show Calls Tryz.prog 37 #[.agg #[.int .i64 x.day, .int .i64 x.who, .slice xca pl x.cc], .agg #[.int .i64 y.day, .int .i64 y.who, .slice yca pl y.cc]] ((w.alloc (.cells #[.int .i64 x.day, .int .i64 x.who, .slice xca pl x.cc] 48)).alloc (.cells #[.int .i64 y.day, .int .i64 y.who, .slice yca pl y.cc] 48)) fun e w' => e = .returned (.int .i64 (dayD x y)) ∧ Below ((w.alloc (.cells #[.int .i64 x.day, .int .i64 x.who, .slice xca pl x.cc] 48)).alloc (.cells #[.int .i64 y.day, .int .i64 y.who, .slice yca pl y.cc] 48)).heap.size ((w.alloc (.cells #[.int .i64 x.day, .int .i64 x.who, .slice xca pl x.cc] 48)).alloc (.cells #[.int .i64 y.day, .int .i64 y.who, .slice yca pl y.cc] 48)) w' from daysF_any pl pl { x with ca := xca } { y with ca := yca } _ HDX.out HDY.out).mono ?_
    rintro e w1 ⟨rfl, hb⟩
    have hB1 : Below w.heap.size w w1 := bTrans (bAlloc (bAlloc (Below.refl _ _) (.cells #[.int .i64 x.day, .int .i64 x.who, .slice xca pl x.cc] 48)) (.cells #[.int .i64 y.day, .int .i64 y.who, .slice yca pl y.cc] 48)) hb
    have HD1 := Lib.hid (bTrans HD0.out hB1)
    have HX1 := Lib.hid (HX0.out.mono hB1)
    have HY1 := Lib.hid (HY0.out.mono hB1)
    have X1 := Lib.hid (show TBox w1 w.heap.size 48 #[.int .i64 x.day, .int .i64 x.who, .slice xca pl x.cc] from by have := ((TBox.new w #[.int .i64 x.day, .int .i64 x.who, .slice xca pl x.cc] 48).mono (bAlloc (Below.refl _ _) (.cells #[.int .i64 y.day, .int .i64 y.who, .slice yca pl y.cc] 48))).mono hb; simpa using this)
    have Y1 := Lib.hid (show TBox w1 (w.heap.size + 1) 48 #[.int .i64 y.day, .int .i64 y.who, .slice yca pl y.cc] from by have := ((TBox.new (w.alloc (.cells #[.int .i64 x.day, .int .i64 x.who, .slice xca pl x.cc] 48)) #[.int .i64 y.day, .int .i64 y.who, .slice yca pl y.cc] 48).mono (Below.refl _ _)).mono hb; simpa using this)
    clear hb hB1 HD0 HX0 HY0
    obtain ⟨X_0, X_1, X_2, X_l⟩ := X1.out.c3
    obtain ⟨Y_0, Y_1, Y_2, Y_l⟩ := Y1.out.c3
    go_wp2_with fail
    clear X_0 X_1 X_2 X_l Y_0 Y_1 Y_2 Y_l
    go_loopw [8, 9, 29] (fun s8 s9 s29 wr => ∃ (k : Nat) (V : Value), k ≤ pl ∧ s8 = .bool (comB late x y k) ∧ V = s9 ∧ s29 = .int .i64 (k : Int) ∧ OwnE spE wr w1.heap.size V (spL (comF x y) k) ∧ Below w1.heap.size w1 wr) (fun _ _ s29 _ => pl - (intOf s29).toNat)
    case atStart => exact ⟨0, .slice none 0 0, Nat.zero_le _, by rw [HB0.out], rfl, rfl, OwnE.nil _ _ _, Below.refl _ _⟩
    case round =>
      obtain ⟨k, V, hk, rfl, rfl, rfl, hown, hb⟩ := hrel
      have hcb := hb
      have hB2 : Below w1.heap.size w1 wr := bTrans (Below.refl _ _) hb
      have HD2 := Lib.hid (bTrans HD1.out hB2)
      have HX2 := Lib.hid (HX1.out.mono hB2)
      have HY2 := Lib.hid (HY1.out.mono hB2)
      have HBL2 := Lib.hid ((show Upto w1 wr from hcb))
      have X2 := Lib.hid (X1.out.mono hB2)
      have Y2 := Lib.hid (Y1.out.mono hB2)
      clear hb hB2
      obtain ⟨X_0, X_1, X_2, X_l⟩ := X2.out.c3
      obtain ⟨Y_0, Y_1, Y_2, Y_l⟩ := Y2.out.c3
      clear hcb
      have HO := Lib.hid hown
      clear hown
      have k0 : (0 : Int) ≤ (k : Int) := by omega
      have hp4 := HP.out
      by_cases hlt : k < pl
      case pos =>
        have k1 : (k : Int) < (pl : Int) := by omega
        rcases HX2.out with h0 | ⟨xb, xo, rfl, hxl, hxc⟩
        · omega
        rcases HY2.out with h0 | ⟨yb, yo, rfl, hyl, hyc⟩
        · omega
        obtain ⟨c0, c1⟩ := hxc k hlt
        obtain ⟨d0, d1⟩ := hyc k hlt
        have HSN := Lib.hid (spL_snoc (comF x y) k)
        have HST := Lib.hid (show comB late x y (k + 1) = (comB late x y k && decide ((comF x y k).1 ≤ (comF x y k).2)) from rfl)
        obtain ⟨lo, hlo⟩ : ∃ lo, (if (x.sp k).1 < (y.sp k).1 then (y.sp k).1 else (x.sp k).1) = lo := ⟨_, rfl⟩
        obtain ⟨hi2, hhi⟩ : ∃ hi2, (if (y.sp k).2 < (x.sp k).2 then (y.sp k).2 else (x.sp k).2) = hi2 := ⟨_, rfl⟩
        have hcf : comF x y k = (lo, hi2) := by
          unfold comF
          rw [← hlo, ← hhi, Int.max_def, Int.min_def]
          congr 1 <;> split <;> split <;> omega
        rw [hcf] at HSN HST
        clear hcf hxc hyc
        obtain ⟨bk, hbk⟩ : ∃ bk, comB late x y k = bk := ⟨_, rfl⟩
        rw [hbk] at HST ⊢
        clear hbk
        have HO2 := Lib.hid (show ((((wr.alloc (.cells #[.int .i64 (x.sp k).1, .int .i64 (x.sp k).2] 43)).alloc (.cells #[.int .i64 (y.sp k).1, .int .i64 (y.sp k).2] 43)).alloc (.cells #[.int .i64 lo, .int .i64 hi2] 43)).alloc (.cells #[.int .i64 lo, .int .i64 hi2] 43)).ownsRow w1.heap.size 43 2 V k (spE.cells (spL (comF x y) k)) from by
          have h := HO.out
          unfold OwnE at h
          rw [spL_len] at h
          exact (((h.alloc _).alloc _).alloc _).alloc _)
        have HKL := Lib.hid (show k < 4 by omega)
        have HLT := Lib.hid hlt
        have hsz := HBL2.out.size
        have HBA := Lib.hid (show Below w1.heap.size w1 ((((wr.alloc (.cells #[.int .i64 (x.sp k).1, .int .i64 (x.sp k).2] 43)).alloc (.cells #[.int .i64 (y.sp k).1, .int .i64 (y.sp k).2] 43)).alloc (.cells #[.int .i64 lo, .int .i64 hi2] 43)).alloc (.cells #[.int .i64 lo, .int .i64 hi2] 43)) from bTrans HBL2.out (bAlloc (bAlloc (bAlloc (bAlloc (Below.refl wr.heap.size wr) _) _) _) _))
        obtain ⟨d, hd⟩ : ∃ d, decide (lo ≤ hi2) = d := ⟨_, rfl⟩
        rw [hd] at HST
        have hwk : IntKind.i64.wrap ((k : Int) + 1) = ((k + 1 : Nat) : Int) := IntWalk.i64_in _ (by omega)
        clear hp4 HO
        cases bk
        case false =>
          go_wp2_with (at_builtin; refine wpList_append_own _ rfl (Operand.tmp 58) (Operand.tmp 60) 46 rfl w1.heap.size 43 i0 (.agg #[.int .i64 0, .int .i64 0]) 2 16 Tryz.underlying46 hi iz0 iz1 iz2 rfl (by decide) V k (spE.cells (spL (comF x y) k)) rfl HO2.out ⟨wr.heap.size + 1 + 1 + 1, 0, none⟩ 1 1 [.int .i64 lo, .int .i64 hi2] rfl rfl ?c1 ?c2 ?c3 ?c4 ?c5 ?_)
          case c1 =>
            have h := cell_new2 (w := ((wr.alloc (.cells #[.int .i64 (x.sp k).1, .int .i64 (x.sp k).2] 43)).alloc (.cells #[.int .i64 (y.sp k).1, .int .i64 (y.sp k).2] 43)).alloc (.cells #[.int .i64 lo, .int .i64 hi2] 43)) (u := .int .i64 lo) (v := .int .i64 hi2) (T := 43)
            simpa using h
          case c2 =>
            intro u hu
            simp only [List.mem_cons, List.not_mem_nil, or_false] at hu
            rcases hu with rfl | rfl <;> rfl
          case c3 => unfold maxLen; have := HKL.out; omega
          case c4 => have := HKL.out; omega
          case c5 => simp <;> omega
          intro v' w4 hown4 hg4 _
          have HO4 := Lib.hid (show OwnE spE w4 w1.heap.size v' (spL (comF x y) (k + 1)) from by
            unfold OwnE
            rw [spL_len, HSN.out]
            simpa [Elem.cells, spE] using hown4)
          have HB4 := Lib.hid (HBA.out.grown hg4 (by simp <;> omega) (fun q hq => (HO2.out.lt q hq).1))
          clear hown4 hg4
          go_wp2_with fail
          have hb9 : k < 100 := by have := HKL.out; omega
          go_roundw
          case rel => exact ⟨k + 1, v', HLT.out, by (rw [HST.out]; try simp [hd]), rfl, by go_num, HO4.out, HB4.out⟩
          case measure => have := HLT.out; simp [intOf]; omega
        case true =>
          go_wp2_with (at_builtin; refine wpList_append_own _ rfl (Operand.tmp 58) (Operand.tmp 60) 46 rfl w1.heap.size 43 i0 (.agg #[.int .i64 0, .int .i64 0]) 2 16 Tryz.underlying46 hi iz0 iz1 iz2 rfl (by decide) V k (spE.cells (spL (comF x y) k)) rfl HO2.out ⟨wr.heap.size + 1 + 1 + 1, 0, none⟩ 1 1 [.int .i64 lo, .int .i64 hi2] rfl rfl ?c1 ?c2 ?c3 ?c4 ?c5 ?_)
          case c1 =>
            have h := cell_new2 (w := ((wr.alloc (.cells #[.int .i64 (x.sp k).1, .int .i64 (x.sp k).2] 43)).alloc (.cells #[.int .i64 (y.sp k).1, .int .i64 (y.sp k).2] 43)).alloc (.cells #[.int .i64 lo, .int .i64 hi2] 43)) (u := .int .i64 lo) (v := .int .i64 hi2) (T := 43)
            simpa using h
          case c2 =>
            intro u hu
            simp only [List.mem_cons, List.not_mem_nil, or_false] at hu
            rcases hu with rfl | rfl <;> rfl
          case c3 => unfold maxLen; have := HKL.out; omega
          case c4 => have := HKL.out; omega
          case c5 => simp <;> omega
          intro v' w4 hown4 hg4 _
          have HO4 := Lib.hid (show OwnE spE w4 w1.heap.size v' (spL (comF x y) (k + 1)) from by
            unfold OwnE
            rw [spL_len, HSN.out]
            simpa [Elem.cells, spE] using hown4)
          have HB4 := Lib.hid (HBA.out.grown hg4 (by simp <;> omega) (fun q hq => (HO2.out.lt q hq).1))
          clear hown4 hg4
          go_wp2_with fail
          have hb9 : k < 100 := by have := HKL.out; omega
          go_roundw
          case rel => exact ⟨k + 1, v', HLT.out, by (rw [HST.out]; try simp [hd]), rfl, by go_num, HO4.out, HB4.out⟩
          case measure => have := HLT.out; simp [intOf]; omega
      obtain rfl : k = pl := by omega
      obtain ⟨A, c, e, hr⟩ := HO.out.read
      rw [spL_len] at e
      subst e
      have HRR := Lib.hid hr.sps
      clear hr
      go_wp2_with fail
      go_ret2
      exact ⟨⟨_, rfl, A, c, rfl, HRR.out⟩, bTrans HD1.out HBL2.out⟩
  case neg =>
    have hwb : (x.who == y.who) = false := by simp [hwho]
    have HB0 := Lib.hid (show comB late x y 0 = false by show (decide (x.who = y.who) && _) = false; simp [hwho])
    clear hwho
    obtain ⟨w1, hw1⟩ : ∃ w1, w1 = (((w.alloc (.cells #[.int .i64 x.day, .int .i64 x.who, .slice xca pl x.cc] 48)).alloc (.cells #[.int .i64 y.day, .int .i64 y.who, .slice yca pl y.cc] 48))) := ⟨_, rfl⟩
    have hb : Below ((w.alloc (.cells #[.int .i64 x.day, .int .i64 x.who, .slice xca pl x.cc] 48)).alloc (.cells #[.int .i64 y.day, .int .i64 y.who, .slice yca pl y.cc] 48)).heap.size ((w.alloc (.cells #[.int .i64 x.day, .int .i64 x.who, .slice xca pl x.cc] 48)).alloc (.cells #[.int .i64 y.day, .int .i64 y.who, .slice yca pl y.cc] 48)) w1 := by rw [hw1]; exact Below.refl _ _
    go_wp2_with fail
    rw [← hw1]
    clear hw1
    have hB1 : Below w.heap.size w w1 := bTrans (bAlloc (bAlloc (Below.refl _ _) (.cells #[.int .i64 x.day, .int .i64 x.who, .slice xca pl x.cc] 48)) (.cells #[.int .i64 y.day, .int .i64 y.who, .slice yca pl y.cc] 48)) hb
    have HD1 := Lib.hid (bTrans HD0.out hB1)
    have HX1 := Lib.hid (HX0.out.mono hB1)
    have HY1 := Lib.hid (HY0.out.mono hB1)
    have X1 := Lib.hid (show TBox w1 w.heap.size 48 #[.int .i64 x.day, .int .i64 x.who, .slice xca pl x.cc] from by have := ((TBox.new w #[.int .i64 x.day, .int .i64 x.who, .slice xca pl x.cc] 48).mono (bAlloc (Below.refl _ _) (.cells #[.int .i64 y.day, .int .i64 y.who, .slice yca pl y.cc] 48))).mono hb; simpa using this)
    have Y1 := Lib.hid (show TBox w1 (w.heap.size + 1) 48 #[.int .i64 y.day, .int .i64 y.who, .slice yca pl y.cc] from by have := ((TBox.new (w.alloc (.cells #[.int .i64 x.day, .int .i64 x.who, .slice xca pl x.cc] 48)) #[.int .i64 y.day, .int .i64 y.who, .slice yca pl y.cc] 48).mono (Below.refl _ _)).mono hb; simpa using this)
    clear hb hB1 HD0 HX0 HY0
    obtain ⟨X_0, X_1, X_2, X_l⟩ := X1.out.c3
    obtain ⟨Y_0, Y_1, Y_2, Y_l⟩ := Y1.out.c3
    go_wp2_with fail
    clear X_0 X_1 X_2 X_l Y_0 Y_1 Y_2 Y_l
    go_loopw [8, 9, 29] (fun s8 s9 s29 wr => ∃ (k : Nat) (V : Value), k ≤ pl ∧ s8 = .bool (comB late x y k) ∧ V = s9 ∧ s29 = .int .i64 (k : Int) ∧ OwnE spE wr w1.heap.size V (spL (comF x y) k) ∧ Below w1.heap.size w1 wr) (fun _ _ s29 _ => pl - (intOf s29).toNat)
    case atStart => exact ⟨0, .slice none 0 0, Nat.zero_le _, by rw [HB0.out], rfl, rfl, OwnE.nil _ _ _, Below.refl _ _⟩
    case round =>
      obtain ⟨k, V, hk, rfl, rfl, rfl, hown, hb⟩ := hrel
      have hcb := hb
      have hB2 : Below w1.heap.size w1 wr := bTrans (Below.refl _ _) hb
      have HD2 := Lib.hid (bTrans HD1.out hB2)
      have HX2 := Lib.hid (HX1.out.mono hB2)
      have HY2 := Lib.hid (HY1.out.mono hB2)
      have HBL2 := Lib.hid ((show Upto w1 wr from hcb))
      have X2 := Lib.hid (X1.out.mono hB2)
      have Y2 := Lib.hid (Y1.out.mono hB2)
      clear hb hB2
      obtain ⟨X_0, X_1, X_2, X_l⟩ := X2.out.c3
      obtain ⟨Y_0, Y_1, Y_2, Y_l⟩ := Y2.out.c3
      clear hcb
      have HO := Lib.hid hown
      clear hown
      have k0 : (0 : Int) ≤ (k : Int) := by omega
      have hp4 := HP.out
      by_cases hlt : k < pl
      case pos =>
        have k1 : (k : Int) < (pl : Int) := by omega
        rcases HX2.out with h0 | ⟨xb, xo, rfl, hxl, hxc⟩
        · omega
        rcases HY2.out with h0 | ⟨yb, yo, rfl, hyl, hyc⟩
        · omega
        obtain ⟨c0, c1⟩ := hxc k hlt
        obtain ⟨d0, d1⟩ := hyc k hlt
        have HSN := Lib.hid (spL_snoc (comF x y) k)
        have HST := Lib.hid (show comB late x y (k + 1) = (comB late x y k && decide ((comF x y k).1 ≤ (comF x y k).2)) from rfl)
        obtain ⟨lo, hlo⟩ : ∃ lo, (if (x.sp k).1 < (y.sp k).1 then (y.sp k).1 else (x.sp k).1) = lo := ⟨_, rfl⟩
        obtain ⟨hi2, hhi⟩ : ∃ hi2, (if (y.sp k).2 < (x.sp k).2 then (y.sp k).2 else (x.sp k).2) = hi2 := ⟨_, rfl⟩
        have hcf : comF x y k = (lo, hi2) := by
          unfold comF
          rw [← hlo, ← hhi, Int.max_def, Int.min_def]
          congr 1 <;> split <;> split <;> omega
        rw [hcf] at HSN HST
        clear hcf hxc hyc
        obtain ⟨bk, hbk⟩ : ∃ bk, comB late x y k = bk := ⟨_, rfl⟩
        rw [hbk] at HST ⊢
        clear hbk
        have HO2 := Lib.hid (show ((((wr.alloc (.cells #[.int .i64 (x.sp k).1, .int .i64 (x.sp k).2] 43)).alloc (.cells #[.int .i64 (y.sp k).1, .int .i64 (y.sp k).2] 43)).alloc (.cells #[.int .i64 lo, .int .i64 hi2] 43)).alloc (.cells #[.int .i64 lo, .int .i64 hi2] 43)).ownsRow w1.heap.size 43 2 V k (spE.cells (spL (comF x y) k)) from by
          have h := HO.out
          unfold OwnE at h
          rw [spL_len] at h
          exact (((h.alloc _).alloc _).alloc _).alloc _)
        have HKL := Lib.hid (show k < 4 by omega)
        have HLT := Lib.hid hlt
        have hsz := HBL2.out.size
        have HBA := Lib.hid (show Below w1.heap.size w1 ((((wr.alloc (.cells #[.int .i64 (x.sp k).1, .int .i64 (x.sp k).2] 43)).alloc (.cells #[.int .i64 (y.sp k).1, .int .i64 (y.sp k).2] 43)).alloc (.cells #[.int .i64 lo, .int .i64 hi2] 43)).alloc (.cells #[.int .i64 lo, .int .i64 hi2] 43)) from bTrans HBL2.out (bAlloc (bAlloc (bAlloc (bAlloc (Below.refl wr.heap.size wr) _) _) _) _))
        obtain ⟨d, hd⟩ : ∃ d, decide (lo ≤ hi2) = d := ⟨_, rfl⟩
        rw [hd] at HST
        have hwk : IntKind.i64.wrap ((k : Int) + 1) = ((k + 1 : Nat) : Int) := IntWalk.i64_in _ (by omega)
        clear hp4 HO
        cases bk
        case false =>
          go_wp2_with (at_builtin; refine wpList_append_own _ rfl (Operand.tmp 58) (Operand.tmp 60) 46 rfl w1.heap.size 43 i0 (.agg #[.int .i64 0, .int .i64 0]) 2 16 Tryz.underlying46 hi iz0 iz1 iz2 rfl (by decide) V k (spE.cells (spL (comF x y) k)) rfl HO2.out ⟨wr.heap.size + 1 + 1 + 1, 0, none⟩ 1 1 [.int .i64 lo, .int .i64 hi2] rfl rfl ?c1 ?c2 ?c3 ?c4 ?c5 ?_)
          case c1 =>
            have h := cell_new2 (w := ((wr.alloc (.cells #[.int .i64 (x.sp k).1, .int .i64 (x.sp k).2] 43)).alloc (.cells #[.int .i64 (y.sp k).1, .int .i64 (y.sp k).2] 43)).alloc (.cells #[.int .i64 lo, .int .i64 hi2] 43)) (u := .int .i64 lo) (v := .int .i64 hi2) (T := 43)
            simpa using h
          case c2 =>
            intro u hu
            simp only [List.mem_cons, List.not_mem_nil, or_false] at hu
            rcases hu with rfl | rfl <;> rfl
          case c3 => unfold maxLen; have := HKL.out; omega
          case c4 => have := HKL.out; omega
          case c5 => simp <;> omega
          intro v' w4 hown4 hg4 _
          have HO4 := Lib.hid (show OwnE spE w4 w1.heap.size v' (spL (comF x y) (k + 1)) from by
            unfold OwnE
            rw [spL_len, HSN.out]
            simpa [Elem.cells, spE] using hown4)
          have HB4 := Lib.hid (HBA.out.grown hg4 (by simp <;> omega) (fun q hq => (HO2.out.lt q hq).1))
          clear hown4 hg4
          go_wp2_with fail
          have hb9 : k < 100 := by have := HKL.out; omega
          go_roundw
          case rel => exact ⟨k + 1, v', HLT.out, by (rw [HST.out]; try simp [hd]), rfl, by go_num, HO4.out, HB4.out⟩
          case measure => have := HLT.out; simp [intOf]; omega
        case true =>
          go_wp2_with (at_builtin; refine wpList_append_own _ rfl (Operand.tmp 58) (Operand.tmp 60) 46 rfl w1.heap.size 43 i0 (.agg #[.int .i64 0, .int .i64 0]) 2 16 Tryz.underlying46 hi iz0 iz1 iz2 rfl (by decide) V k (spE.cells (spL (comF x y) k)) rfl HO2.out ⟨wr.heap.size + 1 + 1 + 1, 0, none⟩ 1 1 [.int .i64 lo, .int .i64 hi2] rfl rfl ?c1 ?c2 ?c3 ?c4 ?c5 ?_)
          case c1 =>
            have h := cell_new2 (w := ((wr.alloc (.cells #[.int .i64 (x.sp k).1, .int .i64 (x.sp k).2] 43)).alloc (.cells #[.int .i64 (y.sp k).1, .int .i64 (y.sp k).2] 43)).alloc (.cells #[.int .i64 lo, .int .i64 hi2] 43)) (u := .int .i64 lo) (v := .int .i64 hi2) (T := 43)
            simpa using h
          case c2 =>
            intro u hu
            simp only [List.mem_cons, List.not_mem_nil, or_false] at hu
            rcases hu with rfl | rfl <;> rfl
          case c3 => unfold maxLen; have := HKL.out; omega
          case c4 => have := HKL.out; omega
          case c5 => simp <;> omega
          intro v' w4 hown4 hg4 _
          have HO4 := Lib.hid (show OwnE spE w4 w1.heap.size v' (spL (comF x y) (k + 1)) from by
            unfold OwnE
            rw [spL_len, HSN.out]
            simpa [Elem.cells, spE] using hown4)
          have HB4 := Lib.hid (HBA.out.grown hg4 (by simp <;> omega) (fun q hq => (HO2.out.lt q hq).1))
          clear hown4 hg4
          go_wp2_with fail
          have hb9 : k < 100 := by have := HKL.out; omega
          go_roundw
          case rel => exact ⟨k + 1, v', HLT.out, by (rw [HST.out]; try simp [hd]), rfl, by go_num, HO4.out, HB4.out⟩
          case measure => have := HLT.out; simp [intOf]; omega
      obtain rfl : k = pl := by omega
      obtain ⟨A, c, e, hr⟩ := HO.out.read
      rw [spL_len] at e
      subst e
      have HRR := Lib.hid hr.sps
      clear hr
      go_wp2_with fail
      go_ret2
      exact ⟨⟨_, rfl, A, c, rfl, HRR.out⟩, bTrans HD1.out HBL2.out⟩
end Go.Proofs.YtifkjnmnflhnoaaGreatDoor

