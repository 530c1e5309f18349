/- Parts joined. -/
import Derived.Test.YtchhodikgllgnaaDoorNQO
import Derived.Test.YtchhodikgllgnaaDoorNQM
import Derived.Test.YtchhodikgllgnaaDoorNQG
import Derived.Test.YtchhodikgllgnaaDoorNQF
import Derived.Test.YtchhodikgllgnaaDoorNQI
import Derived.Test.YtchhodikgllgnaaDoorNQJ
import Derived.Test.YtchhodikgllgnaaDoorNQD
import Derived.Test.YtchhodikgllgnaaDoorNQL
import Derived.Test.YtchhodikgllgnaaDoorNQK
set_option linter.unusedSimpArgs false
set_option linter.unusedVariables false
/- The walk of works of the law 05. Condition: the listed table holds what it holds. -/
namespace Go.Proofs.YtchhodikgllgnaaDoor
open Go.RowKit Go.Sort
theorem intL_get_none (g : Nat → Int) {n i : Nat} (h : n ≤ i) : (intL g n)[i]? = none := List.getElem?_eq_none (by rw [intL_len]; exact h)
theorem numL_intL (l : List Int) : numL l = intL (intL0 l) l.length := by
  refine List.ext_getElem? fun i => ?_
  rcases Nat.lt_or_ge i l.length with h | h
  · rw [intL_get _ h]
    unfold numL intL0
    rw [List.getElem?_map, List.getElem?_eq_getElem h]
    rfl
  · rw [intL_get_none _ h]
    unfold numL
    rw [List.getElem?_map, List.getElem?_eq_none h]
    rfl
/-- a slice that reads as a list of numbers -/
def LstI (w : World) (v : Value) (l : List Int) : Prop := ∃ A c, v = .slice A l.length c ∧ IntsAt w A l.length (intL0 l)
theorem OwnL.lst {w : World} {base : Nat} {v : Value} {l : List Int} (h : OwnL w base v l) : LstI w v l := by
  obtain ⟨A, c, e, hr⟩ := h.nums
  exact ⟨A, c, e, intsAt_row.2 (by rw [← numL_intL]; exact hr)⟩
theorem LstI.mono {w w' : World} {v : Value} {l : List Int} (h : LstI w v l) (hb : Below w.heap.size w w') : LstI w' v l := by
  obtain ⟨A, c, e, hr⟩ := h
  exact ⟨A, c, e, hr.mono hb⟩
theorem LstI.nil {w : World} : LstI w (.slice none 0 0) [] := ⟨none, 0, rfl, .inl rfl⟩
/-- SameInts of two slices that read as the same list -/
theorem sameInts_same (A B : Option Addr) (n c c' : Nat) (f : Nat → Int) (w : World) (hn : n ≤ 9223372036854775807) (hf : IntsAt w A n f) (hg : IntsAt w B n f) :
    Calls Tryd.prog 54 #[.slice A n c, .slice B n c'] w fun e w' => e = .returned (.bool true) ∧ Below w.heap.size w w' := by
  have := sameInts_any A B n n c c' f f w hn hn hf hg
  rw [show (decide (n = n) && !anyB (fun i => f i != f i) n) = true by rw [anyB_false.2 fun i _ => by simp]; simp] at this
  exact this
theorem exE_small : exE.Small := exE_fits.small
theorem exG_small : exG.Small := exG_fits.small
set_option maxHeartbeats 8000000 in
set_option maxRecDepth 100000 in
theorem works5_any (w : World) (hB : TabAt w) : Calls Tryd.prog 18 #[] w fun e w' => e = .returned (.bool true) ∧ Below w.heap.size w w' := by
  have HTB := Lib.hid hB
  clear hB
  go_enter Tryd.func18, Tryd.ntmps18
  go_wp2_with fail
  refine (example5_any _).mono ?_
  rintro e w1 ⟨⟨Aw, cw, Af, cf, Bw, dw, rfl, hE, hG⟩, hb1⟩
  have HE := Lib.hid ((hE.mono (bAlloc (Below.refl _ _) (.cells #[.int .i64 2, .slice Aw 3 cw, .slice Af 1 cf] 25))).mono (bAlloc (Below.refl _ _) (.cells #[.int .i64 2, .slice Bw 3 dw, .slice none 0 0] 25)))
  have HG := Lib.hid ((hG.mono (bAlloc (Below.refl _ _) (.cells #[.int .i64 2, .slice Aw 3 cw, .slice Af 1 cf] 25))).mono (bAlloc (Below.refl _ _) (.cells #[.int .i64 2, .slice Bw 3 dw, .slice none 0 0] 25)))
  have HBW := Lib.hid (bAlloc (bAlloc hb1 (.cells #[.int .i64 2, .slice Aw 3 cw, .slice Af 1 cf] 25)) (.cells #[.int .i64 2, .slice Bw 3 dw, .slice none 0 0] 25))
  have HT1 := Lib.hid (HTB.out.mono HBW.out)
  clear hE hG hb1
  go_wp2_with fail
  have HD1 := Lib.hid (Below.refl ((w1.alloc (.cells #[.int .i64 2, .slice Aw 3 cw, .slice Af 1 cf] 25)).alloc (.cells #[.int .i64 2, .slice Bw 3 dw, .slice none 0 0] 25)).heap.size ((w1.alloc (.cells #[.int .i64 2, .slice Aw 3 cw, .slice Af 1 cf] 25)).alloc (.cells #[.int .i64 2, .slice Bw 3 dw, .slice none 0 0] 25)))
  refine (leftQ_any Aw Af cw cf exE _ exE_small HE.out HT1.out).mono ?_
  rintro e w2 ⟨⟨v, he, hv, _⟩, hb2⟩
  rw [Qt.err_ok exE_ok] at he
  subst he
  have hv2 := (hv exE_ok).lst
  rw [exE_left] at hv2
  obtain ⟨A2, c2, rfl, hi2⟩ := hv2
  have HI2 := Lib.hid (show IntsAt w2 A2 2 (intL0 [0, 2]) from hi2)
  clear hv hi2
  have HD2 := Lib.hid (bTrans HD1.out hb2)
  obtain ⟨bc2, bf2⟩ := bcell HD2.out
  have hz2 := HD2.out.size
  simp only [World.size_alloc] at hz2
  have hy2 : w1.heap.size < w2.heap.size := by omega
  have hv2 : w1.heap.size + 1 < w2.heap.size := by omega
  clear hb2
  go_wp2_with fail
  have hb3 := bAlloc (Below.refl w2.heap.size w2) (.cells #[.int .i64 2, .int .i64 3] 3)
  have hi3 : IntsAt (w2.alloc (.cells #[.int .i64 2, .int .i64 3] 3)) (some ⟨w2.heap.size, 0, none⟩) 2 exD := ints2 (by simp) (by simp [go_sem, exD]) (by simp [go_sem, exD])
  have HT3 := Lib.hid (totalQ_any Aw Af (some ⟨w2.heap.size, 0, none⟩) cw cf 2 2 exE exD 0 _ (by decide) hi3 exE_small (HE.out.mono (bTrans HD2.out hb3)) (HT1.out.mono (bTrans HD2.out hb3)))
  have e3 : exE.knowErr (exE.drawsB 2 exD && exE.wellB 0) = 0 := by rw [ex_draws, ex_well 0 (by decide) (by decide)]; exact exE_know
  have e4 : exE.totalV 2 exD 0 = (6, 12) := by unfold Qt.totalV; rw [e3, if_pos rfl]; exact ex_total
  rw [e3, e4] at HT3
  clear e3 e4 hi3 hb3
  refine HT3.out.mono ?_
  rintro e w3 ⟨rfl, hb3⟩
  have hb3' := bTrans (bAlloc (Below.refl w2.heap.size w2) (.cells #[.int .i64 2, .int .i64 3] 3)) hb3
  have HI3 := Lib.hid (HI2.out.mono hb3')
  clear hb3 HT3 bc2 bf2 hz2 hy2 hv2
  have HD3 := Lib.hid (bTrans HD2.out hb3')
  obtain ⟨bc3, bf3⟩ := bcell HD3.out
  have hz3 := HD3.out.size
  simp only [World.size_alloc] at hz3
  have hy3 : w1.heap.size < w3.heap.size := by omega
  have hv3 : w1.heap.size + 1 < w3.heap.size := by omega
  clear hb3'
  go_wp2_with fail
  have HS3 := Lib.hid (TBox.new w3 #[.int .i64 6, .int .i64 12] 47)
  have hb3 := bAlloc (Below.refl w3.heap.size w3) (.cells #[.int .i64 6, .int .i64 12] 47)
  have HT4 := Lib.hid (harmsQ_any Aw Af cw cf exE 0 1 0 _ exE_small (HE.out.mono (bTrans HD3.out hb3)) (HT1.out.mono (bTrans HD3.out hb3)))
  have e3 : exE.knowErr (exE.wellB 0 && exE.wellB 1 && inR 0 0 99) = 0 := by rw [ex_well 0 (by decide) (by decide), ex_well 1 (by decide) (by decide)]; exact exE_know
  have e4 : harmK (exE.between (0 : Int).toNat (1 : Int).toNat) 0 = 1 := ex_harms
  rw [e3, e4, if_pos rfl] at HT4
  clear e3 e4 hb3
  refine HT4.out.mono ?_
  rintro e w4 ⟨rfl, hb4⟩
  have HS4 := Lib.hid (HS3.out.mono hb4)
  have hb4' := bTrans (bAlloc (Below.refl w3.heap.size w3) (.cells #[.int .i64 6, .int .i64 12] 47)) hb4
  have HI4 := Lib.hid (HI3.out.mono hb4')
  clear hb4 HT4 bc3 bf3 hz3 hy3 hv3
  have HD4 := Lib.hid (bTrans HD3.out hb4')
  obtain ⟨bc4, bf4⟩ := bcell HD4.out
  have hz4 := HD4.out.size
  simp only [World.size_alloc] at hz4
  have hy4 : w1.heap.size < w4.heap.size := by omega
  have hv4 : w1.heap.size + 1 < w4.heap.size := by omega
  clear hb4'
  go_wp2_with fail
  have HT5 := Lib.hid (splitQ_any Bw none dw 0 exG 0 1 _ exG_small (HG.out.mono HD4.out) (HT1.out.mono HD4.out))
  have e3 : exG.knowErr (exG.wellB 0 && exG.wellB 1) = 0 := by rw [ex_wellG 0 (by decide) (by decide), ex_wellG 1 (by decide) (by decide)]; exact exG_know
  have e4 : exG.splitV 0 1 = 2 := by unfold Qt.splitV; rw [e3, if_pos rfl]; exact ex_split
  rw [e3, e4] at HT5
  clear e3 e4
  refine HT5.out.mono ?_
  rintro e w5 ⟨rfl, hb5⟩
  have HS5 := Lib.hid (HS4.out.mono hb5)
  have HI5 := Lib.hid (HI4.out.mono hb5)
  clear HT5 bc4 bf4 hz4 hy4 hv4
  have HD5 := Lib.hid (bTrans HD4.out hb5)
  obtain ⟨bc5, bf5⟩ := bcell HD5.out
  have hz5 := HD5.out.size
  simp only [World.size_alloc] at hz5
  have hy5 : w1.heap.size < w5.heap.size := by omega
  have hv5 : w1.heap.size + 1 < w5.heap.size := by omega
  clear hb5
  go_wp2_with fail
  have HT6 := Lib.hid (depthQ_any Bw none dw 0 exG _ exG_small (HG.out.mono HD5.out) (HT1.out.mono HD5.out))
  have e4 : exG.depthOut = 1 := by unfold Qt.depthOut; rw [exG_know, if_pos rfl]; exact ex_depth
  rw [exG_know, e4] at HT6
  clear e4
  refine HT6.out.mono ?_
  rintro e w6 ⟨rfl, hb6⟩
  have HS6 := Lib.hid (HS5.out.mono hb6)
  have HI6 := Lib.hid (HI5.out.mono hb6)
  clear HT6 bc5 bf5 hz5 hy5 hv5
  have HD6 := Lib.hid (bTrans HD5.out hb6)
  obtain ⟨bc6, bf6⟩ := bcell HD6.out
  have hz6 := HD6.out.size
  simp only [World.size_alloc] at hz6
  have hy6 : w1.heap.size < w6.heap.size := by omega
  have hv6 : w1.heap.size + 1 < w6.heap.size := by omega
  clear hb6
  go_wp2_with fail
  have HT7 := Lib.hid (fewestQ_any Bw none dw 0 exG _ exG_small (HG.out.mono HD6.out) (HT1.out.mono HD6.out))
  rw [exG_know, ex_fewest] at HT7
  refine HT7.out.mono ?_
  rintro e w7 ⟨⟨ho, _⟩, hb7⟩
  obtain ⟨A7, c7, rfl, hl7⟩ := ho rfl
  have HL7 := Lib.hid hl7.row
  have HS7 := Lib.hid (HS6.out.mono hb7)
  have HI7 := Lib.hid (HI6.out.mono hb7)
  clear HT7 bc6 bf6 hz6 hy6 hv6 ho hl7
  have HD7 := Lib.hid (bTrans HD6.out hb7)
  obtain ⟨bc7, bf7⟩ := bcell HD7.out
  have hz7 := HD7.out.size
  simp only [World.size_alloc] at hz7
  have hy7 : w1.heap.size < w7.heap.size := by omega
  have hv7 : w1.heap.size + 1 < w7.heap.size := by omega
  clear hb7
  have s0 : w7.cell? ⟨w3.heap.size, 0, none⟩ = some (.int .i64 6) := HS7.out.cell 0
  have s1 : w7.cell? ⟨w3.heap.size, 1, none⟩ = some (.int .i64 12) := HS7.out.cell 1
  have sl : w3.heap.size < w7.heap.size := HS7.out.lt
  go_wp2_with fail
  have hb8 := bAlloc (Below.refl w7.heap.size w7) (.cells #[.int .i64 0, .int .i64 2] 3)
  have hi8 : IntsAt (w7.alloc (.cells #[.int .i64 0, .int .i64 2] 3)) (some ⟨w7.heap.size, 0, none⟩) 2 (intL0 [0, 2]) := ints2 (by simp) (by simp [go_sem, intL0]) (by simp [go_sem, intL0])
  have HT8 := Lib.hid (sameInts_same A2 (some ⟨w7.heap.size, 0, none⟩) 2 c2 2 _ _ (by decide) (HI7.out.mono hb8) hi8)
  refine HT8.out.mono ?_
  rintro e w8 ⟨rfl, hb9⟩
  have hb9' := bTrans hb8 hb9
  have HS8 := Lib.hid (HS7.out.mono hb9')
  have HL8 := Lib.hid (HL7.out.mono hb9')
  clear hb8 hi8 HT8 hb9 bc7 bf7 hz7 hy7 hv7 s0 s1 sl
  have HD8 := Lib.hid (bTrans HD7.out hb9')
  obtain ⟨bc8, bf8⟩ := bcell HD8.out
  have hz8 := HD8.out.size
  simp only [World.size_alloc] at hz8
  have hy8 : w1.heap.size < w8.heap.size := by omega
  have hv8 : w1.heap.size + 1 < w8.heap.size := by omega
  clear hb9'
  have s0 : w8.cell? ⟨w3.heap.size, 0, none⟩ = some (.int .i64 6) := HS8.out.cell 0
  have s1 : w8.cell? ⟨w3.heap.size, 1, none⟩ = some (.int .i64 12) := HS8.out.cell 1
  have sl : w3.heap.size < w8.heap.size := HS8.out.lt
  go_wp2_with fail
  have hb9 := bAlloc (Below.refl w8.heap.size w8) (.cells #[.int .i64 1, .int .i64 0] 27)
  have hr9 : RowAt (w8.alloc (.cells #[.int .i64 1, .int .i64 0] 27)) (some ⟨w8.heap.size, 0, none⟩) (tstE.cells [(1, 0)]) := .inr ⟨_, 0, rfl, by simp, fun j v hj => by
    match j, hj with
    | 0, hj => have : Value.int .i64 1 = v := by simpa [tstE, Elem.cells] using hj
               subst this; simp [go_sem]
    | 1, hj => have : Value.int .i64 0 = v := by simpa [tstE, Elem.cells] using hj
               subst this; simp [go_sem]
    | n + 2, hj => simp [tstE, Elem.cells] at hj⟩
  have HT9 := Lib.hid (sameTests_any A7 (some ⟨w8.heap.size, 0, none⟩) c7 1 [(1, 0)] [(1, 0)] _ (by decide) (by decide) (HL8.out.mono hb9) hr9)
  refine HT9.out.mono ?_
  rintro e w9 ⟨rfl, hb10⟩
  have HB10 := Lib.hid (bTrans hb9 hb10)
  clear hb9 hr9 HT9 hb10 bc8 bf8 hz8 hy8 hv8 s0 s1 sl
  go_wp2_with fail
  go_ret
  exact ⟨by simp, bTrans HBW.out (bTrans HD8.out HB10.out)⟩
end Go.Proofs.YtchhodikgllgnaaDoor
/- The walk of Out of the package quarrels. Conditions: lengths are Go's. -/
namespace Go.Proofs.YtchhodikgllgnaaDoor
open Go.RowKit Go.Sort
end Go.Proofs.YtchhodikgllgnaaDoor
/- The statement QuarrelsLeft: the walk. Conditions: what is read fits into memory; the listed table holds what it holds. -/
namespace Go.Proofs.YtchhodikgllgnaaDoor
open Go.RowKit Go.Sort
theorem OwnL.le {w : World} {base : Nat} {v : Value} {l : List Int} (h : OwnL w base v l) : l.length ≤ 9223372036854775807 := by
  rcases h.2 with ⟨_, h⟩ | ⟨_, cap, _, _, _, _, h1, h2, _⟩
  · rw [h]; omega
  · unfold maxLen at h2; omega
open Classical in
/-- the list that Left hands back -/
noncomputable def Qt.leftO (t : Qt) : List Int := if t.Ok then t.leftL else []
open Classical in
/-- the list that Out hands back -/
noncomputable def Qt.outO (t : Qt) (n : Int) : List Int := if t.outErr n = 0 then t.outL n.toNat else []
/-- a slice that reads as a list of numbers, of a length of Go's -/
def LstM (w : World) (v : Value) (l : List Int) : Prop := LstI w v l ∧ l.length ≤ 9223372036854775807
theorem LstM.mono {w w' : World} {v : Value} {l : List Int} (h : LstM w v l) (hb : Below w.heap.size w w') : LstM w' v l := ⟨h.1.mono hb, h.2⟩
theorem OwnL.lstM {w : World} {base : Nat} {v : Value} {l : List Int} (h : OwnL w base v l) : LstM w v l := ⟨h.lst, h.le⟩
theorem LstM.nil {w : World} : LstM w (.slice none 0 0) [] := ⟨LstI.nil, Nat.zero_le _⟩
theorem Left5Out.lst {w : World} {base : Nat} {t : Qt} {e : Ending} (h : Left5Out w base t e) : ∃ v, e = .returned (.tuple #[v, .int .i64 t.err]) ∧ LstM w v t.leftO := by
  obtain ⟨v, he, h1, h2⟩ := h
  refine ⟨v, he, ?_⟩
  unfold Qt.leftO
  by_cases ok : t.Ok
  · rw [if_pos ok]; exact (h1 ok).lstM
  · rw [if_neg ok, h2 ok]; exact LstM.nil
theorem Out5Out.lst {w : World} {base : Nat} {t : Qt} {n : Int} {e : Ending} (h : Out5Out w base t n e) : ∃ v, e = .returned (.tuple #[v, .int .i64 (t.outErr n)]) ∧ LstM w v (t.outO n) := by
  obtain ⟨v, he, h1, h2⟩ := h
  refine ⟨v, he, ?_⟩
  unfold Qt.outO
  by_cases ok : t.outErr n = 0
  · rw [if_pos ok]; exact (h1 ok).lstM
  · rw [if_neg ok, h2 ok]; exact LstM.nil
end Go.Proofs.YtchhodikgllgnaaDoor
/- Boxes of the call's own, read cell by cell. No program in sight. -/
namespace Go.Proofs.YtchhodikgllgnaaDoor
open Go.RowKit Go.Sort
section
variable {w : World} {b : Nat} {t : TypeId}
theorem TBox.c1 {x : Value} (h : TBox w b t #[x]) : w.cell? ⟨b, 0, none⟩ = some x ∧ b < w.heap.size := ⟨h.cell 0, h.lt⟩
theorem TBox.c2 {x y : Value} (h : TBox w b t #[x, y]) : w.cell? ⟨b, 0, none⟩ = some x ∧ w.cell? ⟨b, 1, none⟩ = some y ∧ b < w.heap.size := ⟨h.cell 0, h.cell 1, h.lt⟩
theorem TBox.c3 {x y z : Value} (h : TBox w b t #[x, y, z]) : w.cell? ⟨b, 0, none⟩ = some x ∧ w.cell? ⟨b, 1, none⟩ = some y ∧ w.cell? ⟨b, 2, none⟩ = some z ∧ b < w.heap.size := ⟨h.cell 0, h.cell 1, h.cell 2, h.lt⟩
theorem TBox.c4 {x y z u : Value} (h : TBox w b t #[x, y, z, u]) : w.cell? ⟨b, 0, none⟩ = some x ∧ w.cell? ⟨b, 1, none⟩ = some y ∧ w.cell? ⟨b, 2, none⟩ = some z ∧ w.cell? ⟨b, 3, none⟩ = some u ∧ b < w.heap.size := ⟨h.cell 0, h.cell 1, h.cell 2, h.cell 3, h.lt⟩
end
theorem wpList_skip {P : Program} {ops : Array Oper} {Q : Exit → Act → World → Prop} {rest : List Oper} {o : Oper} {a : Act} {w w'' : World} (hg : o.guard = none) (hd : o.dst = none) (hrun : (execOp a.eval o).run P w = .ok .skip w'') (h : wpList P ops Q rest a w'') : wpList P ops Q (o :: rest) a w := by
  simp only [wpList]
  have hw : Region.wanted o (yielded ops a.tmps) = true := by unfold Region.wanted; rw [hg]
  rw [if_pos hw]
  refine .inl ?_
  unfold Oper.wp
  rw [hrun]
  simp only [Oper.upon]
  rw [hd]
  exact h
def Upto (w0 w : World) : Prop := Below w0.heap.size w0 w
theorem Upto.mono {w0 w w' : World} (h : Upto w0 w) (hb : Below w.heap.size w w') : Upto w0 w' := bTrans h hb
end Go.Proofs.YtchhodikgllgnaaDoor
/- Walks of the law 05: Far, ready, isKnown, inside; of the reference 01: In. Conditions: lengths are Go's. -/
namespace Go.Proofs.YtchhodikgllgnaaDoor
open Go.RowKit Go.Sort
theorem Qt.err_zero {t : Qt} : t.err = 0 ↔ t.Ok := by
  constructor
  · intro h
    by_cases ok : t.Ok
    · exact ok
    · rw [Qt.err_bad ok] at h
      cases h
  · exact Qt.err_ok
/-- far too much, or a valid town with more than the statement examines -/
noncomputable def Qt.farB (t : Qt) : Bool := t.huge || (decide (t.err = 0) && (decide (3 < t.wells) || decide (5 < t.leftL.length)))
noncomputable def Qt.readyB (t : Qt) : Bool := !t.farB && decide (t.err = 0)
theorem readyB_ok {t : Qt} (h : t.readyB = true) : t.Ok ∧ t.huge = false ∧ t.wells ≤ 3 ∧ t.leftL.length ≤ 5 := by
  unfold Qt.readyB Qt.farB at h
  simp only [Bool.and_eq_true, Bool.not_eq_true', Bool.or_eq_false_iff, Bool.and_eq_false_iff, decide_eq_true_eq, decide_eq_false_iff_not] at h
  obtain ⟨⟨h1, h2⟩, h3⟩ := h
  rcases h2 with h2 | h2
  · exact absurd h3 h2
  · exact ⟨Qt.err_zero.1 h3, h1, by omega, by omega⟩
set_option maxHeartbeats 4000000 in
set_option maxRecDepth 100000 in
theorem far_any (Aw Af : Option Addr) (cw cf : Nat) (t : Qt) (w : World) (hs : t.Small) (hT : QAt w Aw Af t) :
    Calls Tryd.prog 17 #[.agg #[.int .i64 t.wells, .slice Aw t.nw cw, .slice Af t.nf cf]] w fun e w' => e = .returned (.bool t.farB) ∧ Below w.heap.size w w' := by
  have hb0 := bAlloc (Below.refl w.heap.size w) (.cells #[.int .i64 t.wells, .slice Aw t.nw cw, .slice Af t.nf cf] 25)
  have HT := Lib.hid (hT.mono hb0)
  have HB := Lib.hid hb0
  have HS := Lib.hid hs
  obtain ⟨bf, hbf⟩ : ∃ b, t.farB = b := ⟨_, rfl⟩
  have HF := Lib.hid hbf
  rw [hbf]
  clear hT hb0 hs hbf
  go_enter Tryd.func17, Tryd.ntmps17
  go_wp2_with fail
  refine (huge_any _ _ _ _ t _ HS.out HT.out).mono ?_
  rintro e w1 ⟨rfl, hb1⟩
  have HB1 := Lib.hid hb1
  obtain ⟨bc1, bf1⟩ := bcell hb1
  have hz1 := hb1.size
  simp only [World.size_alloc] at hz1
  have hy1 : w.heap.size < w1.heap.size := by omega
  clear hb1
  obtain ⟨bh, hbh⟩ : ∃ b, t.huge = b := ⟨_, rfl⟩
  have HH := Lib.hid hbh
  rw [hbh]
  clear hbh
  cases bh
  case true =>
    go_wp2_with fail
    go_ret
    exact ⟨ret_bool (by rw [← HF.out]; unfold Qt.farB; rw [HH.out]; rfl), bTrans HB.out HB1.out⟩
  go_wp2_with fail
  refine (refCheck5 _ _ _ _ t _ HS.out.1 HS.out.2.1 (HT.out.mono HB1.out)).mono ?_
  rintro e w2 ⟨rfl, hb2⟩
  have HB2 := Lib.hid (bTrans HB1.out hb2)
  obtain ⟨bc2, bf2⟩ := bcell HB2.out
  have hz2 := HB2.out.size
  simp only [World.size_alloc] at hz2
  have hy2 : w.heap.size < w2.heap.size := by omega
  clear hb2 bc1 bf1 hz1 hy1
  by_cases hok : t.Ok
  case neg =>
    have HE := Lib.hid (Qt.err_bad hok)
    rw [HE.out]
    clear hok
    go_wp2_with fail
    go_ret
    exact ⟨ret_bool (by rw [← HF.out]; unfold Qt.farB; rw [HH.out, HE.out]; rfl), bTrans HB.out HB2.out⟩
  have HOK := Lib.hid hok
  have HE := Lib.hid (Qt.err_ok hok)
  rw [HE.out]
  clear hok
  by_cases h3 : t.wells > 3
  case pos =>
    have H3 := Lib.hid h3
    go_wp2_with fail
    go_ret
    exact ⟨ret_bool (by rw [← HF.out]; unfold Qt.farB; rw [HH.out, HE.out]; have := H3.out; simp; omega), bTrans HB.out HB2.out⟩
  have H3 := Lib.hid h3
  go_wp2_with fail
  refine (refLeftOf _ _ _ _ t _ HOK.out (HT.out.mono HB2.out)).mono ?_
  rintro e w3 ⟨⟨v, rfl, hv⟩, hb3⟩
  obtain ⟨A, c, rfl, _⟩ := hv.nums
  have HB3 := Lib.hid (bTrans HB2.out hb3)
  obtain ⟨n, hn⟩ : ∃ n, t.leftL.length = n := ⟨_, rfl⟩
  have HN := Lib.hid hn
  rw [hn]
  clear hv hb3 hn bc2 bf2 hz2 hy2
  by_cases h5 : (n : Int) > 5
  · have H5 := Lib.hid h5
    go_wp2_with fail
    go_ret
    exact ⟨ret_bool (by rw [← HF.out]; unfold Qt.farB; rw [HH.out, HE.out, HN.out]; have := H5.out; simp; omega), bTrans HB.out HB3.out⟩
  · have H5 := Lib.hid h5
    go_wp2_with fail
    go_ret
    exact ⟨ret_bool (by rw [← HF.out]; unfold Qt.farB; rw [HH.out, HE.out, HN.out, decide_eq_false (show ¬ 3 < t.wells by have := H3.out; omega), decide_eq_false (show ¬ 5 < n by have := H5.out; omega), show decide ((5 : Int) < (n : Int)) = false from decide_eq_false (by have := H5.out; omega)]; rfl), bTrans HB.out HB3.out⟩
set_option maxHeartbeats 4000000 in
set_option maxRecDepth 100000 in
theorem ready_any (Aw Af : Option Addr) (cw cf : Nat) (t : Qt) (w : World) (hs : t.Small) (hT : QAt w Aw Af t) :
    Calls Tryd.prog 26 #[.agg #[.int .i64 t.wells, .slice Aw t.nw cw, .slice Af t.nf cf]] w fun e w' => e = .returned (.bool t.readyB) ∧ Below w.heap.size w w' := by
  have hb0 := bAlloc (Below.refl w.heap.size w) (.cells #[.int .i64 t.wells, .slice Aw t.nw cw, .slice Af t.nf cf] 25)
  have HT := Lib.hid (hT.mono hb0)
  have HB := Lib.hid hb0
  have HS := Lib.hid hs
  obtain ⟨bf, hbf⟩ : ∃ b, t.readyB = b := ⟨_, rfl⟩
  have HF := Lib.hid hbf
  rw [hbf]
  clear hT hb0 hs hbf
  go_enter Tryd.func26, Tryd.ntmps26
  go_wp2_with fail
  refine (far_any _ _ _ _ t _ HS.out HT.out).mono ?_
  rintro e w1 ⟨rfl, hb1⟩
  have HB1 := Lib.hid hb1
  obtain ⟨bc1, bf1⟩ := bcell hb1
  have hz1 := hb1.size
  simp only [World.size_alloc] at hz1
  have hy1 : w.heap.size < w1.heap.size := by omega
  clear hb1
  obtain ⟨bh, hbh⟩ : ∃ b, t.farB = b := ⟨_, rfl⟩
  have HH := Lib.hid hbh
  rw [hbh]
  clear hbh
  cases bh
  case true =>
    go_wp2_with fail
    go_ret
    exact ⟨ret_bool (by rw [← HF.out]; unfold Qt.readyB; rw [HH.out]; rfl), bTrans HB.out HB1.out⟩
  go_wp2_with fail
  refine (refCheck5 _ _ _ _ t _ HS.out.1 HS.out.2.1 (HT.out.mono HB1.out)).mono ?_
  rintro e w2 ⟨rfl, hb2⟩
  have HB2 := Lib.hid (bTrans HB1.out hb2)
  clear hb2 bc1 bf1 hz1 hy1
  obtain ⟨er, her⟩ : ∃ er, t.err = er := ⟨_, rfl⟩
  have HE := Lib.hid her
  rw [her]
  clear her
  by_cases h0 : er = 0
  · subst h0
    go_wp2_with fail
    go_ret
    exact ⟨ret_bool (by rw [← HF.out]; unfold Qt.readyB; rw [HH.out, HE.out]; rfl), bTrans HB.out HB2.out⟩
  · have H0 := Lib.hid h0
    have h1 : (er == 0) = false := by simp [h0]
    clear h0
    go_wp2_with fail
    go_ret
    exact ⟨ret_bool (by rw [← HF.out]; unfold Qt.readyB; rw [HH.out, HE.out]; have := H0.out; simp [this]), bTrans HB.out HB2.out⟩
theorem isKnown_any (n : Int) (w : World) :
    Calls Tryd.prog 46 #[.int .i64 n] w fun e w' => e = .returned (.bool (n == 0 || n == 3)) ∧ Below w.heap.size w w' := by
  by_cases h0 : n = 0
  · subst h0
    go_enter Tryd.func46, Tryd.ntmps46
    go_wp2_with fail
    go_ret
    exact ⟨rfl, Below.refl _ _⟩
  · have h1 : (n == 0) = false := by simp [h0]
    have H1 := Lib.hid h1
    clear h0
    go_enter Tryd.func46, Tryd.ntmps46
    go_wp2_with fail
    go_ret
    exact ⟨ret_bool (by rw [H1.out, Bool.false_or]), Below.refl _ _⟩
end Go.Proofs.YtchhodikgllgnaaDoor
/- What the statement of each world says of the plain values. Plain Lean. No condition but a valid town, where it is said. -/
namespace Go.Proofs.YtchhodikgllgnaaDoor
open Go.RowKit Go.Sort
theorem wellB_in {t : Qt} (ok : t.Ok) {p : Nat} (hp : (p : Int) < t.wells) : t.wellB (p : Int) = true := by rw [wellB_ok ok]; exact inR_t (by omega)
end Go.Proofs.YtchhodikgllgnaaDoor
/- Walks of the reference 05: lists. Conditions: at most 16 tests. -/
namespace Go.Proofs.YtchhodikgllgnaaDoor
open Go.RowKit Go.Sort
/-! ### An append to a row of the call's own: where the row lies afterwards -/
/-! ### Lists of lists of tests -/
def TRow (w : World) (u : Value) (l : List Tp) : Prop := ∃ A c, u = .slice A l.length c ∧ RowK w A 27 (tstE.cells l)
theorem TRow.kept {ts : List TypeId} {w w' : World} {u : Value} {l : List Tp} (h : TRow w u l) (hk : Kept ts w w') (ht : 27 ∈ ts) : TRow w' u l := by
  obtain ⟨A, c, e, hr⟩ := h
  exact ⟨A, c, e, hr.kept hk ht⟩
def TRows (w : World) (LL : List (List Tp)) (us : List Value) : Prop := us.length = LL.length ∧ ∀ (j : Nat) (u : Value) (l : List Tp), us[j]? = some u → LL[j]? = some l → TRow w u l
theorem TRows.kept {ts : List TypeId} {w w' : World} {LL : List (List Tp)} {us : List Value} (h : TRows w LL us) (hk : Kept ts w w') (ht : 27 ∈ ts) : TRows w' LL us := ⟨h.1, fun j u l h1 h2 => (h.2 j u l h1 h2).kept hk ht⟩
theorem TRows.snoc {w : World} {LL : List (List Tp)} {us : List Value} {u : Value} {l : List Tp} (h : TRows w LL us) (hu : TRow w u l) : TRows w (LL ++ [l]) (us ++ [u]) :=
  ⟨by rw [List.length_append, List.length_append, h.1]; rfl, fun j v l' h1 h2 => by
    rcases Nat.lt_or_ge j us.length with hlt | hge
    · rw [List.getElem?_append_left hlt] at h1
      rw [List.getElem?_append_left (by rw [← h.1]; exact hlt)] at h2
      exact h.2 j v l' h1 h2
    · rw [List.getElem?_append_right hge] at h1
      rw [List.getElem?_append_right (by rw [← h.1]; exact hge), ← h.1] at h2
      have h0 : j - us.length = 0 := by
        have := (List.getElem?_eq_some_iff.1 h1).1
        simp only [List.length_cons, List.length_nil] at this
        omega
      rw [h0] at h1 h2
      simp at h1 h2
      subst h1 h2
      exact hu⟩
/-- a list of lists of tests, of the call's own -/
def ListsAt (w : World) (base : Nat) (v : Value) (LL : List (List Tp)) : Prop := ∃ us, w.ownsRow base 34 1 v LL.length us ∧ TRows w LL us
theorem ListsAt.mono {w w' : World} {base : Nat} {v : Value} {LL : List (List Tp)} (h : ListsAt w base v LL) (hb : Below w.heap.size w w') : ListsAt w' base v LL := by
  obtain ⟨us, h1, h2⟩ := h
  exact ⟨us, owns_below h1 hb, h2.kept (Kept.of_below (l := [27]) hb) (by simp)⟩
theorem ListsAt.lower {w : World} {base base' : Nat} {v : Value} {LL : List (List Tp)} (h : ListsAt w base v LL) (hb : base' ≤ base) : ListsAt w base' v LL := by
  obtain ⟨us, h1, h2⟩ := h
  exact ⟨us, owns_lower h1 hb, h2⟩
theorem infoT : (Tryd.prog.info? 27).map (fun i => (i.zero, i.size, i.bytes)) = some (some (.agg #[.int .i64 0, .int .i64 0]), 2, 16) := by kernel_rfl
end Go.Proofs.YtchhodikgllgnaaDoor
/- Walks of the reference 05: Split. Conditions: lengths are Go's. -/
namespace Go.Proofs.YtchhodikgllgnaaDoor
open Go.RowKit Go.Sort
theorem left_worlds {t : Qt} : ∀ a, a ∈ t.leftL → ∃ i : Nat, i < t.nw ∧ a = i := fun a ha => by
  obtain ⟨i, hi, _, rfl⟩ := (leftTo_mem t t.nw).1 ha
  exact ⟨i, hi, rfl⟩
theorem left_six {t : Qt} (ok : t.Ok) : t.leftL.length ≤ 6 := by have := leftTo_len t t.nw; have := ok.nw; unfold Qt.leftL; omega
theorem maxTo_succ (g : Nat → Int) (n : Nat) : maxTo g (n + 1) = if maxTo g n < g n then g n else maxTo g n := by
  show max (maxTo g n) (g n) = _
  split <;> omega
end Go.Proofs.YtchhodikgllgnaaDoor
/- Walks of the reference 05: behind, depth. Conditions: a valid town and worlds of it. -/
namespace Go.Proofs.YtchhodikgllgnaaDoor
open Go.RowKit Go.Sort
end Go.Proofs.YtchhodikgllgnaaDoor
/- Walks of the reference 05: Depth, Next. Conditions: lengths are Go's. -/
namespace Go.Proofs.YtchhodikgllgnaaDoor
open Go.RowKit Go.Sort
end Go.Proofs.YtchhodikgllgnaaDoor
/- Walks of the reference 05: Fewest. Conditions: lengths are Go's. -/
namespace Go.Proofs.YtchhodikgllgnaaDoor
open Go.RowKit Go.Sort
/-- what the reference hands back: a list of tests, and an error -/
def RefLst (w : World) (er : Int) (L : List Tp) (e : Ending) : Prop := (er = 0 → ∃ A c, e = .returned (.tuple #[.slice A L.length c, .int .i64 er]) ∧ RowAt w A (tstE.cells L)) ∧ (er ≠ 0 → e = .returned (.tuple #[.slice none 0 0, .int .i64 er]))
theorem tests_len {t : Qt} (ok : t.Ok) : t.tests.length ≤ 16 := by
  obtain ⟨m, hm⟩ : ∃ m : Nat, t.wells = (m : Int) := ⟨t.wells.toNat, by have := ok.w0; omega⟩
  have m4 : m ≤ 4 := by have := ok.w1; omega
  unfold Qt.tests
  rw [testsL_len, hm, Int.toNat_natCast]
  have : m * m ≤ 4 * 4 := Nat.mul_le_mul m4 m4
  omega
theorem tests_ok5 {t : Qt} (ok : t.Ok) : t.TestsOk t.tests := fun x hx => by
  have := testsL_mem.1 hx
  have := ok.w0
  omega
end Go.Proofs.YtchhodikgllgnaaDoor
/- What comes back with a list of tests, in one form. No condition. -/
namespace Go.Proofs.YtchhodikgllgnaaDoor
open Go.RowKit Go.Sort
/-- the list that comes back with an error -/
def lstO (er : Int) (L : List Tp) : List Tp := if er = 0 then L else []
theorem LstOut.o {w : World} {er : Int} {L : List Tp} {e : Ending} (h : LstOut w er L e) : ∃ A c, e = .returned (.tuple #[.slice A (lstO er L).length c, .int .i64 er]) ∧ RowAt w A (tstE.cells (lstO er L)) := by
  unfold lstO
  by_cases h0 : er = 0
  · obtain ⟨A, c, e1, h1⟩ := h.1 h0
    rw [if_pos h0]
    exact ⟨A, c, e1, h1.row⟩
  · rw [if_neg h0]
    exact ⟨none, 0, h.2 h0, .inl rfl⟩
theorem RefLst.o {w : World} {er : Int} {L : List Tp} {e : Ending} (h : RefLst w er L e) : ∃ A c, e = .returned (.tuple #[.slice A (lstO er L).length c, .int .i64 er]) ∧ RowAt w A (tstE.cells (lstO er L)) := by
  unfold lstO
  by_cases h0 : er = 0
  · obtain ⟨A, c, e1, h1⟩ := h.1 h0
    rw [if_pos h0]
    exact ⟨A, c, e1, h1⟩
  · rw [if_neg h0]
    exact ⟨none, 0, h.2 h0, .inl rfl⟩
theorem fewest_len (t : Qt) : (lstO (t.knowErr true) (t.fewest t.leftL)).length ≤ 100000 := by
  unfold lstO
  by_cases h0 : t.knowErr true = 0
  · rw [if_pos h0]
    have h1 := (fewest_sub t t.leftL).length_le
    have h2 := tests_len (knowErr_zero h0).1
    omega
  · rw [if_neg h0]
    simp
end Go.Proofs.YtchhodikgllgnaaDoor
/- What the statement of one fact more says of the plain values. Plain Lean. Conditions: valid towns, where it is said. -/
namespace Go.Proofs.YtchhodikgllgnaaDoor
open Go.RowKit Go.Sort
theorem add_small {t : Qt} (h : t.Fits) (y : Fact) : (t.add y).Small :=
  ⟨by have := h.1; show t.nw ≤ _; omega, by have := h.2.1; show t.nf + 1 ≤ _; omega, fun i hi k hk => by have := (h.2.2 i hi).2 k hk; show (t.world i).len k ≤ _; omega⟩
end Go.Proofs.YtchhodikgllgnaaDoor
/- Walks of the reference 05: Decides. Conditions: a valid town, tests and worlds of it. -/
namespace Go.Proofs.YtchhodikgllgnaaDoor
open Go.RowKit Go.Sort
end Go.Proofs.YtchhodikgllgnaaDoor
/- Walks of the reference 05: Decide. Conditions: lengths are Go's. -/
namespace Go.Proofs.YtchhodikgllgnaaDoor
open Go.RowKit Go.Sort
end Go.Proofs.YtchhodikgllgnaaDoor
/- Towns whose worlds are alike: what the program says of them is the same. Plain Lean. Conditions: valid towns. -/
namespace Go.Proofs.YtchhodikgllgnaaDoor
open Go.RowKit Go.Sort
structure Alike (t o : Qt) : Prop where
  wells : t.wells = o.wells
  ok : t.Ok
  ok2 : o.Ok
  c1 : Cov t o t.leftL o.leftL
  c2 : Cov o t o.leftL t.leftL
theorem Alike.nil {t o : Qt} (h : Alike t o) : t.leftL = [] ↔ o.leftL = [] := by
  constructor
  · intro e
    cases ho : o.leftL with
    | nil => rfl
    | cons a l =>
      obtain ⟨b, hb, _⟩ := h.c2 a (by rw [ho]; simp)
      rw [e] at hb
      cases hb
  · intro e
    cases ho : t.leftL with
    | nil => rfl
    | cons a l =>
      obtain ⟨b, hb, _⟩ := h.c1 a (by rw [ho]; simp)
      rw [e] at hb
      cases hb
theorem Alike.know {t o : Qt} (h : Alike t o) (b : Bool) : t.knowErr b = o.knowErr b := by
  unfold Qt.knowErr
  rw [askErr_ok h.ok, askErr_ok h.ok2]
  by_cases e : t.leftL = []
  · rw [e, h.nil.1 e]
  · simp only [if_neg e, if_neg fun e' => e (h.nil.2 e')]
theorem Alike.fewest {t o : Qt} (h : Alike t o) : t.fewest t.leftL = o.fewest o.leftL := fewest_alike h.wells h.c1 h.c2
theorem Alike.wellB {t o : Qt} (h : Alike t o) (n : Int) : t.wellB n = o.wellB n := by unfold Qt.wellB; rw [h.wells]
theorem Alike.decides {t o : Qt} (h : Alike t o) {l : List Tp} (hl : ∀ x, x ∈ l → x ∈ t.tests) {x : Tp} (hx : x ∈ t.tests) (law : Int) : t.decides l t.leftL x law = o.decides l o.leftL x law := by
  have e := tests_eq h.wells
  refine Bool.eq_iff_iff.2 ⟨fun ha => h.c2.decides (fun y hy => by rw [← e]; exact hl y hy) (by rw [← e]; exact hx) ha, fun ha => h.c1.decides hl hx ha⟩
theorem Alike.others {t o : Qt} (h : Alike t o) (x : Tp) : t.others x = o.others x := by unfold Qt.others; rw [tests_eq h.wells]
theorem Alike.dec {t o : Qt} (h : Alike t o) {p q : Nat} (hp : (p : Int) < t.wells) (hq : (q : Int) < t.wells) (law : Int) : t.decErr p q law = o.decErr p q law ∧ t.decL p q law = o.decL p q law := by
  have w0 := h.ok.w0
  have hx : ((p, q) : Tp) ∈ t.tests := testsL_mem.2 ⟨by show p < t.wells.toNat; omega, by show q < t.wells.toNat; omega⟩
  constructor
  · unfold Qt.decErr
    rw [h.wellB, h.wellB, h.know, Int.toNat_natCast, Int.toNat_natCast, ← h.others, h.decides (fun y hy => (others_sub t _).subset hy) hx]
  · unfold Qt.decL
    rw [Int.toNat_natCast, Int.toNat_natCast, ← h.others]
    exact fewest_congr fun y hy => h.decides (fun z hz => (others_sub t _).subset (hy.subset hz)) hx law
theorem Alike.depth {t o : Qt} (h : Alike t o) : t.depthOut = o.depthOut := by
  unfold Qt.depthOut
  rw [h.know, depth_alike h.wells h.c1 h.c2 h.ok.fallsL h.ok2.fallsL]
theorem Alike.next {t o : Qt} (h : Alike t o) : t.nextOut = o.nextOut ∧ t.nextErr = o.nextErr := by
  unfold Qt.nextOut Qt.nextErr
  rw [h.know, nextP_eq h.ok.fallsL (by have := left_six h.ok; omega), nextP_eq h.ok2.fallsL (by have := left_six h.ok2; omega), next_alike h.wells h.c1 h.c2 h.ok.fallsL h.ok2.fallsL]
  exact ⟨rfl, rfl⟩
theorem again_ok {t : Qt} (ok : t.Ok) {k : Nat} (hk : k < t.nw) (ok2 : (t.again k).Ok) : Alike t (t.again k) := ⟨rfl, ok, ok2, (again_cov t hk).1, (again_cov t hk).2⟩
theorem Alike.between {t o : Qt} (h : Alike t o) {p q : Nat} (hp : (p : Int) < t.wells) (hq : (q : Int) < t.wells) : t.betweenV p q = o.betweenV p q ∧ t.between p q = o.between p q := by
  have w0 := h.ok.w0
  have hx : ((p, q) : Tp) ∈ t.tests := testsL_mem.2 ⟨by show p < t.wells.toNat; omega, by show q < t.wells.toNat; omega⟩
  have e : t.between p q = o.between p q := by
    rw [between_of, between_of]
    exact spanOf_alike (fun a ha => by
      obtain ⟨b, hb, e⟩ := h.c1 a ha
      exact ⟨b, hb, e _ hx⟩) fun b hb => by
      obtain ⟨a, ha, e⟩ := h.c2 b hb
      exact ⟨a, ha, (e _ (by rw [← tests_eq h.wells]; exact hx)).symm⟩
  refine ⟨?_, e⟩
  unfold Qt.betweenV
  rw [h.wellB, h.wellB, h.know, Int.toNat_natCast, Int.toNat_natCast, e]
theorem again_small {t : Qt} (h : t.Fits) {k : Nat} (hk : k < t.nw) : (t.again k).Small :=
  ⟨by have := h.1; show t.nw + 1 ≤ _; omega, by have := h.2.1; show t.nf ≤ _; omega, fun i hi j hj => by
    by_cases e : i < t.nw
    · rw [again_at t k e] at hj ⊢
      have := (h.2.2 i e).2 j hj
      omega
    · have e1 : (t.again k).world i = t.world k := if_neg e
      rw [e1] at hj ⊢
      have := (h.2.2 k hk).2 j hj
      omega⟩
end Go.Proofs.YtchhodikgllgnaaDoor
/- What the statement of step by step says of the plain values. Plain Lean. Conditions: a valid town. -/
namespace Go.Proofs.YtchhodikgllgnaaDoor
open Go.RowKit Go.Sort
theorem shown_ok {t : Qt} (ok : t.Ok) (h5 : t.nf ≤ 5) {x : Tp} (hx : x ∈ t.tests) {f : Nat} (hf : f < 10) : (t.add (shownF x (f : Int))).Ok := by
  have hm := testsL_mem.1 hx
  have w0 := ok.w0
  refine ⟨ok.w0, ok.w1, ok.nw, by show t.nf + 1 ≤ 6; omega, ok.world, fun i hi => ?_⟩
  show Fact.Ok t.wells (if i < t.nf then t.fact i else shownF x (f : Int))
  split
  · rename_i h
    exact ok.fact i h
  · exact ⟨by show (0 : Int) ≤ (x.1 : Int); omega, by show (x.1 : Int) < t.wells; omega, by show (0 : Int) ≤ (x.2 : Int); omega, by show (x.2 : Int) < t.wells; omega, by show (1 : Int) ≤ 1; omega, by show (1 : Int) ≤ 9; omega, by show (0 : Int) ≤ (f : Int); omega, by show (f : Int) ≤ (f : Int); omega, by show (f : Int) ≤ 99; omega⟩
theorem shown_depth {t : Qt} (ok : t.Ok) (h5 : t.nf ≤ 5) {x : Tp} (hx : x ∈ t.tests) {f : Nat} (hf : f < 10) (hne : t.shown x t.leftL (f : Int) ≠ []) :
    (t.add (shownF x (f : Int))).knowErr true = 0 ∧ (t.add (shownF x (f : Int))).depthOut = t.depth (t.shown x t.leftL (f : Int)) := by
  have h1 : (t.add (shownF x (f : Int))).knowErr true = 0 := knowErr_ok (shown_ok ok h5 hx hf) (by rw [leftL_shown]; exact hne)
  refine ⟨h1, ?_⟩
  unfold Qt.depthOut
  rw [if_pos h1, leftL_shown]
  exact depth_same (t := t.add (shownF x (f : Int))) (t' := t) rfl rfl _
def stepG (t : Qt) (x : Tp) (f : Nat) : Int := t.depth (t.shown x t.leftL (f : Int))
theorem step_worst {t : Qt} (ok : t.Ok) {x : Tp} (h : t.next t.leftL = some x) : maxTo (stepG t x) 10 = t.depth t.leftL - 1 := next_behind ok.fallsL h
theorem step_less {t : Qt} (ok : t.Ok) {x : Tp} (h : t.next t.leftL = some x) {f : Nat} (hf : f < 10) : 0 ≤ stepG t x f ∧ stepG t x f < t.depth t.leftL := by
  have h1 := step_worst ok h
  have h2 := maxTo_at (g := stepG t x) hf
  exact ⟨depth_nonneg _ _, by omega⟩
theorem step_empty {t : Qt} {x : Tp} {f : Nat} (h : t.shown x t.leftL (f : Int) = []) : stepG t x f = 0 := by
  unfold stepG
  rw [h, depth_step, allApart_short (by simp)]
  rfl
/-- what stands at the beginning: how many tests are enough, the fewest, the next one -/
theorem step_none {t : Qt} (ok : t.Ok) (h : t.leftL = []) : t.knowErr true = 3 ∧ t.nextErr = 3 := by
  have h1 := knowErr_none ok h
  refine ⟨h1, ?_⟩
  unfold Qt.nextErr
  rw [h1, if_neg (by decide)]
theorem step_some {t : Qt} (ok : t.Ok) (h : t.leftL ≠ []) : t.knowErr true = 0 ∧ 0 ≤ t.depthOut ∧ t.depthOut = t.depth t.leftL ∧ t.depthOut ≤ (lstO 0 (t.fewest t.leftL)).length ∧ t.depthOut < t.leftL.length ∧ (t.depthOut = 0 ∧ t.nextErr = 3 ∧ t.allApart [] t.leftL = true ∨ 0 < t.depthOut ∧ t.nextErr = 0 ∧ t.allApart [] t.leftL = false ∧ t.next t.leftL = some t.nextOut ∧ t.nextOut ∈ t.tests) := by
  have h1 := knowErr_ok ok h
  have h2 : t.depthOut = t.depth t.leftL := by unfold Qt.depthOut; rw [if_pos h1]
  have h3 := nextP_eq ok.fallsL (by have := left_six ok; omega)
  have h4 : t.nextErr = if (t.next t.leftL).isSome then 0 else 3 := by unfold Qt.nextErr; rw [if_pos h1, h3]
  have h5 : t.nextOut = (t.next t.leftL).getD (0, 0) := by unfold Qt.nextOut; rw [if_pos h1, h3]
  have h6 := next_zero (t := t) (L := t.leftL)
  refine ⟨h1, by rw [h2]; exact depth_nonneg _ _, h2, ?_, by rw [h2]; exact depth_below t h, ?_⟩
  · unfold lstO
    rw [if_pos rfl, h2]
    exact depth_fewest t t.leftL
  · have h7 := depth_nonneg t t.leftL
    by_cases h0 : t.depth t.leftL = 0
    · refine .inl ⟨by rw [h2]; exact h0, ?_, depth_zero.1 h0⟩
      rw [h4, h6, h0]
      rfl
    · refine .inr ⟨by rw [h2]; omega, ?_, ?_, ?_⟩
      · rw [h4, h6, decide_eq_true (by omega)]
        rfl
      · cases hal : t.allApart [] t.leftL with
        | false => rfl
        | true => exact absurd (depth_zero.2 hal) h0
      · rw [decide_eq_true (show 0 < t.depth t.leftL by omega)] at h6
        obtain ⟨x, hx⟩ := Option.isSome_iff_exists.1 h6
        rw [h5, hx]
        exact ⟨rfl, (next_some hx).1⟩
end Go.Proofs.YtchhodikgllgnaaDoor
/- A region that draws its order, in a fence: values told by shapes and by what stands, then a tail. No program in sight. -/
namespace Go.Proofs.YtchhodikgllgnaaDoor
open Go.RowKit Go.Sort Go.Shelf
section
variable {P : Program} {ops : Array Oper} {md : Region.Mode} {F : Fence} {k : Nat}
theorem wpIn_region_stir {rid : Nat} {Q : Exit → Act → World → Prop} {a : Act} {w : World} {l : List Oper} (hF : Open F P) (n : Nat) (hs : List Stir) (hm : P.follows .mixedOrders = true) (hB : (stirB .any l.toArray n && noDefer l.toArray) = true) (hn : hs.length = n) (hg : goodAllS hs) (hx : crossAll .any l.toArray w.heap.size hs)
    (h : wpStir P .any l.toArray w (fun a' w' => wpListIn F k P l.toArray Q (l.drop n) a' w') 0 l hs a []) : (Code.region rid l.toArray true).wpIn F k P Q a w := by
  rw [Bool.and_eq_true] at hB
  obtain ⟨hB, hnd⟩ := hB
  unfold stirB at hB
  simp only [Bool.and_eq_true, decide_eq_true_eq, List.all_eq_true, List.mem_range, Bool.or_eq_true] at hB
  obtain ⟨⟨hord, hnl⟩, htail⟩ := hB
  have H := ordered_of hord
  have hsz : l.toArray.size = l.length := by simp
  have key : ∀ V : Nat → Value, (∀ (k : Nat) (h : Stir), hs[k]? = some h → h.sh (V k)) → _ := fun V hV =>
    wpStir_at (P := P) (md := .any) (ops := l.toArray) (W := w) (Q := fun a' w' => wpListIn F k P l.toArray Q (l.drop n) a' w') (a0 := a) hV hs 0 l (fun j => by simp) (fun j => by simp) (by omega) h
  have hwit : ∃ V : Nat → Value, ∀ (k : Nat) (h : Stir), hs[k]? = some h → h.sh (V k) := by
    have hx : ∀ k : Nat, ∃ v : Value, ∀ h : Stir, hs[k]? = some h → h.sh v := fun k => by
      cases e : hs[k]? with
      | none => exact ⟨undef, fun h hh => by cases hh⟩
      | some h =>
        obtain ⟨v, hv⟩ := Stir.some (goodAllS_at hg e)
        exact ⟨v, fun h' hh => by injection hh with hh; subst hh; exact hv⟩
    exact ⟨fun k => (hx k).choose, fun k => (hx k).choose_spec⟩
  have final : ∀ (V : Nat → Value) (listed : Array Bool) (w' : World), (∀ (k : Nat) (h : Stir), hs[k]? = some h → h.sh (V k)) → Below w.heap.size w w' → (∀ j, j < n → listed.getD j false = true) → (∀ j, n ≤ j → listed.getD j false = false) → (∀ (j : Nat) (h : Stir), hs[j]? = some h → h.r w' (V j)) →
      wpListIn F k P l.toArray Q (l.drop n) (frameOf l.toArray V (fun k => listed.getD k false) a l.toArray.size) w' := by
    intro V listed w' hV hb hall hno hr
    obtain ⟨p, rfl⟩ := regrown_of_below hb
    have := (key V hV).2 p (allS_all _ fun j h hj hjh => hr j h hjh)
    rw [hn] at this
    have e1 : frameOf l.toArray V (fun k => listed.getD k false) a n = frameOf l.toArray V (fun _ => true) a n := frameOf_congr n fun j hj => ⟨hall j hj, fun _ => rfl⟩
    have e2 : ∀ m, n ≤ m → frameOf l.toArray V (fun k => listed.getD k false) a m = frameOf l.toArray V (fun k => listed.getD k false) a n := by
      intro m
      induction m with
      | zero => intro hm'; obtain rfl : n = 0 := by omega
                rfl
      | succ m ih =>
        intro hm'
        rcases Nat.eq_or_lt_of_le hm' with e | e
        · rw [e]
        · rw [frameOf, ih (by omega), if_neg]; rw [hno m (by omega)]; exact Bool.false_ne_true
    rw [e2 _ hnl, e1]
    exact this
  refine wpIn_region_any hm ?_
  refine wpAnyIn_inv (fun listed a' w' => ((∀ j, n ≤ j → listed.getD j false = false) ∧ ∃ V : Nat → Value, (∀ (k : Nat) (h : Stir), hs[k]? = some h → h.sh (V k)) ∧ a' = frameOf l.toArray V (fun k => listed.getD k false) a l.toArray.size ∧ Below w.heap.size w w' ∧ ∀ (j : Nat) (h : Stir), hs[j]? = some h → listed.getD j false = true → h.r w' (V j)) ∨
      ∃ m, n ≤ m ∧ (∀ j, j < m → listed.getD j false = true) ∧ (∀ j, m ≤ j → listed.getD j false = false) ∧ wpListIn F k P l.toArray Q (l.drop m) a' w') ?_ ?_ _ _ _ _ (left_le _ _) Shut.none (.inl ⟨fun j _ => ?_, ?_⟩)
  · intro listed a' w' i hsh hI hr
    obtain ⟨hun, oi, hoi, _⟩ := mem_ready.1 hr
    have hi : i < l.toArray.size := (Array.getElem?_eq_some_iff.1 hoi).1
    have hil : i < listed.size := by rw [hsh.size]; exact hi
    have hunf := listed_both hun
    have hset : (listed.setIfInBounds i true).getD i false = true := set_same hil false
    have tailstep : ∀ m, n ≤ m → (∀ j, j < m → listed.getD j false = true) → (∀ j, m ≤ j → listed.getD j false = false) → n ≤ i → wpListIn F k P l.toArray Q (l.drop m) a' w' →
        wpOpIn F k P l.toArray Q i (fun a'' w'' => ((∀ j, n ≤ j → (listed.setIfInBounds i true).getD j false = false) ∧ ∃ V : Nat → Value, (∀ (k : Nat) (h : Stir), hs[k]? = some h → h.sh (V k)) ∧ a'' = frameOf l.toArray V (fun k => (listed.setIfInBounds i true).getD k false) a l.toArray.size ∧ Below w.heap.size w w'' ∧ ∀ (j : Nat) (h : Stir), hs[j]? = some h → (listed.setIfInBounds i true).getD j false = true → h.r w'' (V j)) ∨
          ∃ m, n ≤ m ∧ (∀ j, j < m → (listed.setIfInBounds i true).getD j false = true) ∧ (∀ j, m ≤ j → (listed.setIfInBounds i true).getD j false = false) ∧ wpListIn F k P l.toArray Q (l.drop m) a'' w'') a' w' := by
      intro m hnk hall hno hni hw
      have him : i = m := by
        rcases Nat.lt_trichotomy i m with h' | h' | h'
        · rw [hall i h'] at hunf; cases hunf
        · exact h'
        · have h1 := ((htail i hi).resolve_left (by omega)) m h'
          have h2 := reach_listed hsh 6 i m (fun j hj => waits_listed hr hj) h1
          rw [hno m (Nat.le_refl _)] at h2; cases h2
      subst him
      have hli : l[i]? = some oi := by simpa using hoi
      have hdrop : l.drop i = oi :: l.drop (i + 1) := by
        have hlt : i < l.length := by omega
        rw [List.drop_eq_getElem_cons hlt]
        congr 1
        rw [List.getElem?_eq_getElem hlt] at hli
        exact Option.some.inj hli
      rw [hdrop] at hw
      simp only [wpListIn] at hw
      have hall' : ∀ j, j < i + 1 → (listed.setIfInBounds i true).getD j false = true := fun j hj => by
        rcases Nat.lt_or_ge j i with h' | h'
        · rw [getD_set_ne false (by omega)]; exact hall j h'
        · obtain rfl : j = i := by omega
          exact hset
      have hno' : ∀ j, i + 1 ≤ j → (listed.setIfInBounds i true).getD j false = false := fun j hj => by
        rw [getD_set_ne false (by omega)]; exact hno j (by omega)
      unfold Go.wpOpIn
      simp only [hoi]
      split
      · rename_i hwt
        rw [if_pos hwt] at hw
        exact Oper.wpIn_mono (fun a'' w'' h'' => .inr ⟨i + 1, by omega, hall', hno', h''⟩) hw
      · rename_i hwt
        rw [if_neg hwt] at hw
        exact ⟨fun f _ => hF.fn f, .inr ⟨i + 1, by omega, hall', hno', by first | exact hw.2 | exact hw⟩⟩
    rcases hI with ⟨hno, V, hV, rfl, hb, hrr⟩ | ⟨m, hnm, hall, hno, hw⟩
    · rcases Nat.lt_or_ge i n with hin | hin
      · -- an operation of the first part
        refine wpOpIn_mono (fun _ _ h => .inl h) ?_
        have hx' : ∃ h, hs[i]? = some h := ⟨hs[i]'(by omega), by simp⟩
        obtain ⟨hh, hhi⟩ := hx'
        obtain ⟨o', ho', hask⟩ := (key V hV).1 i hh (Nat.zero_le _) hhi
        obtain rfl : oi = o' := Option.some.inj (hoi.symm.trans ho')
        have hsee := H.sees (V := V) (V' := V) (M := fun _ => true) (a := a) hsh hoi hr (fun k _ hk => by cases hk) (fun _ _ => rfl)
        have hput : ∀ v, (frameOf l.toArray V (fun k => listed.getD k false) a l.toArray.size).put oi.dst v = frameOf l.toArray (fun k => if k = i then v else V k) (fun k => (listed.setIfInBounds i true).getD k false) a l.toArray.size := fun v => by
          have e1 : dstOf l.toArray i = oi.dst := by simp [dstOf, hoi]
          rw [H.frame_put hsh hi hun, e1, if_pos rfl]
          congr 1
          exact frameOf_congr _ fun j _ => ⟨rfl, fun hj => by rw [if_neg (fun e => by subst e; rw [hunf] at hj; cases hj)]⟩
        have hnext : ∀ v w'', Below w.heap.size w' w'' → (∀ (j : Nat) (h : Stir), hs[j]? = some h → j ≠ i → listed.getD j false = true → h.r w' (V j) → h.r w'' (V j)) → hh.r w'' v → ((∀ j, n ≤ j → (listed.setIfInBounds i true).getD j false = false) ∧ ∃ V' : Nat → Value, (∀ (k : Nat) (h : Stir), hs[k]? = some h → h.sh (V' k)) ∧ (frameOf l.toArray V (fun k => listed.getD k false) a l.toArray.size).put oi.dst v = frameOf l.toArray V' (fun k => (listed.setIfInBounds i true).getD k false) a l.toArray.size ∧ Below w.heap.size w w'' ∧ ∀ (j : Nat) (h : Stir), hs[j]? = some h → (listed.setIfInBounds i true).getD j false = true → h.r w'' (V' j)) := by
          intro v w'' hb' hkeep hrv
          refine ⟨fun j hj => by rw [getD_set_ne false (by omega)]; exact hno j hj, fun k => if k = i then v else V k, fun k h hk => ?_, hput v, hb.trans hb', fun j h hjh hj => ?_⟩
          · by_cases e : k = i
            · subst e
              obtain rfl : hh = h := Option.some.inj (hhi.symm.trans hk)
              simp only [if_true]
              exact Stir.r_sh hrv
            · simp only [if_neg e]; exact hV k h hk
          · by_cases e : j = i
            · subst e
              obtain rfl : hh = h := Option.some.inj (hhi.symm.trans hjh)
              simp only [if_true]
              exact hrv
            · simp only [if_neg e]
              rw [getD_set_ne false (Ne.symm e)] at hj
              exact hkeep j h hjh e hj (hrr j h hjh hj)
        unfold Go.wpOpIn
        simp only [hoi]
        rw [wanted_of_slots hsee]
        unfold Oper.stirAsk at hask
        by_cases hwt : Region.wanted oi (yielded l.toArray (frameOf l.toArray V (fun _ => true) a i).tmps) = true
        · rw [if_pos hwt] at hask
          rw [if_pos hwt]
          obtain ⟨p, rfl⟩ := regrown_of_below hb
          have h1 := hask p (depsS_all _ fun j h hj hjh hw => hrr j h hjh (waits_listed hr hw))
          have hst : ∀ v w'', hh.K (grow (redrawn w p.d) p.os) w'' → hh.r w'' v → _ := fun v w'' hk hrv => hnext v w'' (by
            cases hh with
            | const c => exact (show Below _ _ _ from hk).mono hb.size
            | held s r => exact (show Below _ _ _ from hk).mono hb.size
            | stir s r K => exact (hx i s r K hhi).1 _ _ hb.size hk) (fun j h hjh hji hj hr1 => by
            cases hh with
            | const c => exact Stir.r_mono (goodAllS_at hg hjh) hk hr1
            | held s r => exact Stir.r_mono (goodAllS_at hg hjh) hk hr1
            | stir s r K =>
              rcases (hx i s r K hhi).2 j h hjh hji with h1 | h1
              · have h2 := reach_listed2 hsh 6 j i hj h1
                rw [hunf] at h2
                cases h2
              · exact h1 _ _ _ hk hr1) hrv
          refine wpIn_of_stir hF (noDefer_spec hnd hoi) (S := hh.K) (r := hh.r) ?_ fun v w'' hb' hrv => hst v w'' hb' hrv
          unfold Oper.stirAt at h1 ⊢
          rwa [exec_of_slots (ops := l.toArray) (fun cs b => Region.noSelect_spec H.sel i oi cs b hoi) hsee]
        · rw [if_neg hwt] at hask
          rw [if_neg hwt]
          exact ⟨fun f _ => hF.fn f, hnext undef w' (Below.refl _ _) (fun j h _ _ _ h1 => h1) (hask _)⟩
      · have hall : ∀ j, j < n → listed.getD j false = true := fun j hj => reach_listed hsh 6 i j (fun k hk => waits_listed hr hk) (((htail i hi).resolve_left (by omega)) j (by omega))
        exact tailstep n (Nat.le_refl _) hall hno hin (final V listed w' hV hb hall hno fun j h hjh => hrr j h hjh (hall j (by rw [← hn]; exact (List.getElem?_eq_some_iff.1 hjh).1)))
    · have hni : n ≤ i := by
        rcases Nat.lt_or_ge i n with h' | h'
        · rw [hall i (by omega)] at hunf; cases hunf
        · exact h'
      exact tailstep m hnm hall hno hni hw
  · intro listed a' w' hsh hI hr
    have hall := H.all hsh hr
    rcases hI with ⟨hno, V, hV, rfl, hb, hrr⟩ | ⟨m, hnm, hall', hno, hw⟩
    · have hnn : n = l.length := by
        rcases Nat.lt_or_ge n l.length with h' | h'
        · have := hall n (by omega); rw [hno n (Nat.le_refl _)] at this; cases this
        · omega
      have hall2 : ∀ j, j < n → listed.getD j false = true := fun j hj => hall j (by omega)
      have := final V listed w' hV hb hall2 hno fun j h hjh => hrr j h hjh (hall2 j (by rw [← hn]; exact (List.getElem?_eq_some_iff.1 hjh).1))
      rw [hnn, List.drop_length] at this
      exact this
    · have hmm : l.length ≤ m := by
        rcases Nat.lt_or_ge m l.length with h' | h'
        · have := hall m (by omega); rw [hno m (Nat.le_refl _)] at this; cases this
        · exact h'
      rw [List.drop_eq_nil_of_le hmm] at hw
      exact hw
  · rcases Nat.lt_or_ge j l.length with h' | h' <;> simp [h']
  · obtain ⟨V, hV⟩ := hwit
    refine ⟨V, hV, ?_, (Below.refl _ _).drew, fun j h _ hj => ?_⟩
    · symm
      refine frameOf_none (fun k => ?_) _
      rcases Nat.lt_or_ge k l.length with h' | h' <;> simp [h']
    · rcases Nat.lt_or_ge j l.length with h' | h' <;> simp [h'] at hj
end
end Go.Proofs.YtchhodikgllgnaaDoor
