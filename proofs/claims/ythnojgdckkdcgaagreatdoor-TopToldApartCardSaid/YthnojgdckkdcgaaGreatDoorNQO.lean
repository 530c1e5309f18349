/- Parts joined: what all claims of this seat need. -/
import Derived.Test.YthnojgdckkdcgaaGreatDoorNQH
import Derived.Test.YthnojgdckkdcgaaGreatDoorNQL
import Derived.Test.YthnojgdckkdcgaaGreatDoorNQE
import Derived.Test.YthnojgdckkdcgaaGreatDoorNQG
import Derived.Test.YthnojgdckkdcgaaGreatDoorNQM
import Derived.Test.YthnojgdckkdcgaaGreatDoorNQD
import Derived.Test.YthnojgdckkdcgaaGreatDoorNQN
set_option linter.unusedSimpArgs false
set_option linter.unusedVariables false
namespace Go.Proofs.YthnojgdckkdcgaaGreatDoor
open Go.RowKit Go.Sort
/-- how far two places are apart -/
def dst (a b : Int) : Int := max (a - b) (b - a)
/-- whether an old well forbids a spot in a world -/
def Pt.forb (t : Pt) (s w : Nat) (a : Int) : Bool := decide (dst (t.old w) (t.spot s).at_ < t.far) || decide (t.harm < (t.spot s).fl.fall a.toNat w * t.many)
/-- in how many of the first k worlds that are left -/
def Pt.inTo (t : Pt) (s w k : Nat) : Nat := cntB (fun i => t.forb s w (intL0 t.q.leftL i)) k
def Pt.inN (t : Pt) (s w : Nat) : Nat := t.inTo s w t.q.leftL.length
def Pt.whoB (t : Pt) (s w : Nat) : Bool := decide (0 < t.inN s w)
def Pt.m (t : Pt) : Nat := t.q.wells.toNat
/-- the old wells that forbid a spot in some world -/
def Pt.who (t : Pt) (s : Nat) : List Int := selTo (t.whoB s) t.m
noncomputable def Pt.cheap (t : Pt) (s : Nat) : Int × Int := (t.spot s).sh.cheapOut
noncomputable def Pt.canB (t : Pt) (s : Nat) : Bool := decide ((t.cheap s).2 = 0)
/-! ### errors -/
noncomputable def Pt.askErr (t : Pt) (is : Bool) : Int := if t.err = 0 then (if is then 0 else 1) else t.err
noncomputable def Pt.knowErr (t : Pt) (is : Bool) : Int := if t.askErr is = 0 then (if t.q.leftL = [] then 3 else 0) else t.askErr is
def Pt.hasB (t : Pt) (n : Int) : Bool := inR n 0 ((t.ns : Int) - 1)
theorem Pt.askErr_zero {t : Pt} {is : Bool} (h : t.askErr is = 0) : t.Ok ∧ is = true := by
  unfold Pt.askErr at h
  by_cases ok : t.Ok
  · rw [Pt.err_ok ok, if_pos rfl] at h
    cases is
    · simp at h
    · exact ⟨ok, rfl⟩
  · rw [Pt.err_bad ok, if_neg (by decide)] at h
    exact absurd h (by decide)
theorem Pt.askErr_ok {t : Pt} (ok : t.Ok) : t.askErr true = 0 := by unfold Pt.askErr; rw [Pt.err_ok ok, if_pos rfl, if_pos rfl]
theorem Pt.askErr_arg {t : Pt} (ok : t.Ok) : t.askErr false = 1 := by unfold Pt.askErr; rw [Pt.err_ok ok, if_pos rfl, if_neg (by decide)]
theorem Pt.askErr_bad {t : Pt} (h : ¬ t.Ok) (is : Bool) : t.askErr is = 90 := by unfold Pt.askErr; rw [Pt.err_bad h, if_neg (by decide)]
theorem Pt.knowErr_zero {t : Pt} {is : Bool} (h : t.knowErr is = 0) : t.Ok ∧ is = true ∧ t.q.leftL ≠ [] := by
  unfold Pt.knowErr at h
  by_cases h0 : t.askErr is = 0
  · rw [if_pos h0] at h
    obtain ⟨a, b⟩ := Pt.askErr_zero h0
    refine ⟨a, b, fun e => ?_⟩
    rw [if_pos e] at h
    exact absurd h (by decide)
  · rw [if_neg h0] at h
    exact absurd h h0
theorem Pt.knowErr_ok {t : Pt} (ok : t.Ok) (h : t.q.leftL ≠ []) : t.knowErr true = 0 := by unfold Pt.knowErr; rw [Pt.askErr_ok ok, if_pos rfl, if_neg h]
theorem Pt.knowErr_none {t : Pt} (ok : t.Ok) (h : t.q.leftL = []) : t.knowErr true = 3 := by unfold Pt.knowErr; rw [Pt.askErr_ok ok, if_pos rfl, if_pos h]
/-! ### what each function returns -/
noncomputable def Pt.priceOut (t : Pt) (s : Int) : Int × Int := if t.askErr (t.hasB s) = 0 then t.cheap s.toNat else (0, t.askErr (t.hasB s))
end Go.Proofs.YthnojgdckkdcgaaGreatDoor

namespace Go.Proofs.YthnojgdckkdcgaaGreatDoor
open Go.RowKit Go.Sort
/-! ### One fact more -/
def Qt.add (t : Qt) (f : Fact) : Qt := ⟨t.wells, t.nw, t.world, t.nf + 1, fun i => if i < t.nf then t.fact i else f⟩
/-! ### One world more -/
/-! ### Another order -/
/-! ### Fewer worlds: spans, and what is known -/
end Go.Proofs.YthnojgdckkdcgaaGreatDoor

namespace Go.Proofs.YthnojgdckkdcgaaGreatDoor
open Go.RowKit Go.Sort Go.Shelf
section
variable {P : Program} {ops : Array Oper} {md : Region.Mode} {n : Nat} {F : Fence} {Cl : World → Prop}
def clsUpon (P : Program) (Cl : World → Prop) (w : World) (v : Value) : Result Next → Prop
  | .ok (.value u) w' => Cl w' ∧ u = v
  | .ok .skip w' => Cl w' ∧ v = undef
  | .ok (.enter f args) w' => w' = w ∧ Calls P f args w (fun e w'' => e = .returned v ∧ Cl w'')
  | _ => False
def clsAt (P : Program) (Cl : World → Prop) (o : Oper) (a : Act) (w : World) (v : Value) : Prop := clsUpon P Cl w v ((execOp a.eval o).run P w)
attribute [go_sem] clsAt clsUpon
end
end Go.Proofs.YthnojgdckkdcgaaGreatDoor

namespace Go.Proofs.YthnojgdckkdcgaaGreatDoor
open Go.RowKit Go.Sort Go.Shelf
end Go.Proofs.YthnojgdckkdcgaaGreatDoor

namespace Go.Proofs.YthnojgdckkdcgaaGreatDoor
open Go.RowKit Go.Sort Go.Shelf
end Go.Proofs.YthnojgdckkdcgaaGreatDoor

namespace Go.Proofs.YthnojgdckkdcgaaGreatDoor
open Go.RowKit Go.Sort Go.Shelf
attribute [local go_sem] Oper.semAt_some
end Go.Proofs.YthnojgdckkdcgaaGreatDoor

namespace Go.Proofs.YthnojgdckkdcgaaGreatDoor
open Go.RowKit Go.Sort Go.Shelf
section
variable {P : Program} {ops : Array Oper} {md : Region.Mode} {F : Fence} {k : Nat}
end
end Go.Proofs.YthnojgdckkdcgaaGreatDoor

namespace Go.Proofs.YthnojgdckkdcgaaGreatDoor
open Go.RowKit Go.Sort Go.Shelf
end Go.Proofs.YthnojgdckkdcgaaGreatDoor

namespace Go.Proofs.YthnojgdckkdcgaaGreatDoor
open Go.RowKit Go.Sort Go.Shelf
section
variable {P : Program} {ops : Array Oper} {md : Region.Mode} {n : Nat} {F : Fence} {Cl : Option Nat → World → Prop} {val : Nat → Value}
end
end Go.Proofs.YthnojgdckkdcgaaGreatDoor

namespace Go.Proofs.YthnojgdckkdcgaaGreatDoor
open Go.RowKit Go.Sort Go.Shelf
attribute [local go_sem] Oper.semAt_some
section
variable {P : Program} {ops : Array Oper} {Cl : World → Prop}
end
end Go.Proofs.YthnojgdckkdcgaaGreatDoor

namespace Go.Proofs.YthnojgdckkdcgaaGreatDoor
open Go.RowKit Go.Sort Go.Shelf
end Go.Proofs.YthnojgdckkdcgaaGreatDoor

namespace Go.Proofs.YthnojgdckkdcgaaGreatDoor
open Go.RowKit Go.Sort
/-! ### Tests in order -/
/-! ### The fewest tests -/
/-! ### The next test -/
/-! ### The tests that decide -/
end Go.Proofs.YthnojgdckkdcgaaGreatDoor

namespace Go.Proofs.YthnojgdckkdcgaaGreatDoor
open Go.RowKit Go.Sort
/-! ### Who is blamed -/
end Go.Proofs.YthnojgdckkdcgaaGreatDoor

namespace Go.Proofs.YthnojgdckkdcgaaGreatDoor
open Go.RowKit Go.Sort
theorem factL_snoc (t : Qt) (f : Fact) : factL (t.add f).fact (t.nf + 1) = factL t.fact t.nf ++ [.int .i64 f.from_, .int .i64 f.many, .int .i64 f.to_, .int .i64 f.low, .int .i64 f.high] := by
  unfold factL
  show catL _ t.nf ++ _ = _
  have e1 : (t.add f).fact t.nf = f := if_neg (Nat.lt_irrefl _)
  congr 1
  · exact catL_congr t.nf fun i hi => by rw [show (t.add f).fact i = t.fact i from if_pos hi]
  · simp only [e1]
theorem owns_kept {l : List TypeId} {w w' : World} {base : Nat} {e : TypeId} {size n : Nat} {v : Value} {xs : List Value} (h : w.ownsRow base e size v n xs) (hk : Kept l w w') (he : e ∈ l) : w'.ownsRow base e size v n xs :=
  ⟨h.1, h.2.imp id fun ⟨g, cap, cur, h1, h2, h3, h4⟩ => ⟨g, cap, cur, h1, h2, (hk.2 g _ _ _ h3 he).trans h3, h4⟩⟩
set_option maxHeartbeats 4000000 in
set_option maxRecDepth 100000 in
theorem told5_any (Aw Af : Option Addr) (cw cf : Nat) (t : Qt) (f : Fact) (w : World) (hf : t.Fits) (hT : QAt w Aw Af t) :
    Calls Tryz.prog 7 #[.agg #[.int .i64 t.wells, .slice Aw t.nw cw, .slice Af t.nf cf], .agg #[.int .i64 f.from_, .int .i64 f.many, .int .i64 f.to_, .int .i64 f.low, .int .i64 f.high]] w fun e w' => CopyOut w' w.heap.size (t.add f) e ∧ Below w.heap.size w w' := by
  have hb2 := bAlloc (bAlloc (bAlloc (Below.refl w.heap.size w) (.cells #[.int .i64 t.wells, .slice Aw t.nw cw, .slice Af t.nf cf] 25)) (.cells #[.int .i64 f.from_, .int .i64 f.many, .int .i64 f.to_, .int .i64 f.low, .int .i64 f.high] 27)) (.cells #[.int .i64 0, .slice none 0 0, .slice none 0 0] 25)
  have HT := Lib.hid (hT.mono hb2)
  have HB := Lib.hid hb2
  have HF := Lib.hid hf
  have HTR := Lib.hid (TBox.new ((w.alloc (.cells #[.int .i64 t.wells, .slice Aw t.nw cw, .slice Af t.nf cf] 25)).alloc (.cells #[.int .i64 f.from_, .int .i64 f.many, .int .i64 f.to_, .int .i64 f.low, .int .i64 f.high] 27)) #[.int .i64 0, .slice none 0 0, .slice none 0 0] 25)
  clear hT hb2 hf
  obtain ⟨i0, hi, iz0, iz1, iz2⟩ := info_parts infoFact
  go_enter Tryz.func7, Tryz.ntmps7
  go_wp2_with fail
  refine (copy5_any _ _ _ _ t _ HF.out HT.out).mono ?_
  rintro e w1 ⟨⟨vW, vF, rfl, hc⟩, hb1⟩
  obtain ⟨A1, c1, A2, c2, rfl, rfl, _⟩ := hc.qat
  have HC := Lib.hid hc
  have HB1 := Lib.hid hb1
  obtain ⟨bc1, bf1⟩ := bcell hb1
  have hz1 := hb1.size
  simp only [World.size_alloc] at hz1
  have hy1 : w.heap.size < w1.heap.size := by omega
  have hy2 : w.heap.size + 1 < w1.heap.size := by omega
  have hy3 : w.heap.size + 1 + 1 < w1.heap.size := by omega
  have HX1 := Lib.hid (TBox.new w1 #[.int .i64 t.wells, .slice A1 t.nw c1, .slice A2 t.nf c2] 25)
  have HN := Lib.hid (show (t.nf + 1) * 40 ≤ 140737488355328 by have := HF.out.2.1; omega)
  have hbase := HB1.out.size
  simp only [World.size_alloc] at hbase
  clear hc hb1
  have HO2 := Lib.hid (show ((w1.alloc (.cells #[.int .i64 t.wells, .slice A1 t.nw c1, .slice A2 t.nf c2] 25)).alloc (.cells #[.int .i64 f.from_, .int .i64 f.many, .int .i64 f.to_, .int .i64 f.low, .int .i64 f.high] 27)).ownsRow (w.heap.size + 1 + 1 + 1) 27 5 (.slice A2 t.nf c2) t.nf (factL t.fact t.nf) by
    have := (HC.out.facts.alloc (.cells #[.int .i64 t.wells, .slice A1 t.nw c1, .slice A2 t.nf c2] 25)).alloc (.cells #[.int .i64 f.from_, .int .i64 f.many, .int .i64 f.to_, .int .i64 f.low, .int .i64 f.high] 27)
    simpa using this)
  have HB2 := Lib.hid (show Below (w.heap.size + 1 + 1 + 1) (((w.alloc (.cells #[.int .i64 t.wells, .slice Aw t.nw cw, .slice Af t.nf cf] 25)).alloc (.cells #[.int .i64 f.from_, .int .i64 f.many, .int .i64 f.to_, .int .i64 f.low, .int .i64 f.high] 27)).alloc (.cells #[.int .i64 0, .slice none 0 0, .slice none 0 0] 25)) ((w1.alloc (.cells #[.int .i64 t.wells, .slice A1 t.nw c1, .slice A2 t.nf c2] 25)).alloc (.cells #[.int .i64 f.from_, .int .i64 f.many, .int .i64 f.to_, .int .i64 f.low, .int .i64 f.high] 27)) by
    have := bAlloc (bAlloc HB1.out (.cells #[.int .i64 t.wells, .slice A1 t.nw c1, .slice A2 t.nf c2] 25)) (.cells #[.int .i64 f.from_, .int .i64 f.many, .int .i64 f.to_, .int .i64 f.low, .int .i64 f.high] 27)
    simpa using this)
  go_wp2_with (at_builtin; refine wpList_append_own _ rfl (Operand.tmp 9) (Operand.tmp 11) 23 rfl (w.heap.size + 1 + 1 + 1) 27 i0 (.agg #[.int .i64 0, .int .i64 0, .int .i64 0, .int .i64 0, .int .i64 0]) 5 40 Tryz.underlying23 hi iz0 iz1 iz2 rfl (by decide) _ t.nf (factL t.fact t.nf) rfl HO2.out ⟨w1.heap.size + 1, 0, none⟩ 1 1 [.int .i64 f.from_, .int .i64 f.many, .int .i64 f.to_, .int .i64 f.low, .int .i64 f.high] rfl rfl ?c1 ?c2 ?c3 HN.out ?c4 ?_)
  case c1 =>
    intro j u hj
    have hc := cell_of_row _ (w1.heap.size + 1) j _ _ _ (show ((w1.alloc (.cells #[.int .i64 t.wells, .slice A1 t.nw c1, .slice A2 t.nf c2] 25)).alloc (.cells #[.int .i64 f.from_, .int .i64 f.many, .int .i64 f.to_, .int .i64 f.low, .int .i64 f.high] 27)).heap[w1.heap.size + 1]? = some (Obj.cells #[.int .i64 f.from_, .int .i64 f.many, .int .i64 f.to_, .int .i64 f.low, .int .i64 f.high] 27 (0, 0)) by have := heap_alloc_new (w1.alloc (.cells #[.int .i64 t.wells, .slice A1 t.nw c1, .slice A2 t.nf c2] 25)) (.cells #[.int .i64 f.from_, .int .i64 f.many, .int .i64 f.to_, .int .i64 f.low, .int .i64 f.high] 27); simpa using this)
    rw [show (⟨w1.heap.size + 1, 0, none⟩ : Addr).add j = ⟨w1.heap.size + 1, j, none⟩ from by unfold Addr.add; split <;> simp_all, hc]
    simpa using hj
  case c2 =>
    intro u hu
    simp only [List.mem_cons, List.not_mem_nil, or_false] at hu
    rcases hu with rfl | rfl | rfl | rfl | rfl <;> rfl
  case c3 => unfold maxLen; have := HN.out; omega
  case c4 => simp <;> omega
  intro v' w4 hown4 hg4 _
  obtain ⟨A4, c4, rfl, _⟩ := RowK.own hown4
  have hnb : some w1.heap.size ≠ (Value.slice A2 t.nf c2).ownBlock := fun e => by have := HC.out.facts.lt _ e.symm; omega
  have HX4 := Lib.hid ((HX1.out.mono (bAlloc (Below.refl _ _) (.cells #[.int .i64 f.from_, .int .i64 f.many, .int .i64 f.to_, .int .i64 f.low, .int .i64 f.high] 27))).grown hg4 hnb)
  have hB4 : Below (w.heap.size + 1 + 1 + 1) (((w.alloc (.cells #[.int .i64 t.wells, .slice Aw t.nw cw, .slice Af t.nf cf] 25)).alloc (.cells #[.int .i64 f.from_, .int .i64 f.many, .int .i64 f.to_, .int .i64 f.low, .int .i64 f.high] 27)).alloc (.cells #[.int .i64 0, .slice none 0 0, .slice none 0 0] 25)) w4 := HB2.out.grown hg4 (by simp <;> omega) (fun k hk => (HO2.out.lt k hk).1)
  have HB4 := Lib.hid hB4
  have hTR : TBox w4 (w.heap.size + 1 + 1) 25 #[.int .i64 0, .slice none 0 0, .slice none 0 0] := (hB4.block (w.heap.size + 1 + 1) (by omega)).trans (by have := HTR.out; simpa [TBox] using this)
  have HTR4 := Lib.hid hTR
  have hk4 : Kept [3, 34, 101] ((w1.alloc (.cells #[.int .i64 t.wells, .slice A1 t.nw c1, .slice A2 t.nf c2] 25)).alloc (.cells #[.int .i64 f.from_, .int .i64 f.many, .int .i64 f.to_, .int .i64 f.low, .int .i64 f.high] 27)) w4 := Kept.of_own hg4 HO2.out (by decide)
  have HK4 := Lib.hid hk4
  have HG4 := Lib.hid hg4
  have HO4 := Lib.hid hown4
  have hlt4 : w1.heap.size < w4.heap.size := HX4.out.lt
  have r0 : w4.cell? ⟨w1.heap.size, 0, none⟩ = some (.int .i64 t.wells) := HX4.out.cell 0
  have r1 : w4.cell? ⟨w1.heap.size, 1, none⟩ = some (.slice A1 t.nw c1) := HX4.out.cell 1
  have r2 : w4.cell? ⟨w1.heap.size, 2, none⟩ = some (.slice A2 t.nf c2) := HX4.out.cell 2
  have r3 := HX4.out.frozen 2
  have s0 : w4.cell? ⟨w.heap.size + 1 + 1, 0, none⟩ = some (.int .i64 0) := hTR.cell 0
  have s1 : w4.cell? ⟨w.heap.size + 1 + 1, 1, none⟩ = some (.slice none 0 0) := hTR.cell 1
  have s2 : w4.cell? ⟨w.heap.size + 1 + 1, 2, none⟩ = some (.slice none 0 0) := hTR.cell 2
  have t0 := hTR.frozen 0
  have t1 := hTR.frozen 1
  have t2 := hTR.frozen 2
  have hy4 : w.heap.size + 1 + 1 < w4.heap.size := hTR.lt
  clear hTR hown4 hg4 hnb hB4 hk4 bc1 bf1
  go_wp2_with fail
  have hne : w1.heap.size ≠ w.heap.size + 1 + 1 := by omega
  have R5 := HTR4.out.other hne 2 (.slice A4 (t.nf + 1) c4)
  have R6 := R5.set 0 (.int .i64 t.wells)
  have R7 := R6.set 1 (.slice A1 t.nw c1)
  have hkS := (((Kept.set (l := [3, 34, 101]) HX4.out (by decide) 2 (.slice A4 (t.nf + 1) c4)).trans (Kept.set R5 (by decide) 0 (.int .i64 t.wells))).trans (Kept.set R6 (by decide) 1 (.slice A1 t.nw c1))).trans (Kept.set R7 (by decide) 2 (.slice A4 (t.nf + 1) c4))
  obtain ⟨us, hu1, hu2⟩ := HC.out.worlds
  have hk0 : Kept [3, 34, 101] w1 _ := ((Kept.of_below (bAlloc (bAlloc (Below.refl w1.heap.size w1) (.cells #[.int .i64 t.wells, .slice A1 t.nw c1, .slice A2 t.nf c2] 25)) (.cells #[.int .i64 f.from_, .int .i64 f.many, .int .i64 f.to_, .int .i64 f.low, .int .i64 f.high] 27))).trans HK4.out).trans hkS
  refine bodyPost_ret (v := .agg #[.int .i64 t.wells, .slice A1 t.nw c1, .slice A4 (t.nf + 1) c4]) (by simp [results, Tryz.results7, go_sem, *]) rfl ⟨⟨_, _, rfl, ⟨us, ?_, hu2.kept hk0 (by simp) (by simp)⟩, ?_⟩, ?_⟩
  · exact owns_lower (owns_kept hu1 hk0 (by simp)) (by simp <;> omega)
  · show World.ownsRow _ w.heap.size 27 5 (.slice A4 (t.nf + 1) c4) (t.nf + 1) (factL (t.add f).fact (t.nf + 1))
    rw [factL_snoc]
    exact owns_lower (owns_setT (owns_setT (owns_setT (owns_setT HO4.out HX4.out (by decide) 2 _) R5 (by decide) 0 _) R6 (by decide) 1 _) R7 (by decide) 2 _) (by omega)
  · have h0 : Below w.heap.size w w4 := bTrans HB.out (by have := HB4.out; simpa using this)
    exact Below.setCell (p := ⟨w.heap.size + 1 + 1, 2, none⟩) (Below.setCell (p := ⟨w.heap.size + 1 + 1, 1, none⟩) (Below.setCell (p := ⟨w.heap.size + 1 + 1, 0, none⟩) (Below.setCell (p := ⟨w1.heap.size, 2, none⟩) h0 (by show w.heap.size ≤ w1.heap.size; omega) _) (by show w.heap.size ≤ w.heap.size + 1 + 1; omega) _) (by show w.heap.size ≤ w.heap.size + 1 + 1; omega) _) (by show w.heap.size ≤ w.heap.size + 1 + 1; omega) _
end Go.Proofs.YthnojgdckkdcgaaGreatDoor

namespace Go.Proofs.YthnojgdckkdcgaaGreatDoor
open Go.RowKit Go.Sort
def exWd (i : Nat) : Wd := ⟨2, fun _ => 2, fun k j => if k = 0 then (if j = 0 then 3 else if i = 1 then 2 else 1) else (if j = 0 then (if i = 0 then 0 else if i = 1 then 1 else 2) else 2)⟩
def exG : Qt := ⟨2, 3, exWd, 0, fun _ => ⟨0, 0, 0, 0, 0⟩⟩
def exF : Fact := ⟨0, 2, 1, 2, 3⟩
def exE : Qt := exG.add exF
theorem exWd_ok (i : Nat) : (exWd i).Ok 2 :=
  ⟨rfl, fun _ _ => rfl, fun k _ j _ => by
    unfold exWd
    simp only
    repeat' split
    all_goals omega⟩
theorem exG_ok : exG.Ok := ⟨by decide, by decide, by decide, by decide, fun i _ => exWd_ok i, fun i hi => absurd hi (Nat.not_lt_zero _)⟩
theorem exG_left : exG.leftL = [0, 1, 2] := by decide +kernel
theorem exG_know : exG.knowErr true = 0 := knowErr_ok exG_ok (by rw [exG_left]; decide)
theorem exG_fits : exG.Fits := ⟨by decide, by decide, fun i _ => ⟨by show 2 * 24 ≤ _; decide, fun k _ => by show 2 * 8 ≤ _; decide⟩⟩
theorem ex_fewest : exG.fewest exG.leftL = [(1, 0)] := by decide +kernel
theorem ints2 {w : World} {b : Nat} {g : Nat → Int} (hl : b < w.heap.size) (h0 : w.cell? ⟨b, 0, none⟩ = some (.int .i64 (g 0))) (h1 : w.cell? ⟨b, 1, none⟩ = some (.int .i64 (g 1))) : IntsAt w (some ⟨b, 0, none⟩) 2 g :=
  .inr ⟨b, 0, rfl, hl, fun i hi => match i, hi with
    | 0, _ => h0
    | 1, _ => h1
    | n + 2, hi => absurd hi (by omega)⟩
theorem rows2 {w : World} {b b0 b1 : Nat} (i : Nat) (hl : b < w.heap.size) (h0 : w.cell? ⟨b, 0, none⟩ = some (.slice (some ⟨b0, 0, none⟩) 2 2)) (h1 : w.cell? ⟨b, 1, none⟩ = some (.slice (some ⟨b1, 0, none⟩) 2 2)) (i0 : IntsAt w (some ⟨b0, 0, none⟩) 2 ((exWd i).fall 0)) (i1 : IntsAt w (some ⟨b1, 0, none⟩) 2 ((exWd i).fall 1)) : RowsAt w (some ⟨b, 0, none⟩) (exWd i) :=
  .inr ⟨b, 0, rfl, hl, fun k hk => match k, hk with
    | 0, _ => ⟨_, 2, h0, i0, by show (2 : Nat) ≤ _; decide⟩
    | 1, _ => ⟨_, 2, h1, i1, by show (2 : Nat) ≤ _; decide⟩
    | n + 2, hk => absurd hk (by show ¬ n + 2 < 2; omega)⟩
theorem worlds3 {w : World} {b b0 b1 b2 : Nat} (hl : b < w.heap.size) (h0 : w.cell? ⟨b, 0, none⟩ = some (.slice (some ⟨b0, 0, none⟩) 2 2)) (h1 : w.cell? ⟨b, 1, none⟩ = some (.slice (some ⟨b1, 0, none⟩) 2 2)) (h2 : w.cell? ⟨b, 2, none⟩ = some (.slice (some ⟨b2, 0, none⟩) 2 2)) (r0 : RowsAt w (some ⟨b0, 0, none⟩) (exWd 0)) (r1 : RowsAt w (some ⟨b1, 0, none⟩) (exWd 1)) (r2 : RowsAt w (some ⟨b2, 0, none⟩) (exWd 2)) : QAt w (some ⟨b, 0, none⟩) none exG :=
  ⟨.inr ⟨b, 0, rfl, hl, fun i hi => match i, hi with
    | 0, _ => ⟨_, 2, h0, r0, by show (2 : Nat) ≤ _; decide⟩
    | 1, _ => ⟨_, 2, h1, r1, by show (2 : Nat) ≤ _; decide⟩
    | 2, _ => ⟨_, 2, h2, r2, by show (2 : Nat) ≤ _; decide⟩
    | n + 3, hi => absurd hi (by show ¬ n + 3 < 3; omega)⟩, .inl rfl⟩
set_option maxHeartbeats 4000000 in
theorem exG_at (w : World) : ∀ w' : World, (∀ b, w.heap.size + 2 ≤ b → b < ((((((((((((w.alloc (.cells #[.int .i64 0, .slice none 0 0, .slice none 0 0] 25)).alloc (.cells #[.int .i64 2, .slice (some ⟨w.heap.size + 1 + 1 + 1 + 1 + 1 + 1 + 1 + 1 + 1 + 1 + 1, 0, none⟩) 3 3, .slice none 0 0] 25)).alloc (.cells #[.int .i64 3, .int .i64 1] 3)).alloc (.cells #[.int .i64 0, .int .i64 2] 3)).alloc (.cells #[.slice (some ⟨w.heap.size + 1 + 1, 0, none⟩) 2 2, .slice (some ⟨w.heap.size + 1 + 1 + 1, 0, none⟩) 2 2] 34)).alloc (.cells #[.int .i64 3, .int .i64 2] 3)).alloc (.cells #[.int .i64 1, .int .i64 2] 3)).alloc (.cells #[.slice (some ⟨w.heap.size + 1 + 1 + 1 + 1 + 1, 0, none⟩) 2 2, .slice (some ⟨w.heap.size + 1 + 1 + 1 + 1 + 1 + 1, 0, none⟩) 2 2] 34)).alloc (.cells #[.int .i64 3, .int .i64 1] 3)).alloc (.cells #[.int .i64 2, .int .i64 2] 3)).alloc (.cells #[.slice (some ⟨w.heap.size + 1 + 1 + 1 + 1 + 1 + 1 + 1 + 1, 0, none⟩) 2 2, .slice (some ⟨w.heap.size + 1 + 1 + 1 + 1 + 1 + 1 + 1 + 1 + 1, 0, none⟩) 2 2] 34)).alloc (.cells #[.slice (some ⟨w.heap.size + 1 + 1 + 1 + 1, 0, none⟩) 2 2, .slice (some ⟨w.heap.size + 1 + 1 + 1 + 1 + 1 + 1 + 1, 0, none⟩) 2 2, .slice (some ⟨w.heap.size + 1 + 1 + 1 + 1 + 1 + 1 + 1 + 1 + 1 + 1, 0, none⟩) 2 2] 101)).heap.size → w'.heap[b]? = ((((((((((((w.alloc (.cells #[.int .i64 0, .slice none 0 0, .slice none 0 0] 25)).alloc (.cells #[.int .i64 2, .slice (some ⟨w.heap.size + 1 + 1 + 1 + 1 + 1 + 1 + 1 + 1 + 1 + 1 + 1, 0, none⟩) 3 3, .slice none 0 0] 25)).alloc (.cells #[.int .i64 3, .int .i64 1] 3)).alloc (.cells #[.int .i64 0, .int .i64 2] 3)).alloc (.cells #[.slice (some ⟨w.heap.size + 1 + 1, 0, none⟩) 2 2, .slice (some ⟨w.heap.size + 1 + 1 + 1, 0, none⟩) 2 2] 34)).alloc (.cells #[.int .i64 3, .int .i64 2] 3)).alloc (.cells #[.int .i64 1, .int .i64 2] 3)).alloc (.cells #[.slice (some ⟨w.heap.size + 1 + 1 + 1 + 1 + 1, 0, none⟩) 2 2, .slice (some ⟨w.heap.size + 1 + 1 + 1 + 1 + 1 + 1, 0, none⟩) 2 2] 34)).alloc (.cells #[.int .i64 3, .int .i64 1] 3)).alloc (.cells #[.int .i64 2, .int .i64 2] 3)).alloc (.cells #[.slice (some ⟨w.heap.size + 1 + 1 + 1 + 1 + 1 + 1 + 1 + 1, 0, none⟩) 2 2, .slice (some ⟨w.heap.size + 1 + 1 + 1 + 1 + 1 + 1 + 1 + 1 + 1, 0, none⟩) 2 2] 34)).alloc (.cells #[.slice (some ⟨w.heap.size + 1 + 1 + 1 + 1, 0, none⟩) 2 2, .slice (some ⟨w.heap.size + 1 + 1 + 1 + 1 + 1 + 1 + 1, 0, none⟩) 2 2, .slice (some ⟨w.heap.size + 1 + 1 + 1 + 1 + 1 + 1 + 1 + 1 + 1 + 1, 0, none⟩) 2 2] 101)).heap[b]?) → ((((((((((((w.alloc (.cells #[.int .i64 0, .slice none 0 0, .slice none 0 0] 25)).alloc (.cells #[.int .i64 2, .slice (some ⟨w.heap.size + 1 + 1 + 1 + 1 + 1 + 1 + 1 + 1 + 1 + 1 + 1, 0, none⟩) 3 3, .slice none 0 0] 25)).alloc (.cells #[.int .i64 3, .int .i64 1] 3)).alloc (.cells #[.int .i64 0, .int .i64 2] 3)).alloc (.cells #[.slice (some ⟨w.heap.size + 1 + 1, 0, none⟩) 2 2, .slice (some ⟨w.heap.size + 1 + 1 + 1, 0, none⟩) 2 2] 34)).alloc (.cells #[.int .i64 3, .int .i64 2] 3)).alloc (.cells #[.int .i64 1, .int .i64 2] 3)).alloc (.cells #[.slice (some ⟨w.heap.size + 1 + 1 + 1 + 1 + 1, 0, none⟩) 2 2, .slice (some ⟨w.heap.size + 1 + 1 + 1 + 1 + 1 + 1, 0, none⟩) 2 2] 34)).alloc (.cells #[.int .i64 3, .int .i64 1] 3)).alloc (.cells #[.int .i64 2, .int .i64 2] 3)).alloc (.cells #[.slice (some ⟨w.heap.size + 1 + 1 + 1 + 1 + 1 + 1 + 1 + 1, 0, none⟩) 2 2, .slice (some ⟨w.heap.size + 1 + 1 + 1 + 1 + 1 + 1 + 1 + 1 + 1, 0, none⟩) 2 2] 34)).alloc (.cells #[.slice (some ⟨w.heap.size + 1 + 1 + 1 + 1, 0, none⟩) 2 2, .slice (some ⟨w.heap.size + 1 + 1 + 1 + 1 + 1 + 1 + 1, 0, none⟩) 2 2, .slice (some ⟨w.heap.size + 1 + 1 + 1 + 1 + 1 + 1 + 1 + 1 + 1 + 1, 0, none⟩) 2 2] 101)).heap.size ≤ w'.heap.size → QAt w' (some ⟨w.heap.size + 1 + 1 + 1 + 1 + 1 + 1 + 1 + 1 + 1 + 1 + 1, 0, none⟩) none exG := by
  intro w' hk hs
  simp only [World.size_alloc] at hs
  have c2_0 : w'.cell? ⟨w.heap.size + 1 + 1, 0, none⟩ = some (.int .i64 3) := (cell_of_heap (hk (w.heap.size + 1 + 1) (by omega) (by simp <;> omega)) 0).trans (by simp [go_sem])
  have c2_1 : w'.cell? ⟨w.heap.size + 1 + 1, 1, none⟩ = some (.int .i64 1) := (cell_of_heap (hk (w.heap.size + 1 + 1) (by omega) (by simp <;> omega)) 1).trans (by simp [go_sem])
  have c3_0 : w'.cell? ⟨w.heap.size + 1 + 1 + 1, 0, none⟩ = some (.int .i64 0) := (cell_of_heap (hk (w.heap.size + 1 + 1 + 1) (by omega) (by simp <;> omega)) 0).trans (by simp [go_sem])
  have c3_1 : w'.cell? ⟨w.heap.size + 1 + 1 + 1, 1, none⟩ = some (.int .i64 2) := (cell_of_heap (hk (w.heap.size + 1 + 1 + 1) (by omega) (by simp <;> omega)) 1).trans (by simp [go_sem])
  have c4_0 : w'.cell? ⟨w.heap.size + 1 + 1 + 1 + 1, 0, none⟩ = some (.slice (some ⟨w.heap.size + 1 + 1, 0, none⟩) 2 2) := (cell_of_heap (hk (w.heap.size + 1 + 1 + 1 + 1) (by omega) (by simp <;> omega)) 0).trans (by simp [go_sem])
  have c4_1 : w'.cell? ⟨w.heap.size + 1 + 1 + 1 + 1, 1, none⟩ = some (.slice (some ⟨w.heap.size + 1 + 1 + 1, 0, none⟩) 2 2) := (cell_of_heap (hk (w.heap.size + 1 + 1 + 1 + 1) (by omega) (by simp <;> omega)) 1).trans (by simp [go_sem])
  have c5_0 : w'.cell? ⟨w.heap.size + 1 + 1 + 1 + 1 + 1, 0, none⟩ = some (.int .i64 3) := (cell_of_heap (hk (w.heap.size + 1 + 1 + 1 + 1 + 1) (by omega) (by simp <;> omega)) 0).trans (by simp [go_sem])
  have c5_1 : w'.cell? ⟨w.heap.size + 1 + 1 + 1 + 1 + 1, 1, none⟩ = some (.int .i64 2) := (cell_of_heap (hk (w.heap.size + 1 + 1 + 1 + 1 + 1) (by omega) (by simp <;> omega)) 1).trans (by simp [go_sem])
  have c6_0 : w'.cell? ⟨w.heap.size + 1 + 1 + 1 + 1 + 1 + 1, 0, none⟩ = some (.int .i64 1) := (cell_of_heap (hk (w.heap.size + 1 + 1 + 1 + 1 + 1 + 1) (by omega) (by simp <;> omega)) 0).trans (by simp [go_sem])
  have c6_1 : w'.cell? ⟨w.heap.size + 1 + 1 + 1 + 1 + 1 + 1, 1, none⟩ = some (.int .i64 2) := (cell_of_heap (hk (w.heap.size + 1 + 1 + 1 + 1 + 1 + 1) (by omega) (by simp <;> omega)) 1).trans (by simp [go_sem])
  have c7_0 : w'.cell? ⟨w.heap.size + 1 + 1 + 1 + 1 + 1 + 1 + 1, 0, none⟩ = some (.slice (some ⟨w.heap.size + 1 + 1 + 1 + 1 + 1, 0, none⟩) 2 2) := (cell_of_heap (hk (w.heap.size + 1 + 1 + 1 + 1 + 1 + 1 + 1) (by omega) (by simp <;> omega)) 0).trans (by simp [go_sem])
  have c7_1 : w'.cell? ⟨w.heap.size + 1 + 1 + 1 + 1 + 1 + 1 + 1, 1, none⟩ = some (.slice (some ⟨w.heap.size + 1 + 1 + 1 + 1 + 1 + 1, 0, none⟩) 2 2) := (cell_of_heap (hk (w.heap.size + 1 + 1 + 1 + 1 + 1 + 1 + 1) (by omega) (by simp <;> omega)) 1).trans (by simp [go_sem])
  have c8_0 : w'.cell? ⟨w.heap.size + 1 + 1 + 1 + 1 + 1 + 1 + 1 + 1, 0, none⟩ = some (.int .i64 3) := (cell_of_heap (hk (w.heap.size + 1 + 1 + 1 + 1 + 1 + 1 + 1 + 1) (by omega) (by simp <;> omega)) 0).trans (by simp [go_sem])
  have c8_1 : w'.cell? ⟨w.heap.size + 1 + 1 + 1 + 1 + 1 + 1 + 1 + 1, 1, none⟩ = some (.int .i64 1) := (cell_of_heap (hk (w.heap.size + 1 + 1 + 1 + 1 + 1 + 1 + 1 + 1) (by omega) (by simp <;> omega)) 1).trans (by simp [go_sem])
  have c9_0 : w'.cell? ⟨w.heap.size + 1 + 1 + 1 + 1 + 1 + 1 + 1 + 1 + 1, 0, none⟩ = some (.int .i64 2) := (cell_of_heap (hk (w.heap.size + 1 + 1 + 1 + 1 + 1 + 1 + 1 + 1 + 1) (by omega) (by simp <;> omega)) 0).trans (by simp [go_sem])
  have c9_1 : w'.cell? ⟨w.heap.size + 1 + 1 + 1 + 1 + 1 + 1 + 1 + 1 + 1, 1, none⟩ = some (.int .i64 2) := (cell_of_heap (hk (w.heap.size + 1 + 1 + 1 + 1 + 1 + 1 + 1 + 1 + 1) (by omega) (by simp <;> omega)) 1).trans (by simp [go_sem])
  have c10_0 : w'.cell? ⟨w.heap.size + 1 + 1 + 1 + 1 + 1 + 1 + 1 + 1 + 1 + 1, 0, none⟩ = some (.slice (some ⟨w.heap.size + 1 + 1 + 1 + 1 + 1 + 1 + 1 + 1, 0, none⟩) 2 2) := (cell_of_heap (hk (w.heap.size + 1 + 1 + 1 + 1 + 1 + 1 + 1 + 1 + 1 + 1) (by omega) (by simp <;> omega)) 0).trans (by simp [go_sem])
  have c10_1 : w'.cell? ⟨w.heap.size + 1 + 1 + 1 + 1 + 1 + 1 + 1 + 1 + 1 + 1, 1, none⟩ = some (.slice (some ⟨w.heap.size + 1 + 1 + 1 + 1 + 1 + 1 + 1 + 1 + 1, 0, none⟩) 2 2) := (cell_of_heap (hk (w.heap.size + 1 + 1 + 1 + 1 + 1 + 1 + 1 + 1 + 1 + 1) (by omega) (by simp <;> omega)) 1).trans (by simp [go_sem])
  have c11_0 : w'.cell? ⟨w.heap.size + 1 + 1 + 1 + 1 + 1 + 1 + 1 + 1 + 1 + 1 + 1, 0, none⟩ = some (.slice (some ⟨w.heap.size + 1 + 1 + 1 + 1, 0, none⟩) 2 2) := (cell_of_heap (hk (w.heap.size + 1 + 1 + 1 + 1 + 1 + 1 + 1 + 1 + 1 + 1 + 1) (by omega) (by simp <;> omega)) 0).trans (by simp [go_sem])
  have c11_1 : w'.cell? ⟨w.heap.size + 1 + 1 + 1 + 1 + 1 + 1 + 1 + 1 + 1 + 1 + 1, 1, none⟩ = some (.slice (some ⟨w.heap.size + 1 + 1 + 1 + 1 + 1 + 1 + 1, 0, none⟩) 2 2) := (cell_of_heap (hk (w.heap.size + 1 + 1 + 1 + 1 + 1 + 1 + 1 + 1 + 1 + 1 + 1) (by omega) (by simp <;> omega)) 1).trans (by simp [go_sem])
  have c11_2 : w'.cell? ⟨w.heap.size + 1 + 1 + 1 + 1 + 1 + 1 + 1 + 1 + 1 + 1 + 1, 2, none⟩ = some (.slice (some ⟨w.heap.size + 1 + 1 + 1 + 1 + 1 + 1 + 1 + 1 + 1 + 1, 0, none⟩) 2 2) := (cell_of_heap (hk (w.heap.size + 1 + 1 + 1 + 1 + 1 + 1 + 1 + 1 + 1 + 1 + 1) (by omega) (by simp <;> omega)) 2).trans (by simp [go_sem])
  have l2 : w.heap.size + 1 + 1 < w'.heap.size := by omega
  have l3 : w.heap.size + 1 + 1 + 1 < w'.heap.size := by omega
  have l4 : w.heap.size + 1 + 1 + 1 + 1 < w'.heap.size := by omega
  have l5 : w.heap.size + 1 + 1 + 1 + 1 + 1 < w'.heap.size := by omega
  have l6 : w.heap.size + 1 + 1 + 1 + 1 + 1 + 1 < w'.heap.size := by omega
  have l7 : w.heap.size + 1 + 1 + 1 + 1 + 1 + 1 + 1 < w'.heap.size := by omega
  have l8 : w.heap.size + 1 + 1 + 1 + 1 + 1 + 1 + 1 + 1 < w'.heap.size := by omega
  have l9 : w.heap.size + 1 + 1 + 1 + 1 + 1 + 1 + 1 + 1 + 1 < w'.heap.size := by omega
  have l10 : w.heap.size + 1 + 1 + 1 + 1 + 1 + 1 + 1 + 1 + 1 + 1 < w'.heap.size := by omega
  have l11 : w.heap.size + 1 + 1 + 1 + 1 + 1 + 1 + 1 + 1 + 1 + 1 + 1 < w'.heap.size := by omega
  exact worlds3 l11 c11_0 c11_1 c11_2 (rows2 0 l4 c4_0 c4_1 (ints2 l2 c2_0 c2_1) (ints2 l3 c3_0 c3_1)) (rows2 1 l7 c7_0 c7_1 (ints2 l5 c5_0 c5_1) (ints2 l6 c6_0 c6_1)) (rows2 2 l10 c10_0 c10_1 (ints2 l8 c8_0 c8_1) (ints2 l9 c9_0 c9_1))
/-- a town of the call's own, as a value -/
def twcS (m : Int) (n k : Nat) (v : Value) : Prop := ∃ (Aw : Option Addr) (cw : Nat) (Af : Option Addr) (cf : Nat), v = .agg #[.int .i64 m, .slice Aw n cw, .slice Af k cf]
def twcR (N : Nat) (t : Qt) (w : World) (v : Value) : Prop := ∀ vW vF, v = .agg #[.int .i64 t.wells, vW, vF] → CopyAt w N vW vF t
theorem twcG {N : Nat} {t : Qt} {m : Int} {n k : Nat} : (Stir.held (twcS m n k) (twcR N t)).good := ⟨⟨_, none, 0, none, 0, rfl⟩, fun _ _ _ hb h vW vF e => (h vW vF e).mono hb⟩
theorem CopyAt.kept {l : List TypeId} {w w' : World} {base : Nat} {vW vF : Value} {t : Qt} (h : CopyAt w base vW vF t) (hk : Kept l w w') (h1 : 3 ∈ l) (h2 : 34 ∈ l) (h3 : 101 ∈ l) (h4 : 27 ∈ l) : CopyAt w' base vW vF t := by
  obtain ⟨⟨us, a, b⟩, c⟩ := h
  exact ⟨⟨us, owns_kept a hk h3, b.kept hk h1 h2⟩, owns_kept c hk h4⟩
theorem CopyOut.twc {w : World} {base N : Nat} {t : Qt} {e : Ending} (h : CopyOut w base t e) (hN : N ≤ base) : ∃ v, e = .returned v ∧ twcS t.wells t.nw t.nf v ∧ twcR N t w v := by
  obtain ⟨vW, vF, rfl, hc⟩ := h
  obtain ⟨Aw, cw, Af, cf, e1, e2, _⟩ := hc.qat
  refine ⟨_, rfl, ⟨Aw, cw, Af, cf, by rw [e1, e2]⟩, fun vW' vF' e => ?_⟩
  simp only [Value.agg.injEq, Array.mk.injEq, List.cons.injEq, and_true, true_and] at e
  obtain ⟨rfl, rfl⟩ := e
  exact hc.lower hN
def ExOut (w : World) (e : Ending) : Prop := ∃ (Aw : Option Addr) (cw : Nat) (Af : Option Addr) (cf : Nat) (Bw : Option Addr) (dw : Nat), e = .returned (.tuple #[.agg #[.int .i64 2, .slice Aw 3 cw, .slice Af 1 cf], .agg #[.int .i64 2, .slice Bw 3 dw, .slice none 0 0]]) ∧ QAt w Aw Af exE ∧ QAt w Bw none exG
set_option maxHeartbeats 4000000 in
set_option maxRecDepth 100000 in
theorem example5_any (w : World) : Calls Tryz.prog 55 #[] w fun e w' => ExOut w' e ∧ Below w.heap.size w w' := by
  go_enter Tryz.func55, Tryz.ntmps55
  go_wp2_with fail
  have hQ := exG_at w
  have hB : Below w.heap.size w ((((((((((((w.alloc (.cells #[.int .i64 0, .slice none 0 0, .slice none 0 0] 25)).alloc (.cells #[.int .i64 2, .slice (some ⟨w.heap.size + 1 + 1 + 1 + 1 + 1 + 1 + 1 + 1 + 1 + 1 + 1, 0, none⟩) 3 3, .slice none 0 0] 25)).alloc (.cells #[.int .i64 3, .int .i64 1] 3)).alloc (.cells #[.int .i64 0, .int .i64 2] 3)).alloc (.cells #[.slice (some ⟨w.heap.size + 1 + 1, 0, none⟩) 2 2, .slice (some ⟨w.heap.size + 1 + 1 + 1, 0, none⟩) 2 2] 34)).alloc (.cells #[.int .i64 3, .int .i64 2] 3)).alloc (.cells #[.int .i64 1, .int .i64 2] 3)).alloc (.cells #[.slice (some ⟨w.heap.size + 1 + 1 + 1 + 1 + 1, 0, none⟩) 2 2, .slice (some ⟨w.heap.size + 1 + 1 + 1 + 1 + 1 + 1, 0, none⟩) 2 2] 34)).alloc (.cells #[.int .i64 3, .int .i64 1] 3)).alloc (.cells #[.int .i64 2, .int .i64 2] 3)).alloc (.cells #[.slice (some ⟨w.heap.size + 1 + 1 + 1 + 1 + 1 + 1 + 1 + 1, 0, none⟩) 2 2, .slice (some ⟨w.heap.size + 1 + 1 + 1 + 1 + 1 + 1 + 1 + 1 + 1, 0, none⟩) 2 2] 34)).alloc (.cells #[.slice (some ⟨w.heap.size + 1 + 1 + 1 + 1, 0, none⟩) 2 2, .slice (some ⟨w.heap.size + 1 + 1 + 1 + 1 + 1 + 1 + 1, 0, none⟩) 2 2, .slice (some ⟨w.heap.size + 1 + 1 + 1 + 1 + 1 + 1 + 1 + 1 + 1 + 1, 0, none⟩) 2 2] 101)) := by (repeat (first | (with_reducible exact Below.refl _ _) | (with_reducible refine bAlloc ?_ _) | (with_reducible refine bDrew ?_) | (with_reducible refine bGrow ?_ _ _) | (with_reducible refine bSet ?_ ?_ _; (first | exact Nat.le_refl _ | exact Nat.le_add_right _ _ | (simp; omega))) | (with_reducible refine bTrans ?_ (by assumption))))
  have hT0 : TBox ((((((((((((w.alloc (.cells #[.int .i64 0, .slice none 0 0, .slice none 0 0] 25)).alloc (.cells #[.int .i64 2, .slice (some ⟨w.heap.size + 1 + 1 + 1 + 1 + 1 + 1 + 1 + 1 + 1 + 1 + 1, 0, none⟩) 3 3, .slice none 0 0] 25)).alloc (.cells #[.int .i64 3, .int .i64 1] 3)).alloc (.cells #[.int .i64 0, .int .i64 2] 3)).alloc (.cells #[.slice (some ⟨w.heap.size + 1 + 1, 0, none⟩) 2 2, .slice (some ⟨w.heap.size + 1 + 1 + 1, 0, none⟩) 2 2] 34)).alloc (.cells #[.int .i64 3, .int .i64 2] 3)).alloc (.cells #[.int .i64 1, .int .i64 2] 3)).alloc (.cells #[.slice (some ⟨w.heap.size + 1 + 1 + 1 + 1 + 1, 0, none⟩) 2 2, .slice (some ⟨w.heap.size + 1 + 1 + 1 + 1 + 1 + 1, 0, none⟩) 2 2] 34)).alloc (.cells #[.int .i64 3, .int .i64 1] 3)).alloc (.cells #[.int .i64 2, .int .i64 2] 3)).alloc (.cells #[.slice (some ⟨w.heap.size + 1 + 1 + 1 + 1 + 1 + 1 + 1 + 1, 0, none⟩) 2 2, .slice (some ⟨w.heap.size + 1 + 1 + 1 + 1 + 1 + 1 + 1 + 1 + 1, 0, none⟩) 2 2] 34)).alloc (.cells #[.slice (some ⟨w.heap.size + 1 + 1 + 1 + 1, 0, none⟩) 2 2, .slice (some ⟨w.heap.size + 1 + 1 + 1 + 1 + 1 + 1 + 1, 0, none⟩) 2 2, .slice (some ⟨w.heap.size + 1 + 1 + 1 + 1 + 1 + 1 + 1 + 1 + 1 + 1, 0, none⟩) 2 2] 101)) w.heap.size 25 #[.int .i64 0, .slice none 0 0, .slice none 0 0] := TBox.mono (TBox.new w #[.int .i64 0, .slice none 0 0, .slice none 0 0] 25) (by (repeat (first | (with_reducible exact Below.refl _ _) | (with_reducible refine bAlloc ?_ _) | (with_reducible refine bDrew ?_) | (with_reducible refine bGrow ?_ _ _) | (with_reducible refine bSet ?_ ?_ _; (first | exact Nat.le_refl _ | exact Nat.le_add_right _ _ | (simp; omega))) | (with_reducible refine bTrans ?_ (by assumption)))))
  have hT1 : TBox ((((((((((((w.alloc (.cells #[.int .i64 0, .slice none 0 0, .slice none 0 0] 25)).alloc (.cells #[.int .i64 2, .slice (some ⟨w.heap.size + 1 + 1 + 1 + 1 + 1 + 1 + 1 + 1 + 1 + 1 + 1, 0, none⟩) 3 3, .slice none 0 0] 25)).alloc (.cells #[.int .i64 3, .int .i64 1] 3)).alloc (.cells #[.int .i64 0, .int .i64 2] 3)).alloc (.cells #[.slice (some ⟨w.heap.size + 1 + 1, 0, none⟩) 2 2, .slice (some ⟨w.heap.size + 1 + 1 + 1, 0, none⟩) 2 2] 34)).alloc (.cells #[.int .i64 3, .int .i64 2] 3)).alloc (.cells #[.int .i64 1, .int .i64 2] 3)).alloc (.cells #[.slice (some ⟨w.heap.size + 1 + 1 + 1 + 1 + 1, 0, none⟩) 2 2, .slice (some ⟨w.heap.size + 1 + 1 + 1 + 1 + 1 + 1, 0, none⟩) 2 2] 34)).alloc (.cells #[.int .i64 3, .int .i64 1] 3)).alloc (.cells #[.int .i64 2, .int .i64 2] 3)).alloc (.cells #[.slice (some ⟨w.heap.size + 1 + 1 + 1 + 1 + 1 + 1 + 1 + 1, 0, none⟩) 2 2, .slice (some ⟨w.heap.size + 1 + 1 + 1 + 1 + 1 + 1 + 1 + 1 + 1, 0, none⟩) 2 2] 34)).alloc (.cells #[.slice (some ⟨w.heap.size + 1 + 1 + 1 + 1, 0, none⟩) 2 2, .slice (some ⟨w.heap.size + 1 + 1 + 1 + 1 + 1 + 1 + 1, 0, none⟩) 2 2, .slice (some ⟨w.heap.size + 1 + 1 + 1 + 1 + 1 + 1 + 1 + 1 + 1 + 1, 0, none⟩) 2 2] 101)) (w.heap.size + 1) 25 #[.int .i64 2, .slice (some ⟨w.heap.size + 1 + 1 + 1 + 1 + 1 + 1 + 1 + 1 + 1 + 1 + 1, 0, none⟩) 3 3, .slice none 0 0] := by
    have := TBox.mono (TBox.new (w.alloc (.cells #[.int .i64 0, .slice none 0 0, .slice none 0 0] 25)) #[.int .i64 2, .slice (some ⟨w.heap.size + 1 + 1 + 1 + 1 + 1 + 1 + 1 + 1 + 1 + 1 + 1, 0, none⟩) 3 3, .slice none 0 0] 25) (w' := ((((((((((((w.alloc (.cells #[.int .i64 0, .slice none 0 0, .slice none 0 0] 25)).alloc (.cells #[.int .i64 2, .slice (some ⟨w.heap.size + 1 + 1 + 1 + 1 + 1 + 1 + 1 + 1 + 1 + 1 + 1, 0, none⟩) 3 3, .slice none 0 0] 25)).alloc (.cells #[.int .i64 3, .int .i64 1] 3)).alloc (.cells #[.int .i64 0, .int .i64 2] 3)).alloc (.cells #[.slice (some ⟨w.heap.size + 1 + 1, 0, none⟩) 2 2, .slice (some ⟨w.heap.size + 1 + 1 + 1, 0, none⟩) 2 2] 34)).alloc (.cells #[.int .i64 3, .int .i64 2] 3)).alloc (.cells #[.int .i64 1, .int .i64 2] 3)).alloc (.cells #[.slice (some ⟨w.heap.size + 1 + 1 + 1 + 1 + 1, 0, none⟩) 2 2, .slice (some ⟨w.heap.size + 1 + 1 + 1 + 1 + 1 + 1, 0, none⟩) 2 2] 34)).alloc (.cells #[.int .i64 3, .int .i64 1] 3)).alloc (.cells #[.int .i64 2, .int .i64 2] 3)).alloc (.cells #[.slice (some ⟨w.heap.size + 1 + 1 + 1 + 1 + 1 + 1 + 1 + 1, 0, none⟩) 2 2, .slice (some ⟨w.heap.size + 1 + 1 + 1 + 1 + 1 + 1 + 1 + 1 + 1, 0, none⟩) 2 2] 34)).alloc (.cells #[.slice (some ⟨w.heap.size + 1 + 1 + 1 + 1, 0, none⟩) 2 2, .slice (some ⟨w.heap.size + 1 + 1 + 1 + 1 + 1 + 1 + 1, 0, none⟩) 2 2, .slice (some ⟨w.heap.size + 1 + 1 + 1 + 1 + 1 + 1 + 1 + 1 + 1 + 1, 0, none⟩) 2 2] 101))) (by (repeat (first | (with_reducible exact Below.refl _ _) | (with_reducible refine bAlloc ?_ _) | (with_reducible refine bDrew ?_) | (with_reducible refine bGrow ?_ _ _) | (with_reducible refine bSet ?_ ?_ _; (first | exact Nat.le_refl _ | exact Nat.le_add_right _ _ | (simp; omega))) | (with_reducible refine bTrans ?_ (by assumption)))))
    simpa [TBox] using this
  generalize ((((((((((((w.alloc (.cells #[.int .i64 0, .slice none 0 0, .slice none 0 0] 25)).alloc (.cells #[.int .i64 2, .slice (some ⟨w.heap.size + 1 + 1 + 1 + 1 + 1 + 1 + 1 + 1 + 1 + 1 + 1, 0, none⟩) 3 3, .slice none 0 0] 25)).alloc (.cells #[.int .i64 3, .int .i64 1] 3)).alloc (.cells #[.int .i64 0, .int .i64 2] 3)).alloc (.cells #[.slice (some ⟨w.heap.size + 1 + 1, 0, none⟩) 2 2, .slice (some ⟨w.heap.size + 1 + 1 + 1, 0, none⟩) 2 2] 34)).alloc (.cells #[.int .i64 3, .int .i64 2] 3)).alloc (.cells #[.int .i64 1, .int .i64 2] 3)).alloc (.cells #[.slice (some ⟨w.heap.size + 1 + 1 + 1 + 1 + 1, 0, none⟩) 2 2, .slice (some ⟨w.heap.size + 1 + 1 + 1 + 1 + 1 + 1, 0, none⟩) 2 2] 34)).alloc (.cells #[.int .i64 3, .int .i64 1] 3)).alloc (.cells #[.int .i64 2, .int .i64 2] 3)).alloc (.cells #[.slice (some ⟨w.heap.size + 1 + 1 + 1 + 1 + 1 + 1 + 1 + 1, 0, none⟩) 2 2, .slice (some ⟨w.heap.size + 1 + 1 + 1 + 1 + 1 + 1 + 1 + 1 + 1, 0, none⟩) 2 2] 34)).alloc (.cells #[.slice (some ⟨w.heap.size + 1 + 1 + 1 + 1, 0, none⟩) 2 2, .slice (some ⟨w.heap.size + 1 + 1 + 1 + 1 + 1 + 1 + 1, 0, none⟩) 2 2, .slice (some ⟨w.heap.size + 1 + 1 + 1 + 1 + 1 + 1 + 1 + 1 + 1 + 1, 0, none⟩) 2 2] 101)) = W at *
  generalize w.heap.size + 1 + 1 + 1 + 1 + 1 + 1 + 1 + 1 + 1 + 1 + 1 = B at *
  have HQA := Lib.hid hQ
  have HQ := Lib.hid (hQ W (fun _ _ _ => rfl) (Nat.le_refl _))
  have HB := Lib.hid hB
  have HT0 := Lib.hid hT0
  have HT1 := Lib.hid hT1
  have c10 : W.cell? ⟨w.heap.size + 1, 0, none⟩ = some (.int .i64 2) := hT1.cell 0
  have c11 : W.cell? ⟨w.heap.size + 1, 1, none⟩ = some (.slice (some ⟨B, 0, none⟩) 3 3) := hT1.cell 1
  have c12 : W.cell? ⟨w.heap.size + 1, 2, none⟩ = some (.slice none 0 0) := hT1.cell 2
  have hl1 := hT1.lt
  have HTL := Lib.hid (fun (w' : World) (hb : Below W.heap.size W w') => (told5_any (some ⟨B, 0, none⟩) none 3 0 exG exF w' exG_fits (HQ.out.mono hb) : Calls Tryz.prog 7 #[.agg #[.int .i64 2, .slice (some ⟨B, 0, none⟩) 3 3, .slice none 0 0], .agg #[.int .i64 0, .int .i64 2, .int .i64 1, .int .i64 2, .int .i64 3]] w' fun e w'' => CopyOut w'' w'.heap.size exE e ∧ Below w'.heap.size w' w''))
  clear hQ hB hT0 hT1
  refine wp_region_tardy 4 3 [.const (.agg #[.int .i64 2, .slice (some ⟨B, 0, none⟩) 3 3, .slice none 0 0]), .const (.agg #[.int .i64 0, .int .i64 2, .int .i64 1, .int .i64 2, .int .i64 3]), .held (twcS 2 3 1) (twcR W.heap.size exE), .const (.agg #[.int .i64 2, .slice (some ⟨B, 0, none⟩) 3 3, .slice none 0 0])]
    (.agg #[.int .i64 2, .slice (some ⟨B, 0, none⟩) 3 3, .slice none 0 0]) (by kernel_rfl) (by kernel_rfl) rfl ⟨trivial, trivial, twcG, trivial, trivial⟩ (crossAll_no _ _ _ _ trivial) rfl rfl rfl rfl rfl rfl ?_
  iterate 2 refine wpStir_const (by go_simp) ?_
  simp only [Act.put, List.setIfInBounds_toArray, List.set_cons_succ, List.set_cons_zero]
  refine wpStir_held rfl (fun w' hb hd => ?_) (fun v hv => ?_)
  · clear hd
    go_simp
    refine (HTL.out w' hb).mono ?_
    rintro e w'' ⟨ho, hb'⟩
    obtain ⟨v, rfl, h1, h2⟩ := ho.twc hb.size
    exact ⟨v, rfl, hb', h1, h2⟩
  obtain ⟨Aw, cw, Af, cf, rfl⟩ := hv
  refine wpStir_const (by go_simp) ?_
  simp only [Act.put, List.setIfInBounds_toArray, List.set_cons_succ, List.set_cons_zero]
  refine wpStir_end (fun w5 hb5 hd => ?_)
  have hcp : CopyAt w5 W.heap.size _ _ exE := hd.1 _ _ rfl
  clear hd c10 c11 c12
  have HC := Lib.hid hcp
  have h0 := HT0.out.mono hb5
  have h1 := HT1.out.mono hb5
  have H0 := Lib.hid h0
  have H1 := Lib.hid h1
  have HB5 := Lib.hid (bTrans HB.out hb5)
  have HBW := Lib.hid hb5
  have HZ5 := Lib.hid hb5.size
  have a0 : w5.cell? ⟨w.heap.size, 0, none⟩ = some (.int .i64 0) := h0.cell 0
  have a1 : w5.cell? ⟨w.heap.size, 1, none⟩ = some (.slice none 0 0) := h0.cell 1
  have a2 : w5.cell? ⟨w.heap.size, 2, none⟩ = some (.slice none 0 0) := h0.cell 2
  have b0 : w5.cell? ⟨w.heap.size + 1, 0, none⟩ = some (.int .i64 2) := h1.cell 0
  have b1 : w5.cell? ⟨w.heap.size + 1, 1, none⟩ = some (.slice (some ⟨B, 0, none⟩) 3 3) := h1.cell 1
  have b2 : w5.cell? ⟨w.heap.size + 1, 2, none⟩ = some (.slice none 0 0) := h1.cell 2
  have f0 := h0.frozen 0
  have f1 := h0.frozen 1
  have f2 := h0.frozen 2
  have g0 := h1.frozen 0
  have g1 := h1.frozen 1
  have g2 := h1.frozen 2
  have l1 : w.heap.size + 1 < w5.heap.size := h1.lt
  have l0 : w.heap.size < w5.heap.size := h0.lt
  clear h0 h1 hcp hb5
  obtain ⟨w6, hw6⟩ : ∃ w6, ((w5.setCell ⟨w.heap.size, 0, none⟩ (.int .i64 2)).setCell ⟨w.heap.size, 1, none⟩ (.slice Aw 3 cw)).setCell ⟨w.heap.size, 2, none⟩ (.slice Af 1 cf) = w6 := ⟨_, rfl⟩
  have h0 : TBox w6 w.heap.size 25 #[.int .i64 2, .slice Aw 3 cw, .slice Af 1 cf] := hw6 ▸ ((H0.out.set 0 (.int .i64 2)).set 1 (.slice Aw 3 cw)).set 2 (.slice Af 1 cf)
  have h1 : TBox w6 (w.heap.size + 1) 25 #[.int .i64 2, .slice (some ⟨B, 0, none⟩) 3 3, .slice none 0 0] := hw6 ▸ ((H1.out.other (by omega) 0 (.int .i64 2)).other (by omega) 1 (.slice Aw 3 cw)).other (by omega) 2 (.slice Af 1 cf)
  have k0 : Kept [3, 34, 101, 27] w5 w6 := hw6 ▸ ((Kept.set H0.out (by decide) 0 (.int .i64 2)).trans (Kept.set (H0.out.set 0 (.int .i64 2)) (by decide) 1 (.slice Aw 3 cw))).trans (Kept.set ((H0.out.set 0 (.int .i64 2)).set 1 (.slice Aw 3 cw)) (by decide) 2 (.slice Af 1 cf))
  have hb6 : Below w.heap.size w w6 := hw6 ▸ Below.setCell (p := ⟨w.heap.size, 2, none⟩) (Below.setCell (p := ⟨w.heap.size, 1, none⟩) (Below.setCell (p := ⟨w.heap.size, 0, none⟩) HB5.out (by simp) (.int .i64 2)) (by simp) (.slice Aw 3 cw)) (by simp) (.slice Af 1 cf)
  have HH6 := Lib.hid (show ∀ b, b ≠ w.heap.size → w6.heap[b]? = w5.heap[b]? from fun b hb => by
    rw [← hw6, Below.heap_setCell _ _ _ b hb, Below.heap_setCell _ _ _ b hb, Below.heap_setCell _ _ _ b hb])
  have HW6 := Lib.hid hw6
  have H60 := Lib.hid h0
  have H61 := Lib.hid h1
  have HK6 := Lib.hid k0
  have HB6 := Lib.hid hb6
  clear hw6 k0 hb6 h0 h1
  have d0 : w6.cell? ⟨w.heap.size + 1, 0, none⟩ = some (.int .i64 2) := H61.out.cell 0
  have d1 : w6.cell? ⟨w.heap.size + 1, 1, none⟩ = some (.slice (some ⟨B, 0, none⟩) 3 3) := H61.out.cell 1
  have d2 : w6.cell? ⟨w.heap.size + 1, 2, none⟩ = some (.slice none 0 0) := H61.out.cell 2
  have l6 : w.heap.size + 1 < w6.heap.size := H61.out.lt
  refine ⟨w6, by rw [← HW6.out]; go_simp, by go_simp, ?_⟩
  clear a0 a1 a2 b0 b1 b2 f0 f1 f2 g0 g1 g2 l1 l0 HW6
  have e0 : w6.cell? ⟨w.heap.size, 0, none⟩ = some (.int .i64 2) := H60.out.cell 0
  have e1 : w6.cell? ⟨w.heap.size, 1, none⟩ = some (.slice Aw 3 cw) := H60.out.cell 1
  have e2 : w6.cell? ⟨w.heap.size, 2, none⟩ = some (.slice Af 1 cf) := H60.out.cell 2
  have g0 := H61.out.frozen 0
  have g1 := H61.out.frozen 1
  have g2 := H61.out.frozen 2
  simp only [List.drop_succ_cons, List.drop_zero]
  go_wp2_with fail
  have r1 := H61.out.set 0 (.int .i64 2)
  have r2 := r1.set 1 (.slice (some ⟨B, 0, none⟩) 3 3)
  have k9 := HK6.out.trans (((Kept.set (l := [3, 34, 101, 27]) H61.out (by decide) 0 (.int .i64 2)).trans (Kept.set r1 (by decide) 1 (.slice (some ⟨B, 0, none⟩) 3 3))).trans (Kept.set r2 (by decide) 2 (.slice none 0 0)))
  have hc9 := HC.out.kept k9 (by simp) (by simp) (by simp) (by simp)
  obtain ⟨A1, c1, A2, c2, e1, e2, hq⟩ := hc9.qat
  injection e1 with e1 x1 e1'
  injection e2 with e2 x2 e2'
  clear x1 x2
  subst e1 e1' e2 e2'
  have hs9 := k9.1
  have hz5 := HB5.out.size
  refine bodyPost_ret (v := .tuple #[.agg #[.int .i64 2, .slice Aw 3 cw, .slice Af 1 cf], .agg #[.int .i64 2, .slice (some ⟨B, 0, none⟩) 3 3, .slice none 0 0]]) (by simp [results, Tryz.results55, go_sem, *]) rfl ⟨⟨Aw, cw, Af, cf, _, 3, rfl, hq, HQA.out _ (fun b h1 h2 => ?_) (Nat.le_trans HZ5.out hs9)⟩, ?_⟩
  · rw [Below.heap_setCell _ _ _ b (by show b ≠ w.heap.size + 1; omega), Below.heap_setCell _ _ _ b (by show b ≠ w.heap.size + 1; omega), Below.heap_setCell _ _ _ b (by show b ≠ w.heap.size + 1; omega)]
    rw [HH6.out b (by omega)]
    exact HBW.out.block b h2
  · exact Below.setCell (p := ⟨w.heap.size + 1, 2, none⟩) (Below.setCell (p := ⟨w.heap.size + 1, 1, none⟩) (Below.setCell (p := ⟨w.heap.size + 1, 0, none⟩) HB6.out (by simp) (.int .i64 2)) (by simp) (.slice (some ⟨B, 0, none⟩) 3 3)) (by simp) (.slice none 0 0)
end Go.Proofs.YthnojgdckkdcgaaGreatDoor

namespace Go.Proofs.YthnojgdckkdcgaaGreatDoor
open Go.RowKit Go.Sort
theorem intL_get_none (g : Nat → Int) {n i : Nat} (h : n ≤ i) : (intL g n)[i]? = none := List.getElem?_eq_none (by rw [intL_len]; exact h)
theorem numL_intL (l : List Int) : numL l = intL (intL0 l) l.length := by
  refine List.ext_getElem? fun i => ?_
  rcases Nat.lt_or_ge i l.length with h | h
  · rw [intL_get _ h]
    unfold numL intL0
    rw [List.getElem?_map, List.getElem?_eq_getElem h]
    rfl
  · rw [intL_get_none _ h]
    unfold numL
    rw [List.getElem?_map, List.getElem?_eq_none h]
    rfl
/-- a slice that reads as a list of numbers -/
def LstI (w : World) (v : Value) (l : List Int) : Prop := ∃ A c, v = .slice A l.length c ∧ IntsAt w A l.length (intL0 l)
theorem OwnL.lst {w : World} {base : Nat} {v : Value} {l : List Int} (h : OwnL w base v l) : LstI w v l := by
  obtain ⟨A, c, e, hr⟩ := h.nums
  exact ⟨A, c, e, intsAt_row.2 (by rw [← numL_intL]; exact hr)⟩
theorem exG_small : exG.Small := exG_fits.small
end Go.Proofs.YthnojgdckkdcgaaGreatDoor

namespace Go.Proofs.YthnojgdckkdcgaaGreatDoor
open Go.RowKit Go.Sort
end Go.Proofs.YthnojgdckkdcgaaGreatDoor

namespace Go.Proofs.YthnojgdckkdcgaaGreatDoor
open Go.RowKit Go.Sort
end Go.Proofs.YthnojgdckkdcgaaGreatDoor

namespace Go.Proofs.YthnojgdckkdcgaaGreatDoor
open Go.RowKit Go.Sort
theorem left_base {w : World} {base : Nat} {v : Value} {l : List Int} (h : OwnL w base v l) : ∃ A c, v = .slice A l.length c ∧ IntsAt w A l.length (intL0 l) ∧ ∀ p, A = some p → base ≤ p.block := by
  unfold OwnL at h
  rw [numL_intL] at h
  exact intsAt_own h
theorem left_cap {w : World} {base n c : Nat} {A : Option Addr} {l : List Int} (h : OwnL w base (.slice A n c) l) : l.length ≤ c := by
  unfold OwnL at h
  rcases h.2 with ⟨e, h1⟩ | ⟨g, cap, cur, e, _, _, h3, _⟩
  · injection e with _ _ e; subst e; exact Nat.le_of_eq h1
  · injection e with _ _ e; subst e; exact h3
theorem left_sep {w : World} {A : Option Addr} {n : Nat} {g : Nat → Int} (h : IntsAt w A n g) : n = 0 ∨ ∀ p, A = some p → p.block ≠ w.heap.size := by
  rcases h with h | ⟨b, o, rfl, hlt, _⟩
  · exact .inl h
  · exact .inr fun p e => by injection e with e; subst e; exact Nat.ne_of_lt hlt
/-- a street: a town, and the worlds that are left -/
structure StreetAt (w : World) (C : Nat) (Aw Af Ao Ap As : Option Addr) (cw cf co cp cs : Nat) (t : Pt) (Al : Option Addr) (cl : Nat) : Prop where
  box : TBox w C 163 #[.int .i64 t.q.wells, .slice Aw t.q.nw cw, .slice Af t.q.nf cf, .slice Ao t.no co, .slice Ap t.np cp, .slice As t.ns cs, .int .i64 t.far, .int .i64 t.harm, .int .i64 t.many, .slice Al t.q.leftL.length cl]
  left : IntsAt w Al t.q.leftL.length (intL0 t.q.leftL)
  p : PAt w Aw Af Ao Ap As t
  sep : (t.q.leftL.length = 0 ∨ ∀ p, Al = some p → p.block ≠ C) ∧ t.q.leftL.length ≤ cl
theorem StreetAt.mono {w w' : World} {C : Nat} {Aw Af Ao Ap As : Option Addr} {cw cf co cp cs : Nat} {t : Pt} {Al : Option Addr} {cl : Nat} (h : StreetAt w C Aw Af Ao Ap As cw cf co cp cs t Al cl) (hb : Below w.heap.size w w') : StreetAt w' C Aw Af Ao Ap As cw cf co cp cs t Al cl := ⟨h.box.mono hb, h.left.mono hb, h.p.mono hb, h.sep⟩
/-- the street and the row of its worlds lie behind base -/
def StrLo (base C : Nat) (Al : Option Addr) (n : Nat) : Prop := base ≤ C ∧ (n = 0 ∨ ∀ p, Al = some p → base ≤ p.block)
theorem StrLo.lower {base b C : Nat} {Al : Option Addr} {n : Nat} (h : StrLo base C Al n) (hb : b ≤ base) : StrLo b C Al n := ⟨Nat.le_trans hb h.1, h.2.imp id fun h p e => Nat.le_trans hb (h p e)⟩
def StrOk (w : World) (base : Nat) (Aw Af Ao Ap As : Option Addr) (cw cf co cp cs : Nat) (t : Pt) (e : Ending) : Prop := ∃ C Al cl, e = .returned (.tuple #[.pointer (some ⟨C, 0, none⟩), .int .i64 0]) ∧ StreetAt w C Aw Af Ao Ap As cw cf co cp cs t Al cl ∧ StrLo base C Al t.q.leftL.length
/-- what ask and open hand back: a street, or an error -/
def StrOut (w : World) (base : Nat) (Aw Af Ao Ap As : Option Addr) (cw cf co cp cs : Nat) (t : Pt) (er : Int) (e : Ending) : Prop := (er ≠ 0 → e = .returned (.tuple #[.pointer none, .int .i64 er])) ∧ (er = 0 → StrOk w base Aw Af Ao Ap As cw cf co cp cs t e)
theorem StrOut.lower {w : World} {base b : Nat} {Aw Af Ao Ap As : Option Addr} {cw cf co cp cs : Nat} {t : Pt} {er : Int} {e : Ending} (h : StrOut w base Aw Af Ao Ap As cw cf co cp cs t er e) (hb : b ≤ base) : StrOut w b Aw Af Ao Ap As cw cf co cp cs t er e :=
  ⟨h.1, fun h0 => by obtain ⟨C, Al, cl, h1, h2, h3⟩ := h.2 h0; exact ⟨C, Al, cl, h1, h2, h3.lower hb⟩⟩
theorem distP_any (a b : Int) (w : World) (ha : 0 ≤ a ∧ a ≤ 99) (hb : 0 ≤ b ∧ b ≤ 99) : Calls Tryz.prog 81 #[.int .i64 a, .int .i64 b] w fun e w' => e = .returned (.int .i64 (dst a b)) ∧ Below w.heap.size w w' := by
  have h1 : IntKind.i64.wrap (a - b) = a - b := IntWalk.i64_in _ (by omega)
  have h2 : IntKind.i64.wrap (b - a) = b - a := IntWalk.i64_in _ (by omega)
  obtain ⟨u, hu⟩ : ∃ u, (if a - b < b - a then b - a else a - b) = u := ⟨_, rfl⟩
  have HU := Lib.hid (show dst a b = u by rw [← hu]; unfold dst; split <;> omega)
  clear ha hb
  go_enter Tryz.func81, Tryz.ntmps81
  go_wp2_with fail
  go_ret
  exact ⟨by rw [HU.out]; rfl, Below.refl _ _⟩
set_option maxHeartbeats 4000000 in
set_option maxRecDepth 100000 in
theorem hasP_any (Aw Af Ao Ap As : Option Addr) (cw cf co cp cs : Nat) (t : Pt) (n : Int) (w : World) (hs : t.ns ≤ 9223372036854775807) :
    Calls Tryz.prog 80 #[.agg #[.int .i64 t.q.wells, .slice Aw t.q.nw cw, .slice Af t.q.nf cf, .slice Ao t.no co, .slice Ap t.np cp, .slice As t.ns cs, .int .i64 t.far, .int .i64 t.harm, .int .i64 t.many], .int .i64 n] w fun e w' => e = .returned (.bool (t.hasB n)) ∧ Below w.heap.size w w' := by
  have hw1 : IntKind.i64.wrap ((t.ns : Int) - 1) = (t.ns : Int) - 1 := IntWalk.i64_in _ (by omega)
  have HN := Lib.hid (show inR n 0 ((t.ns : Int) - 1) = t.hasB n from rfl)
  clear hs
  have HD0 := Lib.hid (Below.refl w.heap.size w)
  go_enter Tryz.func80, Tryz.ntmps80
  go_wp2_with fail
  refine (withinP_b _ _ _ _ _ HN.out).mono ?_
  rintro e w1 ⟨rfl, hb⟩
  have hB1 : Below w.heap.size w w1 := bTrans (bAlloc (Below.refl _ _) (.cells #[.int .i64 t.q.wells, .slice Aw t.q.nw cw, .slice Af t.q.nf cf, .slice Ao t.no co, .slice Ap t.np cp, .slice As t.ns cs, .int .i64 t.far, .int .i64 t.harm, .int .i64 t.many] 62)) hb
  have HD1 := Lib.hid (bTrans HD0.out hB1)
  have T1 := Lib.hid (show TBox w1 w.heap.size 62 #[.int .i64 t.q.wells, .slice Aw t.q.nw cw, .slice Af t.q.nf cf, .slice Ao t.no co, .slice Ap t.np cp, .slice As t.ns cs, .int .i64 t.far, .int .i64 t.harm, .int .i64 t.many] from by have := ((TBox.new w #[.int .i64 t.q.wells, .slice Aw t.q.nw cw, .slice Af t.q.nf cf, .slice Ao t.no co, .slice Ap t.np cp, .slice As t.ns cs, .int .i64 t.far, .int .i64 t.harm, .int .i64 t.many] 62).mono (Below.refl _ _)).mono hb; simpa using this)
  clear hb hB1 HD0
  obtain ⟨T_0, T_1, T_2, T_3, T_4, T_5, T_6, T_7, T_8, T_l⟩ := T1.out.c9
  go_wp2_with fail
  go_ret
  exact ⟨rfl, HD1.out⟩
set_option maxHeartbeats 4000000 in
set_option maxRecDepth 100000 in
theorem askP_any (Aw Af Ao Ap As : Option Addr) (cw cf co cp cs : Nat) (t : Pt) (is : Bool) (w : World) (hs : t.Small) (hT : PAt w Aw Af Ao Ap As t) (hB : TabAt w) :
    Calls Tryz.prog 79 #[.agg #[.int .i64 t.q.wells, .slice Aw t.q.nw cw, .slice Af t.q.nf cf, .slice Ao t.no co, .slice Ap t.np cp, .slice As t.ns cs, .int .i64 t.far, .int .i64 t.harm, .int .i64 t.many], .bool is] w fun e w' => StrOut w' w.heap.size Aw Af Ao Ap As cw cf co cp cs t (t.askErr is) e ∧ Below w.heap.size w w' := by
  have HD0 := Lib.hid (Below.refl w.heap.size w)
  have HSM := Lib.hid hs
  have HT0 := Lib.hid hT
  have HTB0 := Lib.hid hB
  clear hs hT hB
  go_enter Tryz.func79, Tryz.ntmps79
  go_wp2_with fail
  refine (checkP_any Aw Af Ao Ap As cw cf co cp cs t _ HSM.out (HT0.out.mono (bAlloc (Below.refl _ _) (.cells #[.int .i64 t.q.wells, .slice Aw t.q.nw cw, .slice Af t.q.nf cf, .slice Ao t.no co, .slice Ap t.np cp, .slice As t.ns cs, .int .i64 t.far, .int .i64 t.harm, .int .i64 t.many] 62)))).mono ?_
  rintro e w1 ⟨rfl, hb⟩
  have hB1 : Below w.heap.size w w1 := bTrans (bAlloc (Below.refl _ _) (.cells #[.int .i64 t.q.wells, .slice Aw t.q.nw cw, .slice Af t.q.nf cf, .slice Ao t.no co, .slice Ap t.np cp, .slice As t.ns cs, .int .i64 t.far, .int .i64 t.harm, .int .i64 t.many] 62)) hb
  have HD1 := Lib.hid (bTrans HD0.out hB1)
  have HT1 := Lib.hid (HT0.out.mono hB1)
  have HTB1 := Lib.hid (HTB0.out.mono hB1)
  have T1 := Lib.hid (show TBox w1 w.heap.size 62 #[.int .i64 t.q.wells, .slice Aw t.q.nw cw, .slice Af t.q.nf cf, .slice Ao t.no co, .slice Ap t.np cp, .slice As t.ns cs, .int .i64 t.far, .int .i64 t.harm, .int .i64 t.many] from by have := ((TBox.new w #[.int .i64 t.q.wells, .slice Aw t.q.nw cw, .slice Af t.q.nf cf, .slice Ao t.no co, .slice Ap t.np cp, .slice As t.ns cs, .int .i64 t.far, .int .i64 t.harm, .int .i64 t.many] 62).mono (Below.refl _ _)).mono hb; simpa using this)
  clear hb hB1 HD0 HT0 HTB0
  obtain ⟨T_0, T_1, T_2, T_3, T_4, T_5, T_6, T_7, T_8, T_l⟩ := T1.out.c9
  by_cases hok : t.Ok
  case neg =>
    have HE := Lib.hid (Pt.askErr_bad hok is)
    rw [Pt.err_bad hok]
    clear hok
    go_wp2_with fail
    go_ret2
    exact ⟨⟨fun _ => by rw [HE.out]; rfl, fun h => by rw [HE.out] at h; exact absurd h (by decide)⟩, HD1.out⟩
  rw [Pt.err_ok hok]
  have HOK := Lib.hid hok
  clear hok
  cases is
  case false =>
    have HE := Lib.hid (Pt.askErr_arg HOK.out)
    go_wp2_with fail
    go_ret2
    exact ⟨⟨fun _ => by rw [HE.out]; rfl, fun h => by rw [HE.out] at h; exact absurd h (by decide)⟩, HD1.out⟩
  have HE := Lib.hid (Pt.askErr_ok HOK.out)
  go_wp2_with fail
  have HDL := Lib.hid (HD1.out.size)
  refine (leftQ_any Aw Af cw cf t.q _ HSM.out.q HT1.out.q HTB1.out).mono ?_
  rintro e w2 ⟨ho, hb⟩
  obtain ⟨v, rfl, h1, _⟩ := ho
  obtain ⟨A4, c4, rfl, hi4, hlo4⟩ := left_base (h1 HOK.out.q)
  have HCAP := Lib.hid (left_cap (h1 HOK.out.q))
  have HLO4 := Lib.hid hlo4
  clear hlo4
  have hB2 : Below w1.heap.size w1 w2 := bTrans (Below.refl _ _) hb
  have HD2 := Lib.hid (bTrans HD1.out hB2)
  have HT2 := Lib.hid (HT1.out.mono hB2)
  have HTB2 := Lib.hid (HTB1.out.mono hB2)
  have HI42 := Lib.hid (hi4)
  have T2 := Lib.hid (T1.out.mono hB2)
  clear hb hB2 HD1 HT1 HTB1 T1 T_0 T_1 T_2 T_3 T_4 T_5 T_6 T_7 T_8 T_l
  obtain ⟨T_0, T_1, T_2, T_3, T_4, T_5, T_6, T_7, T_8, T_l⟩ := T2.out.c9
  clear h1 hi4
  go_wp2_with fail
  go_ret2
  refine ⟨⟨fun h => absurd HE.out h, fun _ => ⟨w2.heap.size, A4, c4, rfl, ⟨TBox.new _ _ _, HI42.out.mono (bAlloc (Below.refl _ _) _), HT2.out.mono (bAlloc (Below.refl _ _) _), left_sep HI42.out, HCAP.out⟩, ?_⟩⟩, bAlloc HD2.out _⟩
  exact ⟨by have := HD2.out.size; omega, .inr fun p e => by have := HLO4.out p e; have := HDL.out; omega⟩
set_option maxHeartbeats 4000000 in
set_option maxRecDepth 100000 in
theorem openP_any (Aw Af Ao Ap As : Option Addr) (cw cf co cp cs : Nat) (t : Pt) (is : Bool) (w : World) (hs : t.Small) (hT : PAt w Aw Af Ao Ap As t) (hB : TabAt w) :
    Calls Tryz.prog 82 #[.agg #[.int .i64 t.q.wells, .slice Aw t.q.nw cw, .slice Af t.q.nf cf, .slice Ao t.no co, .slice Ap t.np cp, .slice As t.ns cs, .int .i64 t.far, .int .i64 t.harm, .int .i64 t.many], .bool is] w fun e w' => StrOut w' w.heap.size Aw Af Ao Ap As cw cf co cp cs t (t.knowErr is) e ∧ Below w.heap.size w w' := by
  have HD0 := Lib.hid (Below.refl w.heap.size w)
  have HSM := Lib.hid hs
  have HT0 := Lib.hid hT
  have HTB0 := Lib.hid hB
  clear hs hT hB
  go_enter Tryz.func82, Tryz.ntmps82
  go_wp2_with fail
  refine (askP_any Aw Af Ao Ap As cw cf co cp cs t is _ HSM.out (HT0.out.mono (bAlloc (Below.refl _ _) (.cells #[.int .i64 t.q.wells, .slice Aw t.q.nw cw, .slice Af t.q.nf cf, .slice Ao t.no co, .slice Ap t.np cp, .slice As t.ns cs, .int .i64 t.far, .int .i64 t.harm, .int .i64 t.many] 62))) (HTB0.out.mono (bAlloc (Below.refl _ _) (.cells #[.int .i64 t.q.wells, .slice Aw t.q.nw cw, .slice Af t.q.nf cf, .slice Ao t.no co, .slice Ap t.np cp, .slice As t.ns cs, .int .i64 t.far, .int .i64 t.harm, .int .i64 t.many] 62)))).mono ?_
  rintro e w1 ⟨⟨ho1, ho2⟩, hb⟩
  have hB1 : Below w.heap.size w w1 := bTrans (bAlloc (Below.refl _ _) (.cells #[.int .i64 t.q.wells, .slice Aw t.q.nw cw, .slice Af t.q.nf cf, .slice Ao t.no co, .slice Ap t.np cp, .slice As t.ns cs, .int .i64 t.far, .int .i64 t.harm, .int .i64 t.many] 62)) hb
  have HD1 := Lib.hid (bTrans HD0.out hB1)
  have HT1 := Lib.hid (HT0.out.mono hB1)
  have HTB1 := Lib.hid (HTB0.out.mono hB1)
  have T1 := Lib.hid (show TBox w1 w.heap.size 62 #[.int .i64 t.q.wells, .slice Aw t.q.nw cw, .slice Af t.q.nf cf, .slice Ao t.no co, .slice Ap t.np cp, .slice As t.ns cs, .int .i64 t.far, .int .i64 t.harm, .int .i64 t.many] from by have := ((TBox.new w #[.int .i64 t.q.wells, .slice Aw t.q.nw cw, .slice Af t.q.nf cf, .slice Ao t.no co, .slice Ap t.np cp, .slice As t.ns cs, .int .i64 t.far, .int .i64 t.harm, .int .i64 t.many] 62).mono (Below.refl _ _)).mono hb; simpa using this)
  clear hb hB1 HD0 HT0 HTB0
  obtain ⟨T_0, T_1, T_2, T_3, T_4, T_5, T_6, T_7, T_8, T_l⟩ := T1.out.c9
  obtain ⟨ae, hae⟩ : ∃ v, t.askErr is = v := ⟨_, rfl⟩
  rw [hae] at ho1 ho2
  have HAE := Lib.hid hae
  clear hae
  by_cases h0 : ae = 0
  case neg =>
    obtain rfl := ho1 h0
    clear ho1 ho2
    have g0 : (ae == 0) = false := by simp [h0]
    have HE := Lib.hid (show t.knowErr is = ae by unfold Pt.knowErr; rw [HAE.out, if_neg h0])
    have HZ := Lib.hid h0
    clear h0
    go_wp2_with fail
    go_ret2
    exact ⟨⟨fun _ => by rw [HE.out]; rfl, fun h => by rw [HE.out] at h; exact absurd h HZ.out⟩, HD1.out⟩
  subst h0
  obtain ⟨C, Al, cl, rfl, hst, hC⟩ := ho2 rfl
  clear ho1 ho2
  have HST := Lib.hid hst
  have HC := Lib.hid hC
  obtain ⟨ok, rfl⟩ := Pt.askErr_zero HAE.out
  have HOK := Lib.hid ok
  clear hst hC ok
  obtain ⟨c0, c1, c2, c3, c4, c5, c6, c7, c8, c9, hCl⟩ := HST.out.box.c10
  by_cases hnil : t.q.leftL = []
  case pos =>
    have HE := Lib.hid (Pt.knowErr_none HOK.out hnil)
    have hl : t.q.leftL.length = 0 := by rw [hnil]; rfl
    clear hnil
    go_wp2_with fail
    go_ret2
    exact ⟨⟨fun _ => by rw [HE.out]; rfl, fun h => by rw [HE.out] at h; exact absurd h (by decide)⟩, HD1.out⟩
  have HE := Lib.hid (Pt.knowErr_ok HOK.out hnil)
  have hl : (t.q.leftL.length == 0) = false := by simp; exact hnil
  have hl2 : 0 < t.q.leftL.length := List.length_pos_iff.2 hnil
  have hl3 : ((t.q.leftL.length : Int) == 0) = false := by simp; omega
  clear hnil
  go_wp2_with fail
  go_ret2
  refine ⟨⟨fun h => absurd HE.out h, fun _ => ⟨C, Al, cl, rfl, HST.out, ?_⟩⟩, HD1.out⟩
  exact HC.out.lower (by simp)
end Go.Proofs.YthnojgdckkdcgaaGreatDoor

