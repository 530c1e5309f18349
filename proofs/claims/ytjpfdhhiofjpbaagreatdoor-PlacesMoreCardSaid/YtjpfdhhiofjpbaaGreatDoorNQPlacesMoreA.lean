/- Parts joined: what the claim PlacesMore needs beyond the others. -/
import Derived.WalkKit
import Derived.WalkSpells
import Derived.WalkLawsBesides
import Derived.BigQuiet
import Derived.Lib.Hide
import Derived.Lib.QuietBelow
import Derived.Deep.RegionHeld3
import Derived.OwnWalk
import Derived.Laws.AppendOwn
import Derived.Laws.OwnMore
import Derived.Laws.IdiomCopy
import Derived.Deep.RegionLaw
import Derived.Lib.SliceRun
import Derived.ArgAppend
import Derived.RegionTactic
import Derived.Laws.MakeOwn
import Derived.Test.YtjpfdhhiofjpbaaGreatDoorProg
import Derived.Test.YtjpfdhhiofjpbaaGreatDoorTie
import Derived.ProofKit
import Derived.LaidMore
import Derived.OpenShut
import Derived.Deep.Slices
import Derived.Deep.Fields
import Derived.Stop.Joined
import Derived.Test.YtjpfdhhiofjpbaaGreatDoorNQA
import Derived.Test.YtjpfdhhiofjpbaaGreatDoorNQB
import Derived.Test.YtjpfdhhiofjpbaaGreatDoorNQC
import Derived.Test.YtjpfdhhiofjpbaaGreatDoorNQD
import Derived.Test.YtjpfdhhiofjpbaaGreatDoorNQE
import Derived.Test.YtjpfdhhiofjpbaaGreatDoorNQF
import Derived.Test.YtjpfdhhiofjpbaaGreatDoorNQG
import Derived.Test.YtjpfdhhiofjpbaaGreatDoorNQH
import Derived.Test.YtjpfdhhiofjpbaaGreatDoorNQI
import Derived.Test.YtjpfdhhiofjpbaaGreatDoorNQJ
import Derived.Test.YtjpfdhhiofjpbaaGreatDoorNQK
import Derived.Test.YtjpfdhhiofjpbaaGreatDoorNQL
import Derived.Test.YtjpfdhhiofjpbaaGreatDoorNQM
import Derived.Test.YtjpfdhhiofjpbaaGreatDoorNQN
import Derived.Test.YtjpfdhhiofjpbaaGreatDoorNQO
import Derived.Test.YtjpfdhhiofjpbaaGreatDoorNQP
import Derived.Test.YtjpfdhhiofjpbaaGreatDoorNQQ
import Derived.Test.YtjpfdhhiofjpbaaGreatDoorNQR
import Derived.Test.YtjpfdhhiofjpbaaGreatDoorNQS
import Derived.Test.YtjpfdhhiofjpbaaGreatDoorNQT
import Derived.Test.YtjpfdhhiofjpbaaGreatDoorNQU
set_option linter.unusedSimpArgs false
set_option linter.unusedVariables false
namespace Go.Proofs.YtjpfdhhiofjpbaaGreatDoor
open Go.RowKit Go.Sort
/-! ### Worlds -/
attribute [go_sem] cell_grow frozen_grow Instr.field asAgg
section
variable {w x y : World}
end
/-! ### Endings -/
/-! ### Plain notions -/
/-! ### How slices read -/
section
variable {P : Program} {ops : Array Oper} {md : Region.Mode}

/-! ### The frame behind some of the operations -/
/-! ### Operations that are calm: one value in every world that is the first one with new blocks; what they leave is that with new blocks -/
attribute [go_sem] Oper.calm Oper.calmAt Oper.calmUpon
/-! ### Whoever looks at a slot, and whoever writes it, wait for each other -/
end
section
variable {P : Program} {ops : Array Oper} {md : Region.Mode}
attribute [go_sem] Oper.heldAt Oper.heldUpon newer_refl depsP
end
section
variable {m : Nat} {g : Nat → Int} {x d n : Nat} {h : Nat → Int}
end
section
variable {P : Program} {ops : Array Oper} {md : Region.Mode}
attribute [go_sem] Oper.stirAt Oper.stirUpon
end
/-! ### Bounds -/
/-! ### Spans -/
section
variable {P : Program} {ops : Array Oper} {md : Region.Mode}
end
/-! ### Rows of structs -/
theorem catL_congr {f g : Nat → List Value} : ∀ n, (∀ i, i < n → f i = g i) → catL f n = catL g n
  | 0, _ => rfl
  | n + 1, h => by simp only [catL]; rw [catL_congr n (fun i hi => h i (by omega)), h n (by omega)]
/-! ### A row at hand -/
end Go.Proofs.YtjpfdhhiofjpbaaGreatDoor

namespace Go.Proofs.YtjpfdhhiofjpbaaGreatDoor
open Go.RowKit Go.Sort
theorem intL0_mem {L : List Int} {k : Nat} (h : k < L.length) : intL0 L k ∈ L := by
  unfold intL0
  rw [List.getElem?_eq_getElem h]
  exact List.getElem_mem h
theorem mem_intL0 {L : List Int} {x : Int} (h : x ∈ L) : ∃ k, k < L.length ∧ intL0 L k = x := by
  obtain ⟨k, hk, he⟩ := List.getElem_of_mem h
  exact ⟨k, hk, by unfold intL0; rw [List.getElem?_eq_getElem hk]; exact he⟩
/-! ### How many tests are enough -/
end Go.Proofs.YtjpfdhhiofjpbaaGreatDoor

namespace Go.Proofs.YtjpfdhhiofjpbaaGreatDoor
open Go.RowKit Go.Sort
/-! ### What is known -/
theorem cntB_zero {p : Nat → Bool} : ∀ {n : Nat}, cntB p n = 0 ↔ ∀ i, i < n → p i = false
  | 0 => by simp [cntB]
  | n + 1 => by
    have ih := cntB_zero (p := p) (n := n)
    unfold cntB
    split
    · rename_i h
      exact ⟨fun e => by omega, fun e => by rw [e n (by omega)] at h; cases h⟩
    · rename_i h
      rw [ih]
      refine ⟨fun e i hi => ?_, fun e i hi => e i (by omega)⟩
      rcases Nat.lt_or_ge i n with h1 | h1
      · exact e i h1
      · obtain rfl : i = n := by omega
        simpa using h
/-! ### Draws -/
end Go.Proofs.YtjpfdhhiofjpbaaGreatDoor

namespace Go.Proofs.YtjpfdhhiofjpbaaGreatDoor
open Go.RowKit Go.Sort Go.ChangeShapes Go.WideShapes Go.ChangeAt Go.Deep
section
variable {H : Type} {enc : TypeId × Value → H} {P : Program}
end
section
variable {H : Type} {enc : TypeId × Value → H} {P : Program} {w : World} {base : Nat} {sp : Nat → Bool} {held : Bool}
/-! ### What fits into memory -/
end
theorem int_wf {n : Int} (h : (Lit.int .i64 n).wf = true) : -9223372036854775808 ≤ n ∧ n ≤ 9223372036854775807 := by
  simp only [Lit.wf, Bool.and_eq_true, decide_eq_true_eq] at h
  exact h
section
variable {H : Type} {enc : TypeId × Value → H} {P : Program} {w : World} {base b0 : Nat} {r : Reach} {sp : Nat → Bool} {held : Bool}
def InI (n : Int) : Prop := -9223372036854775808 ≤ n ∧ n ≤ 9223372036854775807
end

theorem fact_in {H : Type} {enc : TypeId × Value → H} {P : Program} {W : World} {base b0 : Nat} {r : Reach} {sp : Nat → Bool} {held : Bool} {v : Value} {d : DataW H} {p : List MemPlace} {t ti : TypeId} {f0 f1 f2 f3 f4 : Field} (ht : P.underlying t = some (.struct #[f0, f1, f2, f3, f4])) (hone : oneCellFields P #[f0, f1, f2, f3, f4] = true && (f0.type == ti && f1.type == ti && f2.type == ti && f3.type == ti && f4.type == ti) && P.cellsOf t == 5)
    (hi : P.underlying ti = some (.int .i64)) (hv : Value.okWide P W r b0 t v) (h : DataW.Trod enc P W base sp held t v d p) : ∃ f : Fact, v = .agg #[.int .i64 f.from_, .int .i64 f.many, .int .i64 f.to_, .int .i64 f.low, .int .i64 f.high] ∧ InI f.from_ ∧ InI f.many ∧ InI f.to_ ∧ InI f.low ∧ InI f.high := by
  obtain ⟨cs, rfl, hsz⟩ := okWide_struct ht hv
  obtain ⟨fuel, hf⟩ := h
  obtain ⟨a, b, c, d, e, h1, w0, w1, w2, w3, w4⟩ := five_ints ht hone hi hf
  refine ⟨⟨a, b, c, d, e⟩, ?_, int_wf w0, int_wf w1, int_wf w2, int_wf w3, int_wf w4⟩
  obtain ⟨l⟩ := cs
  simp only [Value.cells] at h1
  rw [h1]
/-! ### The table of math/bits that is listed -/
end Go.Proofs.YtjpfdhhiofjpbaaGreatDoor

namespace Go.Proofs.YtjpfdhhiofjpbaaGreatDoor
open Go.RowKit Go.Sort
section
variable {w : World} {b : Nat} {t : TypeId}
theorem TBox.c5 {x y z u v : Value} (h : TBox w b t #[x, y, z, u, v]) : w.cell? ⟨b, 0, none⟩ = some x ∧ w.cell? ⟨b, 1, none⟩ = some y ∧ w.cell? ⟨b, 2, none⟩ = some z ∧ w.cell? ⟨b, 3, none⟩ = some u ∧ w.cell? ⟨b, 4, none⟩ = some v ∧ b < w.heap.size := ⟨h.cell 0, h.cell 1, h.cell 2, h.cell 3, h.cell 4, h.lt⟩
end
end Go.Proofs.YtjpfdhhiofjpbaaGreatDoor

namespace Go.Proofs.YtjpfdhhiofjpbaaGreatDoor
open Go.RowKit Go.Sort
noncomputable def Pt.cheapest (t : Pt) : Option Nat := minBy t.whole t.canB t.ns
/-! ### errors -/
/-! ### what each function returns -/
noncomputable def Pt.cheapestOut (t : Pt) : Int × Int := if t.knowErr true = 0 then optOut t.cheapest else (0, t.knowErr true)
noncomputable def Pt.wholeOut (t : Pt) (s : Int) : Int × Int := if t.knowErr (t.hasB s) = 0 then (if t.canB s.toNat then (t.whole s.toNat, 0) else (0, 3)) else (0, t.knowErr (t.hasB s))
end Go.Proofs.YtjpfdhhiofjpbaaGreatDoor

namespace Go.Proofs.YtjpfdhhiofjpbaaGreatDoor
open Go.RowKit Go.Sort
/-! ### One fact more -/
def Qt.add (t : Qt) (f : Fact) : Qt := ⟨t.wells, t.nw, t.world, t.nf + 1, fun i => if i < t.nf then t.fact i else f⟩
theorem leftB_add (t : Qt) (f : Fact) (i : Nat) : (t.add f).leftB i = (t.leftB i && (t.world i).agrees f) := by
  unfold Qt.leftB
  show (!(anyB (fun j => !(t.world i).agrees (if j < t.nf then t.fact j else f)) t.nf || !(t.world i).agrees (if t.nf < t.nf then t.fact t.nf else f))) = _
  rw [if_neg (Nat.lt_irrefl _), anyB_congr (q := fun j => !(t.world i).agrees (t.fact j)) fun j hj => by rw [if_pos hj]]
  simp
theorem leftTo_add (t : Qt) (f : Fact) : ∀ n, (t.add f).leftTo n = (t.leftTo n).filter fun a => (t.world a.toNat).agrees f
  | 0 => rfl
  | n + 1 => by
    have ih := leftTo_add t f n
    unfold Qt.leftTo
    rw [leftB_add, ih]
    cases t.leftB n
    · simp
    · cases h : (t.world n).agrees f <;> simp [h]
theorem leftL_add (t : Qt) (f : Fact) : (t.add f).leftL = t.leftL.filter fun a => (t.world a.toNat).agrees f := leftTo_add t f t.nw
/-! ### One world more -/
/-! ### Another order -/
/-! ### Fewer worlds: spans, and what is known -/
end Go.Proofs.YtjpfdhhiofjpbaaGreatDoor

namespace Go.Proofs.YtjpfdhhiofjpbaaGreatDoor
open Go.RowKit Go.Sort
theorem factL_snoc (t : Qt) (f : Fact) : factL (t.add f).fact (t.nf + 1) = factL t.fact t.nf ++ [.int .i64 f.from_, .int .i64 f.many, .int .i64 f.to_, .int .i64 f.low, .int .i64 f.high] := by
  unfold factL
  show catL _ t.nf ++ _ = _
  have e1 : (t.add f).fact t.nf = f := if_neg (Nat.lt_irrefl _)
  congr 1
  · exact catL_congr t.nf fun i hi => by rw [show (t.add f).fact i = t.fact i from if_pos hi]
  · simp only [e1]
theorem owns_kept {l : List TypeId} {w w' : World} {base : Nat} {e : TypeId} {size n : Nat} {v : Value} {xs : List Value} (h : w.ownsRow base e size v n xs) (hk : Kept l w w') (he : e ∈ l) : w'.ownsRow base e size v n xs :=
  ⟨h.1, h.2.imp id fun ⟨g, cap, cur, h1, h2, h3, h4⟩ => ⟨g, cap, cur, h1, h2, (hk.2 g _ _ _ h3 he).trans h3, h4⟩⟩
set_option maxHeartbeats 4000000 in
set_option maxRecDepth 100000 in
theorem told5_any (Aw Af : Option Addr) (cw cf : Nat) (t : Qt) (f : Fact) (w : World) (hf : t.Fits) (hT : QAt w Aw Af t) :
    Calls Tryz.prog 109 #[.agg #[.int .i64 t.wells, .slice Aw t.nw cw, .slice Af t.nf cf], .agg #[.int .i64 f.from_, .int .i64 f.many, .int .i64 f.to_, .int .i64 f.low, .int .i64 f.high]] w fun e w' => CopyOut w' w.heap.size (t.add f) e ∧ Below w.heap.size w w' := by
  have hb2 := bAlloc (bAlloc (bAlloc (Below.refl w.heap.size w) (.cells #[.int .i64 t.wells, .slice Aw t.nw cw, .slice Af t.nf cf] 25)) (.cells #[.int .i64 f.from_, .int .i64 f.many, .int .i64 f.to_, .int .i64 f.low, .int .i64 f.high] 64)) (.cells #[.int .i64 0, .slice none 0 0, .slice none 0 0] 25)
  have HT := Lib.hid (hT.mono hb2)
  have HB := Lib.hid hb2
  have HF := Lib.hid hf
  have HTR := Lib.hid (TBox.new ((w.alloc (.cells #[.int .i64 t.wells, .slice Aw t.nw cw, .slice Af t.nf cf] 25)).alloc (.cells #[.int .i64 f.from_, .int .i64 f.many, .int .i64 f.to_, .int .i64 f.low, .int .i64 f.high] 64)) #[.int .i64 0, .slice none 0 0, .slice none 0 0] 25)
  clear hT hb2 hf
  obtain ⟨i0, hi, iz0, iz1, iz2⟩ := info_parts infoFact
  go_enter Tryz.func109, Tryz.ntmps109
  go_wp2_with fail
  refine (copy5_any _ _ _ _ t _ HF.out HT.out).mono ?_
  rintro e w1 ⟨⟨vW, vF, rfl, hc⟩, hb1⟩
  obtain ⟨A1, c1, A2, c2, rfl, rfl, _⟩ := hc.qat
  have HC := Lib.hid hc
  have HB1 := Lib.hid hb1
  obtain ⟨bc1, bf1⟩ := bcell hb1
  have hz1 := hb1.size
  simp only [World.size_alloc] at hz1
  have hy1 : w.heap.size < w1.heap.size := by omega
  have hy2 : w.heap.size + 1 < w1.heap.size := by omega
  have hy3 : w.heap.size + 1 + 1 < w1.heap.size := by omega
  have HX1 := Lib.hid (TBox.new w1 #[.int .i64 t.wells, .slice A1 t.nw c1, .slice A2 t.nf c2] 25)
  have HN := Lib.hid (show (t.nf + 1) * 40 ≤ 140737488355328 by have := HF.out.2.1; omega)
  have hbase := HB1.out.size
  simp only [World.size_alloc] at hbase
  clear hc hb1
  have HO2 := Lib.hid (show ((w1.alloc (.cells #[.int .i64 t.wells, .slice A1 t.nw c1, .slice A2 t.nf c2] 25)).alloc (.cells #[.int .i64 f.from_, .int .i64 f.many, .int .i64 f.to_, .int .i64 f.low, .int .i64 f.high] 64)).ownsRow (w.heap.size + 1 + 1 + 1) 64 5 (.slice A2 t.nf c2) t.nf (factL t.fact t.nf) by
    have := (HC.out.facts.alloc (.cells #[.int .i64 t.wells, .slice A1 t.nw c1, .slice A2 t.nf c2] 25)).alloc (.cells #[.int .i64 f.from_, .int .i64 f.many, .int .i64 f.to_, .int .i64 f.low, .int .i64 f.high] 64)
    simpa using this)
  have HB2 := Lib.hid (show Below (w.heap.size + 1 + 1 + 1) (((w.alloc (.cells #[.int .i64 t.wells, .slice Aw t.nw cw, .slice Af t.nf cf] 25)).alloc (.cells #[.int .i64 f.from_, .int .i64 f.many, .int .i64 f.to_, .int .i64 f.low, .int .i64 f.high] 64)).alloc (.cells #[.int .i64 0, .slice none 0 0, .slice none 0 0] 25)) ((w1.alloc (.cells #[.int .i64 t.wells, .slice A1 t.nw c1, .slice A2 t.nf c2] 25)).alloc (.cells #[.int .i64 f.from_, .int .i64 f.many, .int .i64 f.to_, .int .i64 f.low, .int .i64 f.high] 64)) by
    have := bAlloc (bAlloc HB1.out (.cells #[.int .i64 t.wells, .slice A1 t.nw c1, .slice A2 t.nf c2] 25)) (.cells #[.int .i64 f.from_, .int .i64 f.many, .int .i64 f.to_, .int .i64 f.low, .int .i64 f.high] 64)
    simpa using this)
  go_wp2_with (at_builtin; refine wpList_append_own _ rfl (Operand.tmp 9) (Operand.tmp 11) 23 rfl (w.heap.size + 1 + 1 + 1) 64 i0 (.agg #[.int .i64 0, .int .i64 0, .int .i64 0, .int .i64 0, .int .i64 0]) 5 40 Tryz.underlying23 hi iz0 iz1 iz2 rfl (by decide) _ t.nf (factL t.fact t.nf) rfl HO2.out ⟨w1.heap.size + 1, 0, none⟩ 1 1 [.int .i64 f.from_, .int .i64 f.many, .int .i64 f.to_, .int .i64 f.low, .int .i64 f.high] rfl rfl ?c1 ?c2 ?c3 HN.out ?c4 ?_)
  case c1 =>
    intro j u hj
    have hc := cell_of_row _ (w1.heap.size + 1) j _ _ _ (show ((w1.alloc (.cells #[.int .i64 t.wells, .slice A1 t.nw c1, .slice A2 t.nf c2] 25)).alloc (.cells #[.int .i64 f.from_, .int .i64 f.many, .int .i64 f.to_, .int .i64 f.low, .int .i64 f.high] 64)).heap[w1.heap.size + 1]? = some (Obj.cells #[.int .i64 f.from_, .int .i64 f.many, .int .i64 f.to_, .int .i64 f.low, .int .i64 f.high] 64 (0, 0)) by have := heap_alloc_new (w1.alloc (.cells #[.int .i64 t.wells, .slice A1 t.nw c1, .slice A2 t.nf c2] 25)) (.cells #[.int .i64 f.from_, .int .i64 f.many, .int .i64 f.to_, .int .i64 f.low, .int .i64 f.high] 64); simpa using this)
    rw [show (⟨w1.heap.size + 1, 0, none⟩ : Addr).add j = ⟨w1.heap.size + 1, j, none⟩ from by unfold Addr.add; split <;> simp_all, hc]
    simpa using hj
  case c2 =>
    intro u hu
    simp only [List.mem_cons, List.not_mem_nil, or_false] at hu
    rcases hu with rfl | rfl | rfl | rfl | rfl <;> rfl
  case c3 => unfold maxLen; have := HN.out; omega
  case c4 => simp <;> omega
  intro v' w4 hown4 hg4 _
  obtain ⟨A4, c4, rfl, _⟩ := RowK.own hown4
  have hnb : some w1.heap.size ≠ (Value.slice A2 t.nf c2).ownBlock := fun e => by have := HC.out.facts.lt _ e.symm; omega
  have HX4 := Lib.hid ((HX1.out.mono (bAlloc (Below.refl _ _) (.cells #[.int .i64 f.from_, .int .i64 f.many, .int .i64 f.to_, .int .i64 f.low, .int .i64 f.high] 64))).grown hg4 hnb)
  have hB4 : Below (w.heap.size + 1 + 1 + 1) (((w.alloc (.cells #[.int .i64 t.wells, .slice Aw t.nw cw, .slice Af t.nf cf] 25)).alloc (.cells #[.int .i64 f.from_, .int .i64 f.many, .int .i64 f.to_, .int .i64 f.low, .int .i64 f.high] 64)).alloc (.cells #[.int .i64 0, .slice none 0 0, .slice none 0 0] 25)) w4 := HB2.out.grown hg4 (by simp <;> omega) (fun k hk => (HO2.out.lt k hk).1)
  have HB4 := Lib.hid hB4
  have hTR : TBox w4 (w.heap.size + 1 + 1) 25 #[.int .i64 0, .slice none 0 0, .slice none 0 0] := (hB4.block (w.heap.size + 1 + 1) (by omega)).trans (by have := HTR.out; simpa [TBox] using this)
  have HTR4 := Lib.hid hTR
  have hk4 : Kept [3, 26, 128] ((w1.alloc (.cells #[.int .i64 t.wells, .slice A1 t.nw c1, .slice A2 t.nf c2] 25)).alloc (.cells #[.int .i64 f.from_, .int .i64 f.many, .int .i64 f.to_, .int .i64 f.low, .int .i64 f.high] 64)) w4 := Kept.of_own hg4 HO2.out (by decide)
  have HK4 := Lib.hid hk4
  have HG4 := Lib.hid hg4
  have HO4 := Lib.hid hown4
  have hlt4 : w1.heap.size < w4.heap.size := HX4.out.lt
  have r0 : w4.cell? ⟨w1.heap.size, 0, none⟩ = some (.int .i64 t.wells) := HX4.out.cell 0
  have r1 : w4.cell? ⟨w1.heap.size, 1, none⟩ = some (.slice A1 t.nw c1) := HX4.out.cell 1
  have r2 : w4.cell? ⟨w1.heap.size, 2, none⟩ = some (.slice A2 t.nf c2) := HX4.out.cell 2
  have r3 := HX4.out.frozen 2
  have s0 : w4.cell? ⟨w.heap.size + 1 + 1, 0, none⟩ = some (.int .i64 0) := hTR.cell 0
  have s1 : w4.cell? ⟨w.heap.size + 1 + 1, 1, none⟩ = some (.slice none 0 0) := hTR.cell 1
  have s2 : w4.cell? ⟨w.heap.size + 1 + 1, 2, none⟩ = some (.slice none 0 0) := hTR.cell 2
  have t0 := hTR.frozen 0
  have t1 := hTR.frozen 1
  have t2 := hTR.frozen 2
  have hy4 : w.heap.size + 1 + 1 < w4.heap.size := hTR.lt
  clear hTR hown4 hg4 hnb hB4 hk4 bc1 bf1
  go_wp2_with fail
  have hne : w1.heap.size ≠ w.heap.size + 1 + 1 := by omega
  have R5 := HTR4.out.other hne 2 (.slice A4 (t.nf + 1) c4)
  have R6 := R5.set 0 (.int .i64 t.wells)
  have R7 := R6.set 1 (.slice A1 t.nw c1)
  have hkS := (((Kept.set (l := [3, 26, 128]) HX4.out (by decide) 2 (.slice A4 (t.nf + 1) c4)).trans (Kept.set R5 (by decide) 0 (.int .i64 t.wells))).trans (Kept.set R6 (by decide) 1 (.slice A1 t.nw c1))).trans (Kept.set R7 (by decide) 2 (.slice A4 (t.nf + 1) c4))
  obtain ⟨us, hu1, hu2⟩ := HC.out.worlds
  have hk0 : Kept [3, 26, 128] w1 _ := ((Kept.of_below (bAlloc (bAlloc (Below.refl w1.heap.size w1) (.cells #[.int .i64 t.wells, .slice A1 t.nw c1, .slice A2 t.nf c2] 25)) (.cells #[.int .i64 f.from_, .int .i64 f.many, .int .i64 f.to_, .int .i64 f.low, .int .i64 f.high] 64))).trans HK4.out).trans hkS
  refine bodyPost_ret (v := .agg #[.int .i64 t.wells, .slice A1 t.nw c1, .slice A4 (t.nf + 1) c4]) (by simp [results, Tryz.results109, go_sem, *]) rfl ⟨⟨_, _, rfl, ⟨us, ?_, hu2.kept hk0 (by simp) (by simp)⟩, ?_⟩, ?_⟩
  · exact owns_lower (owns_kept hu1 hk0 (by simp)) (by simp <;> omega)
  · show World.ownsRow _ w.heap.size 64 5 (.slice A4 (t.nf + 1) c4) (t.nf + 1) (factL (t.add f).fact (t.nf + 1))
    rw [factL_snoc]
    exact owns_lower (owns_setT (owns_setT (owns_setT (owns_setT HO4.out HX4.out (by decide) 2 _) R5 (by decide) 0 _) R6 (by decide) 1 _) R7 (by decide) 2 _) (by omega)
  · have h0 : Below w.heap.size w w4 := bTrans HB.out (by have := HB4.out; simpa using this)
    exact Below.setCell (p := ⟨w.heap.size + 1 + 1, 2, none⟩) (Below.setCell (p := ⟨w.heap.size + 1 + 1, 1, none⟩) (Below.setCell (p := ⟨w.heap.size + 1 + 1, 0, none⟩) (Below.setCell (p := ⟨w1.heap.size, 2, none⟩) h0 (by show w.heap.size ≤ w1.heap.size; omega) _) (by show w.heap.size ≤ w.heap.size + 1 + 1; omega) _) (by show w.heap.size ≤ w.heap.size + 1 + 1; omega) _) (by show w.heap.size ≤ w.heap.size + 1 + 1; omega) _
end Go.Proofs.YtjpfdhhiofjpbaaGreatDoor

namespace Go.Proofs.YtjpfdhhiofjpbaaGreatDoor
open Go.RowKit Go.Sort Go.Shelf
attribute [local go_sem] Oper.semAt_some
set_option maxHeartbeats 8000000 in
set_option maxRecDepth 100000 in
theorem freeP_any (Aw Af Ao Ap As : Option Addr) (cw cf co cp cs : Nat) (t : Pt) (w : World) (hs : t.Small) (hT : PAt w Aw Af Ao Ap As t) (hB : TabAt w) (hN : NoneAt w) :
    Calls Tryz.prog 33 #[.agg #[.int .i64 t.q.wells, .slice Aw t.q.nw cw, .slice Af t.q.nf cf, .slice Ao t.no co, .slice Ap t.np cp, .slice As t.ns cs, .int .i64 t.far, .int .i64 t.harm, .int .i64 t.many]] w fun e w' => NumsOut w' w.heap.size (t.knowErr true) t.frees e ∧ Below w.heap.size w w' := by
  have hb0 := bAlloc (Below.refl w.heap.size w) (.cells #[.int .i64 t.q.wells, .slice Aw t.q.nw cw, .slice Af t.q.nf cf, .slice Ao t.no co, .slice Ap t.np cp, .slice As t.ns cs, .int .i64 t.far, .int .i64 t.harm, .int .i64 t.many] 29)
  have HT := Lib.hid (hT.mono hb0)
  have HTB := Lib.hid (hB.mono hb0)
  have HNA := Lib.hid (hN.mono hb0)
  have HB0 := Lib.hid hb0
  have HSM := Lib.hid hs
  obtain ⟨er, her⟩ : ∃ v, t.knowErr true = v := ⟨_, rfl⟩
  have HER := Lib.hid her
  rw [her]
  clear hs hT hB hN hb0 her
  refine (callsIn_wide (n := 7)).1 ?_
  refine callsIn_of_wp_marks Tryz.func33 rfl trivial ?_ rfl
  simp only [Tryz.ntmps33, List.size_toArray, List.length_cons, List.length_nil, Nat.reduceAdd, Nat.reduceSub, Array.replicate_succ, Array.replicate_zero, List.push_toArray, List.append_toArray, List.nil_append, List.cons_append]
  gi_wp2
  refine ⟨trivial, (callsIn_wide.2 (openP_any Aw Af Ao Ap As cw cf co cp cs t true _ HSM.out HT.out HTB.out)).mono ?_⟩
  rintro e w1 ⟨ho, hb1⟩
  rw [HER.out] at ho
  have HB1 := Lib.hid (bTrans HB0.out hb1)
  have hz1 := hb1.size
  simp only [World.size_alloc] at hz1
  by_cases he : er = 0
  case neg =>
    obtain rfl := ho.1 he
    have g0 : (er != 0) = true := by simp [he]
    have HZ := Lib.hid he
    clear ho he hb1
    gi_wp2
    exact ⟨_, results_tmp2 rfl _ _ _, ⟨fun h => absurd h HZ.out, fun _ => rfl⟩, HB1.out⟩
  subst he
  obtain ⟨ok, _, _⟩ := Pt.knowErr_zero HER.out
  obtain ⟨C, Al, cl, rfl, hst, _⟩ := ho.2 rfl
  have HNA1 := Lib.hid (HNA.out.mono hb1)
  have hb2 : Below w1.heap.size w1 (w1.alloc (.cells #[.slice none 0 0] 26)) := bAlloc (Below.refl _ _) _
  have HSEQ := Lib.hid (free_seq 6 C Aw Af Ao Ap As cw cf co cp cs t Al cl w1 (w1.alloc (.cells #[.slice none 0 0] 26)) (by decide) hst HNA1.out hb2 ok HSM.out)
  have HB2 := Lib.hid hb2
  have hlen : t.frees.length ≤ 100 := by
    have := selTo_len t.freeB t.ns
    have := ok.ns
    unfold Pt.frees
    omega
  have HLEN := Lib.hid hlen
  clear ho hst ok hb2 hlen hb1
  gi_wp2
  refine wpIn_range_caps (gf := 104) (bnd := #[.pointer (some ⟨C, 0, none⟩)]) (lb := #[]) rfl (by decide) rfl trivial (enters_of Tryz.func104 (by kernel_rfl)) HSEQ.out below_chain (fun W l o o' hl _ _ => below_putB (Below.refl _ _) (by simp at hl; omega) _) (fun _ => rfl)
    (fun pre W => (∃ v, Boxed W w1.heap.size 26 v ∧ W.ownsRow (w1.heap.size + 1) 3 1 v pre.length (intE.cells pre) ∧ True) ∧ Below w1.heap.size w1 W)
    (fun c pre W => False)
    (OwnFrom.and (Own.from (holdsRow_own (w1.heap.size + 1) w1.heap.size 26 3 1 List.length intE.cells (fun _ _ => True)) _) (ownFrom_below (Nat.le_refl _) (by simp)))
    (fun c _ _ _ _ hs _ _ => hs)
    ⟨⟨_, Boxed.new w1 _ _, World.ownsRow_nil _ _ _ _, trivial⟩, HB2.out⟩
    (fun x a' W => ∃ u0 u1 u2 u3 u4 u5 u8 u9 u10 u11 u12 u13 u14 u15 u16 u17 u18 u19 u20 u21 u22 u23 u24, a' = { tmps := #[u0, u1, u2, u3, u4, u5, .pointer (some ⟨w1.heap.size, 0, none⟩), .int .i64 x, u8, u9, u10, u11, u12, u13, u14, u15, u16, u17, u18, u19, u20, u21, u22, u23, u24], defers := [] })
    (fun x a' _ X Y row hs hg hr => hs) ?assign ?body ?done ?stop
  case assign =>
    rintro l pre x W K hsz hI hK
    simp only [encF]
    gi_wp2
    exact hK _ _ (KeepsFrom.refl _ _) (Below.refl _ _) hI ⟨_, _, _, _, _, _, _, _, _, _, _, _, _, _, _, _, _, _, _, _, _, _, _, rfl⟩
  case body =>
    rintro l pre x a' W hsz ⟨⟨v, hv, hrow, _⟩, hbel⟩ ⟨u0, u1, u2, u3, u4, u5, u8, u9, u10, u11, u12, u13, u14, u15, u16, u17, u18, u19, u20, u21, u22, u23, u24, rfl⟩ hlen
    have HBL := Lib.hid hbel
    have HV := Lib.hid hv
    have HR := Lib.hid (show OwnE intE W (w1.heap.size + 1) v pre from hrow)
    have hpl : pre.length ≤ 100 := by
      have h1 := hlen.length_le
      rw [List.length_append] at h1
      have := HLEN.out
      omega
    have y0 := hv.cell
    have y1 := hv.frozen
    have z0 := hv.lt
    simp only [World.size_alloc] at hsz
    clear hbel hrow hlen hv
    gi_wp2_with (gi_at_builtin; refine wpListIn_snocE intG _ rfl (Operand.tmp 20) (Operand.tmp 22) rfl (w1.heap.size + 1) v pre x rfl ?q1 W.heap.size rfl ?q2 ?q3 ?q4 ?_)
    case q1 => exact HR.out.mono (bAlloc (Below.refl _ _) _)
    case q2 =>
      intro a u hu
      match a, hu with
      | 0, hu =>
        obtain rfl : Value.int .i64 x = u := by simpa [intE] using hu
        simp [go_sem]
    case q3 => omega
    case q4 => simp; omega
    intro v' w5 hown5 hb5 hg5
    have HB5 := Lib.hid (hb5 w1.heap.size w1 (by omega) (bAlloc HBL.out _))
    have hrowA : World.ownsRow (W.alloc (.cells #[.int .i64 x] 3)) (w1.heap.size + 1) 3 1 v pre.length (intE.cells pre) := owns_below HR.out (bAlloc (Below.refl _ _) _)
    have hv5 := (HV.out.alloc (.cells #[.int .i64 x] 3)).kept hg5 (Boxed.not_row (e := 3) (HV.out.alloc _) (by decide) hrowA)
    clear hrowA
    obtain ⟨g5, c5, rfl⟩ := owns_some hown5 (by simp)
    obtain ⟨n5, hn5⟩ : ∃ n5, (pre ++ [x]).length = n5 := ⟨_, rfl⟩
    rw [hn5] at hown5 ⊢
    clear hn5
    have HV5 := Lib.hid hv5
    have HO5 := Lib.hid hown5
    have HG5 := Lib.hid hg5
    have y5 := hv5.cell
    have y6 := hv5.frozen
    have z5 := hv5.lt
    have hz5 := hg5.size
    simp only [World.size_alloc] at hz5
    clear hb5 hg5 hv5 hown5 y0 y1
    gi_wp2
    have hbN : Below w1.heap.size w1 (w5.setCell ⟨w1.heap.size, 0, none⟩ (.slice (some ⟨g5, 0, none⟩) n5 c5)) := Below.setCell (p := ⟨w1.heap.size, 0, none⟩) HB5.out (Nat.le_refl _) _
    refine ⟨?_, ⟨hbN.os.trans HBL.out.os.symm, hbN.tape.trans HBL.out.tape.symm, hbN.output.trans HBL.out.output.symm, by simp [World.setCell]; omega, fun k hk => (hbN.block k hk).trans (HBL.out.block k hk).symm⟩, ⟨⟨_, HV5.out.set _, HO5.out.set (b := w1.heap.size) (by omega) 0 _, trivial⟩, hbN⟩⟩
    refine ((keeps_below (bAlloc (Below.refl W.heap.size W) _)).trans ((KeepsOthers.of_grownBy HG5.out fun r ob e hob => ?_).from _)).trans ((KeepsOthers.setCell _ _ _).from _)
    obtain ⟨_, cur, hcur⟩ := owns_typed (owns_below HR.out (bAlloc (Below.refl _ _) (.cells #[.int .i64 x] 3))) r e
    rw [hcur] at hob
    injection hob with hob
    rw [← hob]
    rfl
  case done =>
    rintro D xs W hD hxs ⟨⟨v, hv, hrow, _⟩, hbel⟩ hK
    have HBL := Lib.hid hbel
    have HV := Lib.hid hv
    have HR := Lib.hid (show W.ownsRow (w1.heap.size + 1) 3 1 v t.frees.length (numL t.frees) by rw [← intE_cells, ← hxs]; exact hrow)
    have y0 := hv.cell
    clear hbel hv hrow hxs
    gi_wp2
    refine ⟨by simp, .inl ⟨_, _, rfl, run_takeDeferred hK, ?_⟩⟩
    simp only [World.size_alloc] at hD
    exact ⟨_, results_tmp2 rfl _ _ _, ⟨fun _ => ⟨v, rfl, owns_lower (ownsRow_putObj HR.out _ hK rfl) (by omega)⟩, fun h => absurd rfl h⟩, bTrans HB1.out (below_put HBL.out (by have := HV.out.lt; omega) (by omega) _)⟩
  case stop =>
    rintro D c pre W _ _ h _
    exact h.elim
end Go.Proofs.YtjpfdhhiofjpbaaGreatDoor

namespace Go.Proofs.YtjpfdhhiofjpbaaGreatDoor
open Go.RowKit Go.Sort Go.Shelf
attribute [local go_sem] Oper.semAt_some
theorem whole_seq (n C : Nat) (Aw Af Ao Ap As : Option Addr) (cw cf co cp cs : Nat) (t : Pt) (Al : Option Addr) (cl : Nat) (w0 w : World) (hn : 3 ≤ n) (hst : StreetAt w0 C Aw Af Ao Ap As cw cf co cp cs t Al cl) (hN : NoneAt w0) (hb0 : Below w0.heap.size w0 w) (ok : t.Ok) (hsm : t.Small) :
    SeqC Fence.wide n Tryz.prog 107 #[.pointer (some ⟨C, 0, none⟩)] #[] (encW t) (KpT w0.heap.size C) (· = t.cans) (· <+: t.cans) (fun pre x => pre ++ [x] <+: t.cans) w :=
  SeqC.weaken (fun A B h => ⟨fun hA => below_chain hA h.1, h.1.size, h.2⟩) (whole_seqG n C Aw Af Ao Ap As cw cf co cp cs t Al cl (Below w0.heap.size w0) w hn (fun W hW => ⟨hst.mono hW, hN.mono hW⟩) (fun W W' h h' => bTrans h h') hb0 ok hsm)
end Go.Proofs.YtjpfdhhiofjpbaaGreatDoor

namespace Go.Proofs.YtjpfdhhiofjpbaaGreatDoor
open Go.RowKit Go.Sort Go.Shelf
attribute [local go_sem] Oper.semAt_some
theorem cheapest_sel (t : Pt) : oI (bestL (fun x => t.whole x.toNat) t.cans) = optOut t.cheapest := by
  unfold Pt.cans Pt.cheapest
  rw [bestL_sel, oI_opt]
  rfl
set_option maxHeartbeats 4000000 in
set_option maxRecDepth 100000 in
theorem cheapestOutP_any (Aw Af Ao Ap As : Option Addr) (cw cf co cp cs : Nat) (t : Pt) (w : World) (hs : t.Small) (hT : PAt w Aw Af Ao Ap As t) (hB : TabAt w) (hN : NoneAt w) :
    Calls Tryz.prog 47 #[.agg #[.int .i64 t.q.wells, .slice Aw t.q.nw cw, .slice Af t.q.nf cf, .slice Ao t.no co, .slice Ap t.np cp, .slice As t.ns cs, .int .i64 t.far, .int .i64 t.harm, .int .i64 t.many]] w fun e w' => e = .returned (.tuple #[.int .i64 t.cheapestOut.1, .int .i64 t.cheapestOut.2]) ∧ Below w.heap.size w w' := by
  obtain ⟨er, her⟩ : ∃ v, t.knowErr true = v := ⟨_, rfl⟩
  have HE := Lib.hid (show t.cheapestOut = if er = 0 then optOut t.cheapest else (0, er) by unfold Pt.cheapestOut; rw [her])
  have HER := Lib.hid her
  clear her
  have HD0 := Lib.hid (Below.refl w.heap.size w)
  have HSM := Lib.hid hs
  have HT0 := Lib.hid hT
  have HTB0 := Lib.hid hB
  have HNA0 := Lib.hid hN
  clear hs hT hB hN
  go_enter Tryz.func47, Tryz.ntmps47
  go_wp2_with fail
  refine (openP_any Aw Af Ao Ap As cw cf co cp cs t true _ HSM.out (HT0.out.mono (bAlloc (Below.refl _ _) (.cells #[.int .i64 t.q.wells, .slice Aw t.q.nw cw, .slice Af t.q.nf cf, .slice Ao t.no co, .slice Ap t.np cp, .slice As t.ns cs, .int .i64 t.far, .int .i64 t.harm, .int .i64 t.many] 29))) (HTB0.out.mono (bAlloc (Below.refl _ _) (.cells #[.int .i64 t.q.wells, .slice Aw t.q.nw cw, .slice Af t.q.nf cf, .slice Ao t.no co, .slice Ap t.np cp, .slice As t.ns cs, .int .i64 t.far, .int .i64 t.harm, .int .i64 t.many] 29)))).mono ?_
  rintro e w1 ⟨ho, hb⟩
  rw [HER.out] at ho
  have hB1 : Below w.heap.size w w1 := bTrans (bAlloc (Below.refl _ _) (.cells #[.int .i64 t.q.wells, .slice Aw t.q.nw cw, .slice Af t.q.nf cf, .slice Ao t.no co, .slice Ap t.np cp, .slice As t.ns cs, .int .i64 t.far, .int .i64 t.harm, .int .i64 t.many] 29)) hb
  have HD1 := Lib.hid (bTrans HD0.out hB1)
  have HT1 := Lib.hid (HT0.out.mono hB1)
  have HTB1 := Lib.hid (HTB0.out.mono hB1)
  have HNA1 := Lib.hid (HNA0.out.mono hB1)
  have T1 := Lib.hid (show TBox w1 w.heap.size 29 #[.int .i64 t.q.wells, .slice Aw t.q.nw cw, .slice Af t.q.nf cf, .slice Ao t.no co, .slice Ap t.np cp, .slice As t.ns cs, .int .i64 t.far, .int .i64 t.harm, .int .i64 t.many] from by have := ((TBox.new w #[.int .i64 t.q.wells, .slice Aw t.q.nw cw, .slice Af t.q.nf cf, .slice Ao t.no co, .slice Ap t.np cp, .slice As t.ns cs, .int .i64 t.far, .int .i64 t.harm, .int .i64 t.many] 29).mono (Below.refl _ _)).mono hb; simpa using this)
  clear hb hB1 HD0 HT0 HTB0 HNA0
  obtain ⟨T_0, T_1, T_2, T_3, T_4, T_5, T_6, T_7, T_8, T_l⟩ := T1.out.c9
  by_cases he : er = 0
  case neg =>
    obtain rfl := ho.1 he
    clear ho
    have g0 : (er != 0) = true := by simp [he]
    have HR := Lib.hid (show t.cheapestOut = (0, er) by rw [HE.out, if_neg he])
    clear he
    go_wp2_with fail
    go_ret2
    exact ⟨by rw [HR.out]; rfl, HD1.out⟩
  subst he
  obtain ⟨ok, _, _⟩ := Pt.knowErr_zero HER.out
  have HOK := Lib.hid ok
  obtain ⟨C, Al, cl, rfl, hst, hC⟩ := ho.2 rfl
  have HST := Lib.hid hst
  have HR := Lib.hid (show oI (bestL (fun x => t.whole x.toNat) t.cans) = t.cheapestOut by rw [cheapest_sel, HE.out, if_pos rfl])
  clear ho ok hst hC
  go_wp2_with fail
  refine (cheapestP_any 107 w1.heap.size C #[.pointer (some ⟨C, 0, none⟩)] #[] (fun x => t.whole x.toNat) t.cans w1 (Nat.le_refl _) sel_pos (enters_of Tryz.func107 (by kernel_rfl)) (fun w' hb => whole_seq 6 C Aw Af Ao Ap As cw cf co cp cs t Al cl w1 w' (by decide) HST.out HNA1.out hb HOK.out HSM.out)).mono ?_
  rintro e w2 ⟨rfl, hb⟩
  rw [HR.out]
  have hB2 : Below w1.heap.size w1 w2 := bTrans (Below.refl _ _) hb
  have HD2 := Lib.hid (bTrans HD1.out hB2)
  have HT2 := Lib.hid (HT1.out.mono hB2)
  have HTB2 := Lib.hid (HTB1.out.mono hB2)
  have HNA2 := Lib.hid (HNA1.out.mono hB2)
  have T2 := Lib.hid (T1.out.mono hB2)
  clear hb hB2 HD1 HT1 HTB1 HNA1 T1 T_0 T_1 T_2 T_3 T_4 T_5 T_6 T_7 T_8 T_l
  obtain ⟨T_0, T_1, T_2, T_3, T_4, T_5, T_6, T_7, T_8, T_l⟩ := T2.out.c9
  go_wp2_with fail
  go_ret2
  exact ⟨rfl, HD2.out⟩
set_option maxHeartbeats 8000000 in
set_option maxRecDepth 100000 in
theorem wholeP_any (Aw Af Ao Ap As : Option Addr) (cw cf co cp cs : Nat) (t : Pt) (n : Int) (w : World) (hs : t.Small) (hT : PAt w Aw Af Ao Ap As t) (hB : TabAt w) (hN : NoneAt w) :
    Calls Tryz.prog 49 #[.agg #[.int .i64 t.q.wells, .slice Aw t.q.nw cw, .slice Af t.q.nf cf, .slice Ao t.no co, .slice Ap t.np cp, .slice As t.ns cs, .int .i64 t.far, .int .i64 t.harm, .int .i64 t.many], .int .i64 n] w fun e w' => e = .returned (.tuple #[.int .i64 (t.wholeOut n).1, .int .i64 (t.wholeOut n).2]) ∧ Below w.heap.size w w' := by
  obtain ⟨bb, hbb⟩ : ∃ b, t.hasB n = b := ⟨_, rfl⟩
  obtain ⟨er, her⟩ : ∃ v, t.knowErr bb = v := ⟨_, rfl⟩
  have HC1 := Lib.hid (fun w => hbb ▸ hasP_any Aw Af Ao Ap As cw cf co cp cs t n w hs.ns : ∀ w : World, Calls Tryz.prog 87 #[.agg #[.int .i64 t.q.wells, .slice Aw t.q.nw cw, .slice Af t.q.nf cf, .slice Ao t.no co, .slice Ap t.np cp, .slice As t.ns cs, .int .i64 t.far, .int .i64 t.harm, .int .i64 t.many], .int .i64 n] w fun e w' => e = .returned (.bool bb) ∧ Below w.heap.size w w')
  have HE := Lib.hid (show t.wholeOut n = if er = 0 then (if t.canB n.toNat then (t.whole n.toNat, 0) else (0, 3)) else (0, er) by unfold Pt.wholeOut; rw [hbb, her])
  have HER := Lib.hid her
  have HBB := Lib.hid hbb
  clear hbb her
  have HD0 := Lib.hid (Below.refl w.heap.size w)
  have HSM := Lib.hid hs
  have HT0 := Lib.hid hT
  have HTB0 := Lib.hid hB
  have HNA0 := Lib.hid hN
  clear hs hT hB hN
  refine (callsIn_wide (n := 7)).1 ?_
  refine callsIn_of_wp_marks Tryz.func49 rfl trivial ?_ rfl
  simp only [Tryz.ntmps49, List.size_toArray, List.length_cons, List.length_nil, Nat.reduceAdd, Nat.reduceSub, Array.replicate_succ, Array.replicate_zero, List.push_toArray, List.append_toArray, List.nil_append, List.cons_append]
  refine wpIn_wide.2 ?_
  by_cases he : er = 0
  case neg =>
    have g0 : (er != 0) = true := by simp [he]
    have HNZ := Lib.hid he
    have HR := Lib.hid (show t.wholeOut n = (0, er) by rw [HE.out, if_neg he])
    clear he
    go_wp2_with fail
    have HCO := Lib.hid (fun (w' : World) (hb : Below ((((w.alloc (.cells #[.int .i64 t.q.wells, .slice Aw t.q.nw cw, .slice Af t.q.nf cf, .slice Ao t.no co, .slice Ap t.np cp, .slice As t.ns cs, .int .i64 t.far, .int .i64 t.harm, .int .i64 t.many] 29)).alloc (.cells #[.int .i64 n] 3)).alloc (.cells #[.int .i64 0] 3)).alloc (.cells #[.int .i64 0] 33)).heap.size ((((w.alloc (.cells #[.int .i64 t.q.wells, .slice Aw t.q.nw cw, .slice Af t.q.nf cf, .slice Ao t.no co, .slice Ap t.np cp, .slice As t.ns cs, .int .i64 t.far, .int .i64 t.harm, .int .i64 t.many] 29)).alloc (.cells #[.int .i64 n] 3)).alloc (.cells #[.int .i64 0] 3)).alloc (.cells #[.int .i64 0] 33)) w') => ((openP_any Aw Af Ao Ap As cw cf co cp cs t bb w' HSM.out ((HT0.out.mono (bAlloc (bAlloc (bAlloc (bAlloc (Below.refl _ _) (.cells #[.int .i64 t.q.wells, .slice Aw t.q.nw cw, .slice Af t.q.nf cf, .slice Ao t.no co, .slice Ap t.np cp, .slice As t.ns cs, .int .i64 t.far, .int .i64 t.harm, .int .i64 t.many] 29)) (.cells #[.int .i64 n] 3)) (.cells #[.int .i64 0] 3)) (.cells #[.int .i64 0] 33))).mono hb) ((HTB0.out.mono (bAlloc (bAlloc (bAlloc (bAlloc (Below.refl _ _) (.cells #[.int .i64 t.q.wells, .slice Aw t.q.nw cw, .slice Af t.q.nf cf, .slice Ao t.no co, .slice Ap t.np cp, .slice As t.ns cs, .int .i64 t.far, .int .i64 t.harm, .int .i64 t.many] 29)) (.cells #[.int .i64 n] 3)) (.cells #[.int .i64 0] 3)) (.cells #[.int .i64 0] 33))).mono hb)).mono fun e w'' h => ⟨(HER.out ▸ h.1).lower hb.size, h.2⟩ : Calls Tryz.prog 94 #[.agg #[.int .i64 t.q.wells, .slice Aw t.q.nw cw, .slice Af t.q.nf cf, .slice Ao t.no co, .slice Ap t.np cp, .slice As t.ns cs, .int .i64 t.far, .int .i64 t.harm, .int .i64 t.many], .bool bb] w' fun e w'' => StrOut w'' ((((w.alloc (.cells #[.int .i64 t.q.wells, .slice Aw t.q.nw cw, .slice Af t.q.nf cf, .slice Ao t.no co, .slice Ap t.np cp, .slice As t.ns cs, .int .i64 t.far, .int .i64 t.harm, .int .i64 t.many] 29)).alloc (.cells #[.int .i64 n] 3)).alloc (.cells #[.int .i64 0] 3)).alloc (.cells #[.int .i64 0] 33)).heap.size Aw Af Ao Ap As cw cf co cp cs t er e ∧ Below w'.heap.size w' w''))
    refine wp_region_call 4 (fun v w2 => StrOut w2 ((((w.alloc (.cells #[.int .i64 t.q.wells, .slice Aw t.q.nw cw, .slice Af t.q.nf cf, .slice Ao t.no co, .slice Ap t.np cp, .slice As t.ns cs, .int .i64 t.far, .int .i64 t.harm, .int .i64 t.many] 29)).alloc (.cells #[.int .i64 n] 3)).alloc (.cells #[.int .i64 0] 3)).alloc (.cells #[.int .i64 0] 33)).heap.size Aw Af Ao Ap As cw cf co cp cs t er (.returned v) ∧ Below ((((w.alloc (.cells #[.int .i64 t.q.wells, .slice Aw t.q.nw cw, .slice Af t.q.nf cf, .slice Ao t.no co, .slice Ap t.np cp, .slice As t.ns cs, .int .i64 t.far, .int .i64 t.harm, .int .i64 t.many] 29)).alloc (.cells #[.int .i64 n] 3)).alloc (.cells #[.int .i64 0] 3)).alloc (.cells #[.int .i64 0] 33)).heap.size ((((w.alloc (.cells #[.int .i64 t.q.wells, .slice Aw t.q.nw cw, .slice Af t.q.nf cf, .slice Ao t.no co, .slice Ap t.np cp, .slice As t.ns cs, .int .i64 t.far, .int .i64 t.harm, .int .i64 t.many] 29)).alloc (.cells #[.int .i64 n] 3)).alloc (.cells #[.int .i64 0] 3)).alloc (.cells #[.int .i64 0] 33)) w2) (by kernel_rfl) (by decide +kernel) rfl ?_
    apply Exists.intro
    refine ⟨fun K hK => ?_, ?_, fun w1 hb1 K Q' hK => ?_, ?_⟩
    · skip
      repeat (first | (refine wpCalm_skip rfl ?_) | (refine wpCalm_step rfl (fun K hK => ?_); go_simp; (first | (refine hK _ ?_; clear hK K) | (apply Exists.intro; refine ⟨fun _ => ?_, hK _ ?_⟩; ((first | (go_at_call 87; with_reducible exact newer_of (HC1.out _)))); clear hK K))))
      refine wpCalm_nil ?_
      exact hK
    · rfl
    · go_simp
      refine (HCO.out w1 hb1).mono ?_
      rintro e w2 ⟨ho, hb2⟩
      obtain ⟨v, rfl⟩ := StrOut.ret ho
      exact hK v w2 ⟨ho, bTrans hb1 hb2⟩
    clear HCO
    rintro v w2 ⟨ho, hb2⟩
    obtain rfl := Ending.returned.inj (ho.1 HNZ.out)
    clear ho
    apply Exists.intro
    refine ⟨fun K hK => ?_, fun w1 hb3 => ?_⟩
    · skip
      repeat (first | (refine wpCalm_skip rfl ?_) | (refine wpCalm_step rfl (fun K hK => ?_); go_simp; (first | (refine hK _ ?_; clear hK K) | (apply Exists.intro; refine ⟨fun _ => ?_, hK _ ?_⟩; (fail); clear hK K))))
      refine wpCalm_nil ?_
      exact hK
    have hb := bTrans hb2 hb3
    clear hb2 hb3
    have hB1 : Below w.heap.size w w1 := bTrans (bAlloc (bAlloc (bAlloc (bAlloc (Below.refl _ _) (.cells #[.int .i64 t.q.wells, .slice Aw t.q.nw cw, .slice Af t.q.nf cf, .slice Ao t.no co, .slice Ap t.np cp, .slice As t.ns cs, .int .i64 t.far, .int .i64 t.harm, .int .i64 t.many] 29)) (.cells #[.int .i64 n] 3)) (.cells #[.int .i64 0] 3)) (.cells #[.int .i64 0] 33)) hb
    have HD1 := Lib.hid (bTrans HD0.out hB1)
    have HT1 := Lib.hid (HT0.out.mono hB1)
    have HTB1 := Lib.hid (HTB0.out.mono hB1)
    have HNA1 := Lib.hid (HNA0.out.mono hB1)
    have T1 := Lib.hid (show TBox w1 w.heap.size 29 #[.int .i64 t.q.wells, .slice Aw t.q.nw cw, .slice Af t.q.nf cf, .slice Ao t.no co, .slice Ap t.np cp, .slice As t.ns cs, .int .i64 t.far, .int .i64 t.harm, .int .i64 t.many] from by have := ((TBox.new w #[.int .i64 t.q.wells, .slice Aw t.q.nw cw, .slice Af t.q.nf cf, .slice Ao t.no co, .slice Ap t.np cp, .slice As t.ns cs, .int .i64 t.far, .int .i64 t.harm, .int .i64 t.many] 29).mono (bAlloc (bAlloc (bAlloc (Below.refl _ _) (.cells #[.int .i64 n] 3)) (.cells #[.int .i64 0] 3)) (.cells #[.int .i64 0] 33))).mono hb; simpa using this)
    have SP1 := Lib.hid (show TBox w1 (w.heap.size + 1) 3 #[.int .i64 n] from by have := ((TBox.new (w.alloc (.cells #[.int .i64 t.q.wells, .slice Aw t.q.nw cw, .slice Af t.q.nf cf, .slice Ao t.no co, .slice Ap t.np cp, .slice As t.ns cs, .int .i64 t.far, .int .i64 t.harm, .int .i64 t.many] 29)) #[.int .i64 n] 3).mono (bAlloc (bAlloc (Below.refl _ _) (.cells #[.int .i64 0] 3)) (.cells #[.int .i64 0] 33))).mono hb; simpa using this)
    have R1 := Lib.hid (show TBox w1 (w.heap.size + 1 + 1) 3 #[.int .i64 0] from by have := ((TBox.new ((w.alloc (.cells #[.int .i64 t.q.wells, .slice Aw t.q.nw cw, .slice Af t.q.nf cf, .slice Ao t.no co, .slice Ap t.np cp, .slice As t.ns cs, .int .i64 t.far, .int .i64 t.harm, .int .i64 t.many] 29)).alloc (.cells #[.int .i64 n] 3)) #[.int .i64 0] 3).mono (bAlloc (Below.refl _ _) (.cells #[.int .i64 0] 33))).mono hb; simpa using this)
    have E1 := Lib.hid (show TBox w1 (w.heap.size + 1 + 1 + 1) 33 #[.int .i64 0] from by have := ((TBox.new (((w.alloc (.cells #[.int .i64 t.q.wells, .slice Aw t.q.nw cw, .slice Af t.q.nf cf, .slice Ao t.no co, .slice Ap t.np cp, .slice As t.ns cs, .int .i64 t.far, .int .i64 t.harm, .int .i64 t.many] 29)).alloc (.cells #[.int .i64 n] 3)).alloc (.cells #[.int .i64 0] 3)) #[.int .i64 0] 33).mono (Below.refl _ _)).mono hb; simpa using this)
    clear hb hB1 HD0 HT0 HTB0 HNA0
    obtain ⟨T_0, T_1, T_2, T_3, T_4, T_5, T_6, T_7, T_8, T_l⟩ := T1.out.c9
    obtain ⟨SP_0, SP_l⟩ := SP1.out.c1
    obtain ⟨R_0, R_l⟩ := R1.out.c1
    obtain ⟨E_0, E_l⟩ := E1.out.c1
    have f4 := R1.out.frozen 0
    have f5 := E1.out.frozen 0
    go_wp2_with fail
    exact ⟨.tuple #[.int .i64 0, .int .i64 er], by simp [results, Tryz.results49, go_sem, *], by rw [HR.out], Below.setCell (p := ⟨w.heap.size + 1 + 1 + 1, 0, none⟩) (Below.setCell (p := ⟨w.heap.size + 1 + 1, 0, none⟩) HD1.out (by simp <;> omega) (.int .i64 0)) (by simp <;> omega) (.int .i64 er)⟩
  subst he
  obtain ⟨ok, rfl, _⟩ := Pt.knowErr_zero HER.out
  have HOK := Lib.hid ok
  have hn := hasB_iff.1 HBB.out
  obtain ⟨i, rfl⟩ : ∃ i : Nat, n = (i : Int) := ⟨n.toNat, by omega⟩
  have HI := Lib.hid (show i < t.ns by omega)
  have HR := Lib.hid (show t.wholeOut (i : Int) = if t.canB i then (t.whole i, 0) else (0, 3) by rw [HE.out, if_pos rfl, Int.toNat_natCast])
  clear ok hn
  go_wp2_with fail
  have HCO := Lib.hid (fun (w' : World) (hb : Below ((((w.alloc (.cells #[.int .i64 t.q.wells, .slice Aw t.q.nw cw, .slice Af t.q.nf cf, .slice Ao t.no co, .slice Ap t.np cp, .slice As t.ns cs, .int .i64 t.far, .int .i64 t.harm, .int .i64 t.many] 29)).alloc (.cells #[.int .i64 (i : Int)] 3)).alloc (.cells #[.int .i64 0] 3)).alloc (.cells #[.int .i64 0] 33)).heap.size ((((w.alloc (.cells #[.int .i64 t.q.wells, .slice Aw t.q.nw cw, .slice Af t.q.nf cf, .slice Ao t.no co, .slice Ap t.np cp, .slice As t.ns cs, .int .i64 t.far, .int .i64 t.harm, .int .i64 t.many] 29)).alloc (.cells #[.int .i64 (i : Int)] 3)).alloc (.cells #[.int .i64 0] 3)).alloc (.cells #[.int .i64 0] 33)) w') => ((openP_any Aw Af Ao Ap As cw cf co cp cs t true w' HSM.out ((HT0.out.mono (bAlloc (bAlloc (bAlloc (bAlloc (Below.refl _ _) (.cells #[.int .i64 t.q.wells, .slice Aw t.q.nw cw, .slice Af t.q.nf cf, .slice Ao t.no co, .slice Ap t.np cp, .slice As t.ns cs, .int .i64 t.far, .int .i64 t.harm, .int .i64 t.many] 29)) (.cells #[.int .i64 (i : Int)] 3)) (.cells #[.int .i64 0] 3)) (.cells #[.int .i64 0] 33))).mono hb) ((HTB0.out.mono (bAlloc (bAlloc (bAlloc (bAlloc (Below.refl _ _) (.cells #[.int .i64 t.q.wells, .slice Aw t.q.nw cw, .slice Af t.q.nf cf, .slice Ao t.no co, .slice Ap t.np cp, .slice As t.ns cs, .int .i64 t.far, .int .i64 t.harm, .int .i64 t.many] 29)) (.cells #[.int .i64 (i : Int)] 3)) (.cells #[.int .i64 0] 3)) (.cells #[.int .i64 0] 33))).mono hb)).mono fun e w'' h => ⟨(HER.out ▸ h.1).lower hb.size, h.2⟩ : Calls Tryz.prog 94 #[.agg #[.int .i64 t.q.wells, .slice Aw t.q.nw cw, .slice Af t.q.nf cf, .slice Ao t.no co, .slice Ap t.np cp, .slice As t.ns cs, .int .i64 t.far, .int .i64 t.harm, .int .i64 t.many], .bool true] w' fun e w'' => StrOut w'' ((((w.alloc (.cells #[.int .i64 t.q.wells, .slice Aw t.q.nw cw, .slice Af t.q.nf cf, .slice Ao t.no co, .slice Ap t.np cp, .slice As t.ns cs, .int .i64 t.far, .int .i64 t.harm, .int .i64 t.many] 29)).alloc (.cells #[.int .i64 (i : Int)] 3)).alloc (.cells #[.int .i64 0] 3)).alloc (.cells #[.int .i64 0] 33)).heap.size Aw Af Ao Ap As cw cf co cp cs t 0 e ∧ Below w'.heap.size w' w''))
  refine wp_region_call 4 (fun v w2 => StrOut w2 ((((w.alloc (.cells #[.int .i64 t.q.wells, .slice Aw t.q.nw cw, .slice Af t.q.nf cf, .slice Ao t.no co, .slice Ap t.np cp, .slice As t.ns cs, .int .i64 t.far, .int .i64 t.harm, .int .i64 t.many] 29)).alloc (.cells #[.int .i64 (i : Int)] 3)).alloc (.cells #[.int .i64 0] 3)).alloc (.cells #[.int .i64 0] 33)).heap.size Aw Af Ao Ap As cw cf co cp cs t 0 (.returned v) ∧ Below ((((w.alloc (.cells #[.int .i64 t.q.wells, .slice Aw t.q.nw cw, .slice Af t.q.nf cf, .slice Ao t.no co, .slice Ap t.np cp, .slice As t.ns cs, .int .i64 t.far, .int .i64 t.harm, .int .i64 t.many] 29)).alloc (.cells #[.int .i64 (i : Int)] 3)).alloc (.cells #[.int .i64 0] 3)).alloc (.cells #[.int .i64 0] 33)).heap.size ((((w.alloc (.cells #[.int .i64 t.q.wells, .slice Aw t.q.nw cw, .slice Af t.q.nf cf, .slice Ao t.no co, .slice Ap t.np cp, .slice As t.ns cs, .int .i64 t.far, .int .i64 t.harm, .int .i64 t.many] 29)).alloc (.cells #[.int .i64 (i : Int)] 3)).alloc (.cells #[.int .i64 0] 3)).alloc (.cells #[.int .i64 0] 33)) w2) (by kernel_rfl) (by decide +kernel) rfl ?_
  apply Exists.intro
  refine ⟨fun K hK => ?_, ?_, fun w1 hb1 K Q' hK => ?_, ?_⟩
  · skip
    repeat (first | (refine wpCalm_skip rfl ?_) | (refine wpCalm_step rfl (fun K hK => ?_); go_simp; (first | (refine hK _ ?_; clear hK K) | (apply Exists.intro; refine ⟨fun _ => ?_, hK _ ?_⟩; ((first | (go_at_call 87; with_reducible exact newer_of (HC1.out _)))); clear hK K))))
    refine wpCalm_nil ?_
    exact hK
  · rfl
  · go_simp
    refine (HCO.out w1 hb1).mono ?_
    rintro e w2 ⟨ho, hb2⟩
    obtain ⟨v, rfl⟩ := StrOut.ret ho
    exact hK v w2 ⟨ho, bTrans hb1 hb2⟩
  clear HCO
  rintro v w2 ⟨ho, hb2⟩
  obtain ⟨C, Al, cl, e1, hst, hC⟩ := ho.2 rfl
  obtain rfl := Ending.returned.inj e1
  clear ho e1
  apply Exists.intro
  refine ⟨fun K hK => ?_, fun w1 hb3 => ?_⟩
  · skip
    repeat (first | (refine wpCalm_skip rfl ?_) | (refine wpCalm_step rfl (fun K hK => ?_); go_simp; (first | (refine hK _ ?_; clear hK K) | (apply Exists.intro; refine ⟨fun _ => ?_, hK _ ?_⟩; (fail); clear hK K))))
    refine wpCalm_nil ?_
    exact hK
  have hst := hst.mono hb3
  have hb := bTrans hb2 hb3
  clear hb2 hb3
  have hB1 : Below w.heap.size w w1 := bTrans (bAlloc (bAlloc (bAlloc (bAlloc (Below.refl _ _) (.cells #[.int .i64 t.q.wells, .slice Aw t.q.nw cw, .slice Af t.q.nf cf, .slice Ao t.no co, .slice Ap t.np cp, .slice As t.ns cs, .int .i64 t.far, .int .i64 t.harm, .int .i64 t.many] 29)) (.cells #[.int .i64 (i : Int)] 3)) (.cells #[.int .i64 0] 3)) (.cells #[.int .i64 0] 33)) hb
  have HD1 := Lib.hid (bTrans HD0.out hB1)
  have HT1 := Lib.hid (HT0.out.mono hB1)
  have HTB1 := Lib.hid (HTB0.out.mono hB1)
  have HNA1 := Lib.hid (HNA0.out.mono hB1)
  have HST1 := Lib.hid (hst)
  have T1 := Lib.hid (show TBox w1 w.heap.size 29 #[.int .i64 t.q.wells, .slice Aw t.q.nw cw, .slice Af t.q.nf cf, .slice Ao t.no co, .slice Ap t.np cp, .slice As t.ns cs, .int .i64 t.far, .int .i64 t.harm, .int .i64 t.many] from by have := ((TBox.new w #[.int .i64 t.q.wells, .slice Aw t.q.nw cw, .slice Af t.q.nf cf, .slice Ao t.no co, .slice Ap t.np cp, .slice As t.ns cs, .int .i64 t.far, .int .i64 t.harm, .int .i64 t.many] 29).mono (bAlloc (bAlloc (bAlloc (Below.refl _ _) (.cells #[.int .i64 (i : Int)] 3)) (.cells #[.int .i64 0] 3)) (.cells #[.int .i64 0] 33))).mono hb; simpa using this)
  have SP1 := Lib.hid (show TBox w1 (w.heap.size + 1) 3 #[.int .i64 (i : Int)] from by have := ((TBox.new (w.alloc (.cells #[.int .i64 t.q.wells, .slice Aw t.q.nw cw, .slice Af t.q.nf cf, .slice Ao t.no co, .slice Ap t.np cp, .slice As t.ns cs, .int .i64 t.far, .int .i64 t.harm, .int .i64 t.many] 29)) #[.int .i64 (i : Int)] 3).mono (bAlloc (bAlloc (Below.refl _ _) (.cells #[.int .i64 0] 3)) (.cells #[.int .i64 0] 33))).mono hb; simpa using this)
  have R1 := Lib.hid (show TBox w1 (w.heap.size + 1 + 1) 3 #[.int .i64 0] from by have := ((TBox.new ((w.alloc (.cells #[.int .i64 t.q.wells, .slice Aw t.q.nw cw, .slice Af t.q.nf cf, .slice Ao t.no co, .slice Ap t.np cp, .slice As t.ns cs, .int .i64 t.far, .int .i64 t.harm, .int .i64 t.many] 29)).alloc (.cells #[.int .i64 (i : Int)] 3)) #[.int .i64 0] 3).mono (bAlloc (Below.refl _ _) (.cells #[.int .i64 0] 33))).mono hb; simpa using this)
  have E1 := Lib.hid (show TBox w1 (w.heap.size + 1 + 1 + 1) 33 #[.int .i64 0] from by have := ((TBox.new (((w.alloc (.cells #[.int .i64 t.q.wells, .slice Aw t.q.nw cw, .slice Af t.q.nf cf, .slice Ao t.no co, .slice Ap t.np cp, .slice As t.ns cs, .int .i64 t.far, .int .i64 t.harm, .int .i64 t.many] 29)).alloc (.cells #[.int .i64 (i : Int)] 3)).alloc (.cells #[.int .i64 0] 3)) #[.int .i64 0] 33).mono (Below.refl _ _)).mono hb; simpa using this)
  clear hb hB1 HD0 HT0 HTB0 HNA0
  obtain ⟨T_0, T_1, T_2, T_3, T_4, T_5, T_6, T_7, T_8, T_l⟩ := T1.out.c9
  obtain ⟨SP_0, SP_l⟩ := SP1.out.c1
  obtain ⟨R_0, R_l⟩ := R1.out.c1
  obtain ⟨E_0, E_l⟩ := E1.out.c1
  have HC := Lib.hid hC
  clear hst hC
  have hst := HST1.out
  have HSEQ := Lib.hid (whole_seq 6 C Aw Af Ao Ap As cw cf co cp cs t Al cl w1 w1 (by decide) hst HNA1.out (Below.refl _ _) HOK.out HSM.out)
  have hD := HD1.out
  have hzk := hD.size
  clear hst
  go_wp2_with fail
  refine (wpIn_wide (n := 7)).1 ?_
  refine wpIn_range_caps (gf := 107) (bnd := #[.pointer (some ⟨C, 0, none⟩)]) (lb := #[]) rfl (by decide) rfl trivial (enters_of Tryz.func107 (by kernel_rfl)) HSEQ.out (fun h k => h.trans k) (fun W l o o' hl ho hc => KpT.put hl ho hc _) (fun _ => rfl)
    (fun pre W => (i : Int) ∉ pre ∧ Below w1.heap.size w1 W)
    (fun c pre W => c = .ret ∧ (i : Int) ∈ pre ∧ Boxed W (w.heap.size + 1 + 1) 3 (.int .i64 (t.whole i)) ∧ Boxed W (w.heap.size + 1 + 1 + 1) 33 (.int .i64 0) ∧ Below w.heap.size w W)
    ((ownFrom_pure _ (fun pre : List Int => (i : Int) ∉ pre)).and (ownFrom_below (Nat.le_refl _) (Nat.le_refl _)))
    (fun c => (ownFrom_pure _ (fun _ => c = .ret)).and ((ownFrom_pure _ (fun pre : List Int => (i : Int) ∈ pre)).and (((boxed_own _ _ (fun _ => .int .i64 (t.whole i))).from _).and (((boxed_own _ _ (fun _ => .int .i64 0)).from _).and (ownFrom_below (by omega) (by omega))))))
    ⟨by simp, Below.refl _ _⟩
    (fun x a' W => ∃ v0 v1 v2 v6 v7 v10 v11 v12 v13 v14 v15 v16 v17 v18 v19 v20 v21 v22 v23 v24 v25 v26 v27 v28, a' = { tmps := #[v0, v1, v2, .pointer (some ⟨w.heap.size + 1, 0, none⟩), .pointer (some ⟨w.heap.size + 1 + 1, 0, none⟩), .pointer (some ⟨w.heap.size + 1 + 1 + 1, 0, none⟩), v6, v7, .int .i64 x, .int .i64 (t.whole x.toNat), v10, v11, v12, v13, v14, v15, v16, v17, v18, v19, v20, v21, v22, v23, v24, v25, v26, v27, v28], defers := [] })
    (fun x a' _ X Y row hs hg hr => hs) ?assign ?body ?done ?stop
  case assign =>
    rintro l pre x W K hsz hI hK
    simp only [encW]
    gi_wp2
    exact hK _ _ (KeepsFrom.refl _ _) (KpT.refl _ _ _) hI ⟨_, _, _, _, _, _, _, _, _, _, _, _, _, _, _, _, _, _, _, _, _, _, _, _, rfl⟩
  case body =>
    rintro l pre x a' W hsz ⟨hpre, hbel⟩ ⟨v0, v1, v2, v6, v7, v10, v11, v12, v13, v14, v15, v16, v17, v18, v19, v20, v21, v22, v23, v24, v25, v26, v27, v28, rfl⟩ hlen
    have HBL := Lib.hid hbel
    have HP := Lib.hid hpre
    have hsp := SP1.out.mono hbel
    have hr := R1.out.mono hbel
    have he := E1.out.mono hbel
    have x0 := hsp.cell 0
    have x1 := hsp.lt
    have y0 := hr.cell 0
    have y1 := hr.frozen 0
    have y2 := hr.lt
    have z0 := he.cell 0
    have z1 := he.frozen 0
    have z2 := he.lt
    have HRB := Lib.hid (show Boxed W (w.heap.size + 1 + 1) 3 (.int .i64 0) from hr)
    have HEB := Lib.hid (show Boxed W (w.heap.size + 1 + 1 + 1) 33 (.int .i64 0) from he)
    clear hbel hpre hlen hsp hr he
    by_cases hx : x = (i : Int)
    · subst hx
      have g0 : ((i : Int) == (i : Int)) = true := by simp
      gi_wp2
      refine ⟨((KeepsOthers.setCell _ _ _).from _).trans ((KeepsOthers.setCell _ _ _).from _), rfl, by simp, ?_, ?_, ?_⟩
      · have := (HRB.out.set (.int .i64 (t.whole i))).other (B' := w.heap.size + 1 + 1 + 1) (by omega) (.int .i64 0)
        simpa using this
      · exact (HEB.out.other (B' := w.heap.size + 1 + 1) (by omega) (.int .i64 (t.whole (i : Int).toNat))).set _
      · exact Below.setCell (p := ⟨w.heap.size + 1 + 1 + 1, 0, none⟩) (Below.setCell (p := ⟨w.heap.size + 1 + 1, 0, none⟩) (bTrans HD1.out HBL.out) (by simp <;> omega) _) (by simp <;> omega) _
    · have g0 : (x == (i : Int)) = false := by simp; exact hx
      gi_wp2
      exact ⟨KeepsFrom.refl _ _, KpT.refl _ _ _, by simp; exact ⟨HP.out, fun e => hx e.symm⟩, HBL.out⟩
  case done =>
    rintro D xs W hD hxs ⟨hno, hbel⟩ hK
    have HBL := Lib.hid hbel
    have hcan : t.canB i = false := by
      cases hc : t.canB i
      · rfl
      · exact absurd (hxs ▸ selTo_mem.2 ⟨i, HI.out, hc, rfl⟩) hno
    have HR2 := Lib.hid (show t.wholeOut (i : Int) = (0, 3) by rw [HR.out, hcan]; rfl)
    have hr := R1.out.mono hbel
    have he := E1.out.mono hbel
    have y0 := hr.cell 0
    have y1 := hr.frozen 0
    have y2 := hr.lt
    have z0 := he.cell 0
    have z1 := he.frozen 0
    have z2 := he.lt
    have HRB := Lib.hid (show Boxed W (w.heap.size + 1 + 1) 3 (.int .i64 0) from hr)
    have HEB := Lib.hid (show Boxed W (w.heap.size + 1 + 1 + 1) 33 (.int .i64 0) from he)
    clear hbel hno hcan hxs hr he
    go_wp2_with fail
    have hK2 := (KeepsOthers.setCell (W.setCell ⟨w.heap.size + 1 + 1, 0, none⟩ (.int .i64 0)) ⟨w.heap.size + 1 + 1 + 1, 0, none⟩ (.int .i64 3)).same D _ ((KeepsOthers.setCell W ⟨w.heap.size + 1 + 1, 0, none⟩ (.int .i64 0)).same D _ hK rfl) rfl
    have hb1 := (HRB.out.set (.int .i64 0)).other (B' := w.heap.size + 1 + 1 + 1) (by omega) (.int .i64 3)
    have hb2 := (HEB.out.other (B' := w.heap.size + 1 + 1) (by omega) (.int .i64 0)).set (.int .i64 3)
    refine ⟨by simp, .inl ⟨_, _, rfl, run_takeDeferred hK2, ?_⟩⟩
    have c4 := cell_kept hb1.cell (grownBy_putObj' _ D (.deferred none)) (fun r e => by cases e; exact ⟨_, hK2, rfl⟩)
    have c5 := cell_kept hb2.cell (grownBy_putObj' _ D (.deferred none)) (fun r e => by cases e; exact ⟨_, hK2, rfl⟩)
    refine ⟨.tuple #[.int .i64 0, .int .i64 3], by simp [results, Tryz.results49, go_sem, c4, c5], by rw [HR2.out], ?_⟩
    exact below_put (Below.setCell (p := ⟨w.heap.size + 1 + 1 + 1, 0, none⟩) (Below.setCell (p := ⟨w.heap.size + 1 + 1, 0, none⟩) (bTrans HD1.out HBL.out) (by simp <;> omega) _) (by simp <;> omega) _) (by simp [World.setCell]; omega) (by omega) _
  case stop =>
    rintro D c pre W hD hpre ⟨rfl, hin, hb1, hb2, hbel⟩ hK
    have hcan : t.canB i = true := by
      obtain ⟨j, _, hj, e⟩ := selTo_mem.1 (show (i : Int) ∈ selTo t.canB t.ns from hpre.subset hin)
      obtain rfl : i = j := by omega
      exact hj
    have HR2 := Lib.hid (show t.wholeOut (i : Int) = (t.whole i, 0) by rw [HR.out, hcan]; rfl)
    have HBL := Lib.hid hbel
    clear hbel hin hcan hpre
    gi_wp2
    refine ⟨by simp, .inl ⟨_, _, rfl, run_takeDeferred hK, ?_⟩⟩
    have c4 := cell_kept hb1.cell (grownBy_putObj' _ D (.deferred none)) (fun r e => by cases e; exact ⟨_, hK, rfl⟩)
    have c5 := cell_kept hb2.cell (grownBy_putObj' _ D (.deferred none)) (fun r e => by cases e; exact ⟨_, hK, rfl⟩)
    refine ⟨.tuple #[.int .i64 (t.whole i), .int .i64 0], by simp [results, Tryz.results49, go_sem, c4, c5], by rw [HR2.out], ?_⟩
    exact below_put HBL.out (by have := hb1.lt; omega) (by omega) _
end Go.Proofs.YtjpfdhhiofjpbaaGreatDoor

namespace Go.Proofs.YtjpfdhhiofjpbaaGreatDoor
open Go.RowKit Go.Sort
/-- the value at it, or more than anything costs -/
def valOf (f : Nat → Int) : Option Nat → Int
  | none => 100000
  | some b => f b
theorem valOf_le {f g : Nat → Int} {p q : Nat → Bool} {n m : Nat} (hnm : n ≤ m) (hp : ∀ i, i < n → p i = true → q i = true ∧ g i ≤ f i) (hb : ∀ i, i < m → q i = true → g i ≤ 100000) : valOf g (minBy g q m) ≤ valOf f (minBy f p n) := by
  rcases minBy_spec g q m with ⟨h1, h2⟩ | ⟨b, h1, h2, h3, h4⟩
  · rcases minBy_spec f p n with ⟨k1, _⟩ | ⟨c, k1, k2, k3, _⟩
    · rw [h1, k1]; exact Int.le_refl _
    · have := h2 c (by omega)
      rw [(hp c k2 k3).1] at this
      cases this
  · rcases minBy_spec f p n with ⟨k1, _⟩ | ⟨c, k1, k2, k3, _⟩
    · rw [h1, k1]; exact hb b h2 h3
    · rw [h1, k1]
      have h5 := hp c k2 k3
      have := h4 c (by omega) h5.1
      show g b ≤ f c
      omega
noncomputable def Pt.bestV (t : Pt) : Int := valOf (fun s => (t.cheap s).1) t.best
noncomputable def Pt.cheapV (t : Pt) : Int := valOf t.whole t.cheapest
theorem cheap_bd {t : Pt} (ok : t.Ok) {s : Nat} (hs : s < t.ns) : 0 ≤ (t.cheap s).1 ∧ (t.cheap s).1 ≤ 4968 := cheapOut_bd (ok.spot s hs).sh
theorem askedTo_mono {o t : Pt} {s : Nat} : ∀ k, (∀ w, w < k → o.pence w = t.pence w ∧ 0 ≤ t.pence w) → (∀ w, w < k → o.whoB s w = true → t.whoB s w = true) → o.askedTo s k ≤ t.askedTo s k
  | 0, _, _ => Int.le_refl _
  | k + 1, hp, hw => by
    have ih := askedTo_mono k (fun w h => hp w (by omega)) (fun w h => hw w (by omega))
    have h1 := hp k (by omega)
    have h2 := hw k (by omega)
    show sumTo _ k + (if o.whoB s k then o.pence k else 0) ≤ sumTo _ k + (if t.whoB s k then t.pence k else 0)
    have ih : sumTo (fun w => if o.whoB s w then o.pence w else 0) k ≤ sumTo (fun w => if t.whoB s w then t.pence w else 0) k := ih
    cases ho : o.whoB s k
    · cases ht : t.whoB s k
      · simp only [Bool.false_eq_true, if_false]; omega
      · simp only [Bool.false_eq_true, if_false, if_true]; omega
    · rw [h2 ho]
      simp only [if_true]
      omega
theorem Pt.m_no {t : Pt} (ok : t.Ok) : t.m = t.no := by have := ok.no; unfold Pt.m; omega
theorem Pt.m_np {t : Pt} (ok : t.Ok) : t.m = t.np := by have := ok.np; unfold Pt.m; omega
/-! ### towns in which less is forbidden -/
section
variable {o t : Pt} (h : Looser o t)
include h
theorem Looser.cheap {s : Nat} (hs : s < t.ns) : o.cheap s = t.cheap s := by unfold Pt.cheap; rw [h.sh s hs]
theorem Looser.canB {s : Nat} (hs : s < t.ns) : o.canB s = t.canB s := by unfold Pt.canB; rw [h.cheap hs]
theorem Looser.who_sub {s : Nat} (hs : s < t.ns) : ∀ x, x ∈ o.who s → x ∈ t.who s := fun x hx => by
  obtain ⟨w, h1, h2, h3⟩ := selTo_mem.1 (show x ∈ selTo (o.whoB s) o.m from hx)
  rw [h.m] at h1
  exact selTo_mem.2 ⟨w, h1, h.who s w hs h1 h2, h3⟩
theorem Looser.freeB {s : Nat} (hs : s < t.ns) (hf : t.freeB s = true) : o.freeB s = true := by
  unfold Pt.freeB at hf ⊢
  simp only [Bool.and_eq_true, Bool.not_eq_true'] at hf ⊢
  refine ⟨by rw [h.canB hs]; exact hf.1, anyB_false.2 fun w hw => ?_⟩
  rw [h.m] at hw
  cases hb : o.whoB s w
  · rfl
  · have := anyB_false.1 hf.2 w hw
    rw [h.who s w hs hw hb] at this
    cases this
theorem Looser.frees_sub : ∀ x, x ∈ t.frees → x ∈ o.frees := fun x hx => by
  obtain ⟨s, h1, h2, h3⟩ := selTo_mem.1 (show x ∈ selTo t.freeB t.ns from hx)
  exact selTo_mem.2 ⟨s, by rw [h.ns]; exact h1, h.freeB h1 h2, h3⟩
theorem Looser.whole {s : Nat} (hs : s < t.ns) : o.whole s ≤ t.whole s := by
  have := askedTo_mono (o := o) (t := t) (s := s) t.m h.pence fun w hw => h.who s w hs hw
  unfold Pt.whole
  rw [h.cheap hs, h.m]
  omega
theorem Looser.best (ok : t.Ok) : o.bestV ≤ t.bestV := by
  unfold Pt.bestV Pt.best
  rw [h.ns]
  exact valOf_le (Nat.le_refl _) (fun i hi hf => ⟨h.freeB hi hf, by rw [h.cheap hi]; exact Int.le_refl _⟩) fun i hi _ => by rw [h.cheap hi]; have := cheap_bd ok hi; omega
theorem Looser.cheapest (ok : t.Ok) : o.cheapV ≤ t.cheapV := by
  unfold Pt.cheapV Pt.cheapest
  rw [h.ns]
  exact valOf_le (Nat.le_refl _) (fun i hi hf => ⟨by rw [h.canB hi]; exact hf, h.whole hi⟩) fun i hi _ => by have := h.whole hi; have := whole_bd ok hi; omega
end
/-! ### towns that are alike -/
section
variable {o t : Pt} (h : Twin o t)
include h
end
/-! ### pairs -/
end Go.Proofs.YtjpfdhhiofjpbaaGreatDoor

namespace Go.Proofs.YtjpfdhhiofjpbaaGreatDoor
open Go.RowKit Go.Sort
set_option maxHeartbeats 2000000 in
set_option maxRecDepth 100000 in
theorem in1_any (A : Option Addr) (n c : Nat) (f : Nat → Int) (x : Int) (w : World) (hn : n ≤ 9223372036854775807) (hI : IntsAt w A n f) :
    Calls Tryz.prog 41 #[.slice A n c, .int .i64 x] w fun e w' => e = .returned (.bool (anyB (fun i => f i == x) n)) ∧ Below w.heap.size w w' := by
  have HI := Lib.hid hI
  clear hI
  go_enter Tryz.func41, Tryz.ntmps41
  go_wp2_with fail
  go_loopw [5] (fun s wr => ∃ k : Nat, k ≤ n ∧ s = .int .i64 k ∧ anyB (fun i => f i == x) k = false ∧ w = wr) (fun s _ => n - (intOf s).toNat)
  case atStart => exact ⟨0, Nat.zero_le _, rfl, rfl, rfl⟩
  case round =>
    obtain ⟨k, hk, rfl, hno, rfl⟩ := hrel
    have HNO := Lib.hid hno
    clear hno
    by_cases hlt : k < n
    · obtain ⟨b, o, rfl, hb, c0⟩ := HI.out.get hlt
      have k1 : (k : Int) < (n : Int) := by omega
      have k0 : (0 : Int) ≤ (k : Int) := by omega
      obtain ⟨v, hv⟩ : ∃ v, f k = v := ⟨_, rfl⟩
      rw [hv] at c0
      by_cases hx : v = x
      · have HH := Lib.hid (show anyB (fun i => f i == x) n = true from anyB_hit hlt (by simp [hv, hx]))
        have hx1 : (v == x) = true := by simp [hx]
        clear hv hx
        go_wp2_with fail
        go_ret
        exact ⟨ret_bool (by rw [HH.out]), Below.refl _ _⟩
      · have HH := Lib.hid (show anyB (fun i => f i == x) (k + 1) = false from anyB_step HNO.out (by simp [hv, hx]))
        have hx1 : (v == x) = false := by simp [hx]
        clear hv hx
        go_wp2_with fail
        go_roundw
        case rel =>
          first
          | exact ⟨k + 1, by omega, by go_num, HH.out, trivial⟩
          | ((repeat apply Exists.intro)
             refine ⟨⟨k + 1, by omega, ?_, HH.out, trivial⟩, rfl⟩
             go_num)
        case measure => simp [intOf]; omega
    · obtain rfl : k = n := by omega
      have k1 : ¬ (k : Int) < (k : Int) := by omega
      go_wp2_with fail
      go_ret
      exact ⟨ret_bool (by rw [HNO.out]), Below.refl _ _⟩
end Go.Proofs.YtjpfdhhiofjpbaaGreatDoor

namespace Go.Proofs.YtjpfdhhiofjpbaaGreatDoor
open Go.RowKit Go.Sort
theorem inN_zero {t : Pt} {s w : Nat} : t.inN s w = 0 ↔ ∀ a, a ∈ t.q.leftL → t.forb s w a = false := by
  unfold Pt.inN Pt.inTo
  rw [cntB_zero]
  constructor
  · intro h a ha
    obtain ⟨i, hi, rfl⟩ := mem_intL0 ha
    exact h i hi
  · intro h i hi
    exact h _ (intL0_mem hi)
theorem whoB_iff {t : Pt} {s w : Nat} : t.whoB s w = true ↔ ∃ a, a ∈ t.q.leftL ∧ t.forb s w a = true := by
  unfold Pt.whoB
  rw [decide_eq_true_eq]
  constructor
  · intro h
    by_cases e : ∃ a, a ∈ t.q.leftL ∧ t.forb s w a = true
    · exact e
    · have : t.inN s w = 0 := inN_zero.2 fun a ha => by
        cases hf : t.forb s w a
        · rfl
        · exact absurd ⟨a, ha, hf⟩ e
      omega
  · rintro ⟨a, ha, hf⟩
    have : t.inN s w ≠ 0 := fun e => by rw [inN_zero.1 e a ha] at hf; cases hf
    omega
/-! ### one fact more -/
def Pt.told (t : Pt) (f : Fact) : Pt := { t with q := t.q.add f }
theorem told_left {t : Pt} {f : Fact} {a : Int} (h : a ∈ (t.told f).q.leftL) : a ∈ t.q.leftL := by
  have h : a ∈ (t.q.add f).leftL := h
  rw [leftL_add] at h
  exact (List.mem_filter.1 h).1
theorem told_looser {t : Pt} (ok : t.Ok) (f : Fact) : Looser (t.told f) t :=
  ⟨rfl, rfl, fun _ _ => rfl, fun w hw => ⟨rfl, (ok.pence w (by rw [← Pt.m_np ok]; exact hw)).1⟩, fun s w _ _ h => by
    obtain ⟨a, h1, h2⟩ := whoB_iff.1 h
    exact whoB_iff.2 ⟨a, told_left h1, h2⟩⟩
/-! ### the looser law -/
/-! ### the street, seen from the other end -/
/-! ### one spot more -/
/-! ### the least harm -/
end Go.Proofs.YtjpfdhhiofjpbaaGreatDoor

namespace Go.Proofs.YtjpfdhhiofjpbaaGreatDoor
open Go.RowKit Go.Sort
set_option maxHeartbeats 4000000 in
set_option maxRecDepth 100000 in
theorem isSpotN9_any (Aw Af Ao Ap As : Option Addr) (cw cf co cp cs : Nat) (t : Pt) (n : Int) (w : World) (hs : t.ns ≤ 9223372036854775807) :
    Calls Tryz.prog 40 #[.agg #[.int .i64 t.q.wells, .slice Aw t.q.nw cw, .slice Af t.q.nf cf, .slice Ao t.no co, .slice Ap t.np cp, .slice As t.ns cs, .int .i64 t.far, .int .i64 t.harm, .int .i64 t.many], .int .i64 n] w fun e w' => e = .returned (.bool (t.hasB n)) ∧ Below w.heap.size w w' := by
  have hw1 : IntKind.i64.wrap ((t.ns : Int) - 1) = (t.ns : Int) - 1 := IntWalk.i64_in _ (by omega)
  have HN := Lib.hid (show inR n 0 ((t.ns : Int) - 1) = t.hasB n from rfl)
  clear hs
  have HD0 := Lib.hid (Below.refl w.heap.size w)
  go_enter Tryz.func40, Tryz.ntmps40
  go_wp2_with fail
  refine (within9_b _ _ _ _ _ HN.out).mono ?_
  rintro e w0 ⟨rfl, rfl⟩
  go_wp2_with fail
  go_ret
  exact ⟨rfl, (bTrans HD0.out (bAlloc (Below.refl _ _) (.cells #[.int .i64 t.q.wells, .slice Aw t.q.nw cw, .slice Af t.q.nf cf, .slice Ao t.no co, .slice Ap t.np cp, .slice As t.ns cs, .int .i64 t.far, .int .i64 t.harm, .int .i64 t.many] 29)))⟩
end Go.Proofs.YtjpfdhhiofjpbaaGreatDoor

namespace Go.Proofs.YtjpfdhhiofjpbaaGreatDoor
open Go.RowKit Go.Sort
set_option maxHeartbeats 4000000 in
set_option maxRecDepth 100000 in
theorem leftOf9_any (Aw Af Ao Ap As : Option Addr) (cw cf co cp cs : Nat) (t : Pt) (w : World) (ok : t.Ok) (hT : PAt w Aw Af Ao Ap As t) :
    Calls Tryz.prog 42 #[.agg #[.int .i64 t.q.wells, .slice Aw t.q.nw cw, .slice Af t.q.nf cf, .slice Ao t.no co, .slice Ap t.np cp, .slice As t.ns cs, .int .i64 t.far, .int .i64 t.harm, .int .i64 t.many]] w fun e w' => (∃ A c, e = .returned (.slice A t.q.leftL.length c) ∧ IntsAt w' A t.q.leftL.length (intL0 t.q.leftL)) ∧ Below w.heap.size w w' := by
  have HD0 := Lib.hid (Below.refl w.heap.size w)
  have HOK := Lib.hid ok
  have HT0 := Lib.hid hT
  clear ok hT
  go_enter Tryz.func42, Tryz.ntmps42
  go_wp2_with fail
  refine (refLeftOf Aw Af cw cf t.q _ HOK.out.q (HT0.out.mono (bAlloc (Below.refl _ _) (.cells #[.int .i64 t.q.wells, .slice Aw t.q.nw cw, .slice Af t.q.nf cf, .slice Ao t.no co, .slice Ap t.np cp, .slice As t.ns cs, .int .i64 t.far, .int .i64 t.harm, .int .i64 t.many] 29))).q).mono ?_
  rintro e w1 ⟨⟨v, rfl, hv⟩, hb⟩
  obtain ⟨A4, c4, rfl, hi4, _⟩ := left_base hv
  have hB1 : Below w.heap.size w w1 := bTrans (bAlloc (Below.refl _ _) (.cells #[.int .i64 t.q.wells, .slice Aw t.q.nw cw, .slice Af t.q.nf cf, .slice Ao t.no co, .slice Ap t.np cp, .slice As t.ns cs, .int .i64 t.far, .int .i64 t.harm, .int .i64 t.many] 29)) hb
  have HD1 := Lib.hid (bTrans HD0.out hB1)
  have HT1 := Lib.hid (HT0.out.mono hB1)
  have HI41 := Lib.hid (hi4)
  have T1 := Lib.hid (show TBox w1 w.heap.size 29 #[.int .i64 t.q.wells, .slice Aw t.q.nw cw, .slice Af t.q.nf cf, .slice Ao t.no co, .slice Ap t.np cp, .slice As t.ns cs, .int .i64 t.far, .int .i64 t.harm, .int .i64 t.many] from by have := ((TBox.new w #[.int .i64 t.q.wells, .slice Aw t.q.nw cw, .slice Af t.q.nf cf, .slice Ao t.no co, .slice Ap t.np cp, .slice As t.ns cs, .int .i64 t.far, .int .i64 t.harm, .int .i64 t.many] 29).mono (Below.refl _ _)).mono hb; simpa using this)
  clear hb hB1 HD0 HT0
  obtain ⟨T_0, T_1, T_2, T_3, T_4, T_5, T_6, T_7, T_8, T_l⟩ := T1.out.c9
  clear hv hi4
  go_wp2_with fail
  go_ret
  exact ⟨⟨A4, c4, rfl, HI41.out⟩, HD1.out⟩
end Go.Proofs.YtjpfdhhiofjpbaaGreatDoor

namespace Go.Proofs.YtjpfdhhiofjpbaaGreatDoor
open Go.RowKit Go.Sort
theorem minBy_lt {f : Nat → Int} {p : Nat → Bool} {n b : Nat} (h : minBy f p n = some b) : b < n ∧ p b = true := by
  rcases minBy_spec f p n with ⟨h1, _⟩ | ⟨c, h1, h2, h3, _⟩
  · rw [h1] at h; cases h
  · rw [h1] at h; obtain rfl := Option.some.inj h; exact ⟨h2, h3⟩
end Go.Proofs.YtjpfdhhiofjpbaaGreatDoor

namespace Go.Proofs.YtjpfdhhiofjpbaaGreatDoor
open Go.RowKit Go.Sort
theorem isKnown9_any (n : Int) (w : World) : Calls Tryz.prog 43 #[.int .i64 n] w fun e w' => e = .returned (.bool (n == 0 || n == 3)) ∧ Below w.heap.size w w' := by
  cases h : (n == 0)
  · cases h3 : (n == 3)
    all_goals
      go_enter Tryz.func43, Tryz.ntmps43
      go_wp2_with fail
      go_ret
      exact ⟨rfl, Below.refl _ _⟩
  · go_enter Tryz.func43, Tryz.ntmps43
    go_wp2_with fail
    go_ret
    exact ⟨rfl, Below.refl _ _⟩
end Go.Proofs.YtjpfdhhiofjpbaaGreatDoor

namespace Go.Proofs.YtjpfdhhiofjpbaaGreatDoor
open Go.RowKit Go.Sort
/-- some Bool, that says that a town is valid -/
def ReadyB (t : Pt) (e : Ending) : Prop := ∃ b, e = .returned (.bool b) ∧ (b = true → t.Ok)
set_option maxHeartbeats 4000000 in
set_option maxRecDepth 100000 in
theorem ready9_any (Aw Af Ao Ap As : Option Addr) (cw cf co cp cs : Nat) (t : Pt) (w : World) (hs : t.Small) (hT : PAt w Aw Af Ao Ap As t) :
    Calls Tryz.prog 39 #[.agg #[.int .i64 t.q.wells, .slice Aw t.q.nw cw, .slice Af t.q.nf cf, .slice Ao t.no co, .slice Ap t.np cp, .slice As t.ns cs, .int .i64 t.far, .int .i64 t.harm, .int .i64 t.many]] w fun e w' => ReadyB t e ∧ Below w.heap.size w w' := by
  have HD0 := Lib.hid (Below.refl w.heap.size w)
  have HSM := Lib.hid hs
  have HT0 := Lib.hid hT
  clear hs hT
  go_enter Tryz.func39, Tryz.ntmps39
  go_wp2_with fail
  refine (far9_any Aw Af Ao Ap As cw cf co cp cs t _ HSM.out (HT0.out.mono (bAlloc (Below.refl _ _) (.cells #[.int .i64 t.q.wells, .slice Aw t.q.nw cw, .slice Af t.q.nf cf, .slice Ao t.no co, .slice Ap t.np cp, .slice As t.ns cs, .int .i64 t.far, .int .i64 t.harm, .int .i64 t.many] 29)))).mono ?_
  rintro e w1 ⟨⟨bf, rfl⟩, hb⟩
  have hB1 : Below w.heap.size w w1 := bTrans (bAlloc (Below.refl _ _) (.cells #[.int .i64 t.q.wells, .slice Aw t.q.nw cw, .slice Af t.q.nf cf, .slice Ao t.no co, .slice Ap t.np cp, .slice As t.ns cs, .int .i64 t.far, .int .i64 t.harm, .int .i64 t.many] 29)) hb
  have HD1 := Lib.hid (bTrans HD0.out hB1)
  have HT1 := Lib.hid (HT0.out.mono hB1)
  have T1 := Lib.hid (show TBox w1 w.heap.size 29 #[.int .i64 t.q.wells, .slice Aw t.q.nw cw, .slice Af t.q.nf cf, .slice Ao t.no co, .slice Ap t.np cp, .slice As t.ns cs, .int .i64 t.far, .int .i64 t.harm, .int .i64 t.many] from by have := ((TBox.new w #[.int .i64 t.q.wells, .slice Aw t.q.nw cw, .slice Af t.q.nf cf, .slice Ao t.no co, .slice Ap t.np cp, .slice As t.ns cs, .int .i64 t.far, .int .i64 t.harm, .int .i64 t.many] 29).mono (Below.refl _ _)).mono hb; simpa using this)
  clear hb hB1 HD0 HT0
  obtain ⟨T_0, T_1, T_2, T_3, T_4, T_5, T_6, T_7, T_8, T_l⟩ := T1.out.c9
  cases bf
  case true =>
    go_wp2_with fail
    go_ret
    exact ⟨⟨_, rfl, fun h => by cases h⟩, HD1.out⟩
  go_wp2_with fail
  refine (check9_any Aw Af Ao Ap As cw cf co cp cs t _ HSM.out HT1.out).mono ?_
  rintro e w2 ⟨rfl, hb⟩
  have hB2 : Below w1.heap.size w1 w2 := bTrans (Below.refl _ _) hb
  have HD2 := Lib.hid (bTrans HD1.out hB2)
  have HT2 := Lib.hid (HT1.out.mono hB2)
  have T2 := Lib.hid (T1.out.mono hB2)
  clear hb hB2 HD1 HT1 T1 T_0 T_1 T_2 T_3 T_4 T_5 T_6 T_7 T_8 T_l
  obtain ⟨T_0, T_1, T_2, T_3, T_4, T_5, T_6, T_7, T_8, T_l⟩ := T2.out.c9
  by_cases ok : t.Ok
  case neg =>
    rw [Pt.err_bad ok]
    clear ok
    go_wp2_with fail
    go_ret
    exact ⟨⟨_, rfl, fun h => by cases h⟩, HD2.out⟩
  rw [Pt.err_ok ok]
  have HOK := Lib.hid ok
  clear ok
  go_wp2_with fail
  go_ret
  exact ⟨⟨_, rfl, fun _ => HOK.out⟩, HD2.out⟩
end Go.Proofs.YtjpfdhhiofjpbaaGreatDoor

namespace Go.Proofs.YtjpfdhhiofjpbaaGreatDoor
open Go.RowKit Go.Sort
theorem canB_err {t : Pt} {s : Nat} (h : t.canB s = true) : (t.cheap s).2 = 0 := by unfold Pt.canB at h; simpa using h
theorem freeB_can {t : Pt} {s : Nat} (h : t.freeB s = true) : t.canB s = true := by unfold Pt.freeB at h; rw [Bool.and_eq_true] at h; exact h.1
theorem hasB_in {t : Pt} {s : Nat} (h : s < t.ns) : t.hasB (s : Int) = true := hasB_iff.2 (by omega)
theorem price_can {t : Pt} (ok : t.Ok) {s : Nat} (hs : s < t.ns) (h : t.canB s = true) : t.priceOut (s : Int) = ((t.cheap s).1, 0) := by
  unfold Pt.priceOut
  rw [hasB_in hs, Pt.askErr_ok ok, if_pos rfl, Int.toNat_natCast]
  exact Prod.ext rfl (canB_err h)
theorem whole_can {t : Pt} (ok : t.Ok) (hne : t.q.leftL ≠ []) {s : Nat} (hs : s < t.ns) (h : t.canB s = true) : t.wholeOut (s : Int) = (t.whole s, 0) := by
  unfold Pt.wholeOut
  rw [hasB_in hs, Pt.knowErr_ok ok hne, if_pos rfl, Int.toNat_natCast, h]
  rfl
theorem best_out {t : Pt} (ok : t.Ok) (hne : t.q.leftL ≠ []) : t.bestOut = optOut t.best := by unfold Pt.bestOut; rw [Pt.knowErr_ok ok hne, if_pos rfl]
theorem cheapest_out {t : Pt} (ok : t.Ok) (hne : t.q.leftL ≠ []) : t.cheapestOut = optOut t.cheapest := by unfold Pt.cheapestOut; rw [Pt.knowErr_ok ok hne, if_pos rfl]
set_option maxHeartbeats 4000000 in
set_option maxRecDepth 100000 in
theorem bestV9_any (Aw Af Ao Ap As : Option Addr) (cw cf co cp cs : Nat) (t : Pt) (w : World) (hs : t.Small) (hT : PAt w Aw Af Ao Ap As t) (hB : TabAt w) (hN : NoneAt w) (ok : t.Ok) (hne : t.q.leftL ≠ []) :
    Calls Tryz.prog 55 #[.agg #[.int .i64 t.q.wells, .slice Aw t.q.nw cw, .slice Af t.q.nf cf, .slice Ao t.no co, .slice Ap t.np cp, .slice As t.ns cs, .int .i64 t.far, .int .i64 t.harm, .int .i64 t.many]] w fun e w' => e = .returned (.tuple #[.int .i64 t.bestV, .bool true]) ∧ Below w.heap.size w w' := by
  have HD0 := Lib.hid (Below.refl w.heap.size w)
  have HSM := Lib.hid hs
  have HT0 := Lib.hid hT
  have HTB0 := Lib.hid hB
  have HNA0 := Lib.hid hN
  have HOK := Lib.hid ok
  have HNE := Lib.hid hne
  clear hs hT hB hN ok hne
  go_enter Tryz.func55, Tryz.ntmps55
  obtain ⟨mo, hmo⟩ : ∃ m, t.best = m := ⟨_, rfl⟩
  have HMO := Lib.hid hmo
  have HV := Lib.hid (show t.bestV = valOf (fun s => (t.cheap s).1) mo by unfold Pt.bestV; rw [hmo])
  clear hmo
  cases mo with
  | none =>
    go_wp2_with fail
    refine ((by have := bestP_any Aw Af Ao Ap As cw cf co cp cs t (w.alloc (.cells #[.int .i64 t.q.wells, .slice Aw t.q.nw cw, .slice Af t.q.nf cf, .slice Ao t.no co, .slice Ap t.np cp, .slice As t.ns cs, .int .i64 t.far, .int .i64 t.harm, .int .i64 t.many] 29)) HSM.out (HT0.out.mono (bAlloc (Below.refl _ _) (.cells #[.int .i64 t.q.wells, .slice Aw t.q.nw cw, .slice Af t.q.nf cf, .slice Ao t.no co, .slice Ap t.np cp, .slice As t.ns cs, .int .i64 t.far, .int .i64 t.harm, .int .i64 t.many] 29))) (HTB0.out.mono (bAlloc (Below.refl _ _) (.cells #[.int .i64 t.q.wells, .slice Aw t.q.nw cw, .slice Af t.q.nf cf, .slice Ao t.no co, .slice Ap t.np cp, .slice As t.ns cs, .int .i64 t.far, .int .i64 t.harm, .int .i64 t.many] 29))) (HNA0.out.mono (bAlloc (Below.refl _ _) (.cells #[.int .i64 t.q.wells, .slice Aw t.q.nw cw, .slice Af t.q.nf cf, .slice Ao t.no co, .slice Ap t.np cp, .slice As t.ns cs, .int .i64 t.far, .int .i64 t.harm, .int .i64 t.many] 29))); rw [best_out HOK.out HNE.out, HMO.out, show optOut none = (0, 3) from rfl] at this; exact this : Calls Tryz.prog 35 #[.agg #[.int .i64 t.q.wells, .slice Aw t.q.nw cw, .slice Af t.q.nf cf, .slice Ao t.no co, .slice Ap t.np cp, .slice As t.ns cs, .int .i64 t.far, .int .i64 t.harm, .int .i64 t.many]] (w.alloc (.cells #[.int .i64 t.q.wells, .slice Aw t.q.nw cw, .slice Af t.q.nf cf, .slice Ao t.no co, .slice Ap t.np cp, .slice As t.ns cs, .int .i64 t.far, .int .i64 t.harm, .int .i64 t.many] 29)) fun e w' => e = .returned (.tuple #[.int .i64 0, .int .i64 3]) ∧ Below (w.alloc (.cells #[.int .i64 t.q.wells, .slice Aw t.q.nw cw, .slice Af t.q.nf cf, .slice Ao t.no co, .slice Ap t.np cp, .slice As t.ns cs, .int .i64 t.far, .int .i64 t.harm, .int .i64 t.many] 29)).heap.size (w.alloc (.cells #[.int .i64 t.q.wells, .slice Aw t.q.nw cw, .slice Af t.q.nf cf, .slice Ao t.no co, .slice Ap t.np cp, .slice As t.ns cs, .int .i64 t.far, .int .i64 t.harm, .int .i64 t.many] 29)) w')).mono ?_
    rintro e w1 ⟨rfl, hb⟩
    have hB1 : Below w.heap.size w w1 := bTrans (bAlloc (Below.refl _ _) (.cells #[.int .i64 t.q.wells, .slice Aw t.q.nw cw, .slice Af t.q.nf cf, .slice Ao t.no co, .slice Ap t.np cp, .slice As t.ns cs, .int .i64 t.far, .int .i64 t.harm, .int .i64 t.many] 29)) hb
    have HD1 := Lib.hid (bTrans HD0.out hB1)
    have HT1 := Lib.hid (HT0.out.mono hB1)
    have HTB1 := Lib.hid (HTB0.out.mono hB1)
    have HNA1 := Lib.hid (HNA0.out.mono hB1)
    have T1 := Lib.hid (show TBox w1 w.heap.size 29 #[.int .i64 t.q.wells, .slice Aw t.q.nw cw, .slice Af t.q.nf cf, .slice Ao t.no co, .slice Ap t.np cp, .slice As t.ns cs, .int .i64 t.far, .int .i64 t.harm, .int .i64 t.many] from by have := ((TBox.new w #[.int .i64 t.q.wells, .slice Aw t.q.nw cw, .slice Af t.q.nf cf, .slice Ao t.no co, .slice Ap t.np cp, .slice As t.ns cs, .int .i64 t.far, .int .i64 t.harm, .int .i64 t.many] 29).mono (Below.refl _ _)).mono hb; simpa using this)
    clear hb hB1 HD0 HT0 HTB0 HNA0
    obtain ⟨T_0, T_1, T_2, T_3, T_4, T_5, T_6, T_7, T_8, T_l⟩ := T1.out.c9
    go_wp2_with fail
    go_ret2
    exact ⟨by rw [HV.out] <;> rfl, HD1.out⟩
  | some b =>
    have hb2 := minBy_lt (show minBy (fun s => (t.cheap s).1) t.freeB t.ns = some b from HMO.out)
    have HB2 := Lib.hid hb2.1
    have HC := Lib.hid (freeB_can hb2.2)
    have hbd := cheap_bd HOK.out hb2.1
    obtain ⟨y, hy⟩ : ∃ y, (t.cheap b).1 = y := ⟨_, rfl⟩
    have HY := Lib.hid hy
    have HVY := Lib.hid (show t.bestV = y by rw [HV.out]; exact hy)
    rw [hy] at hbd
    have hy0 : 0 ≤ y := hbd.1
    have hy1 : y < 100000 := by omega
    clear hb2 hy hbd
    go_wp2_with fail
    refine ((by have := bestP_any Aw Af Ao Ap As cw cf co cp cs t (w.alloc (.cells #[.int .i64 t.q.wells, .slice Aw t.q.nw cw, .slice Af t.q.nf cf, .slice Ao t.no co, .slice Ap t.np cp, .slice As t.ns cs, .int .i64 t.far, .int .i64 t.harm, .int .i64 t.many] 29)) HSM.out (HT0.out.mono (bAlloc (Below.refl _ _) (.cells #[.int .i64 t.q.wells, .slice Aw t.q.nw cw, .slice Af t.q.nf cf, .slice Ao t.no co, .slice Ap t.np cp, .slice As t.ns cs, .int .i64 t.far, .int .i64 t.harm, .int .i64 t.many] 29))) (HTB0.out.mono (bAlloc (Below.refl _ _) (.cells #[.int .i64 t.q.wells, .slice Aw t.q.nw cw, .slice Af t.q.nf cf, .slice Ao t.no co, .slice Ap t.np cp, .slice As t.ns cs, .int .i64 t.far, .int .i64 t.harm, .int .i64 t.many] 29))) (HNA0.out.mono (bAlloc (Below.refl _ _) (.cells #[.int .i64 t.q.wells, .slice Aw t.q.nw cw, .slice Af t.q.nf cf, .slice Ao t.no co, .slice Ap t.np cp, .slice As t.ns cs, .int .i64 t.far, .int .i64 t.harm, .int .i64 t.many] 29))); rw [best_out HOK.out HNE.out, HMO.out, show optOut (some b) = ((b : Int), 0) from rfl] at this; exact this : Calls Tryz.prog 35 #[.agg #[.int .i64 t.q.wells, .slice Aw t.q.nw cw, .slice Af t.q.nf cf, .slice Ao t.no co, .slice Ap t.np cp, .slice As t.ns cs, .int .i64 t.far, .int .i64 t.harm, .int .i64 t.many]] (w.alloc (.cells #[.int .i64 t.q.wells, .slice Aw t.q.nw cw, .slice Af t.q.nf cf, .slice Ao t.no co, .slice Ap t.np cp, .slice As t.ns cs, .int .i64 t.far, .int .i64 t.harm, .int .i64 t.many] 29)) fun e w' => e = .returned (.tuple #[.int .i64 (b : Int), .int .i64 0]) ∧ Below (w.alloc (.cells #[.int .i64 t.q.wells, .slice Aw t.q.nw cw, .slice Af t.q.nf cf, .slice Ao t.no co, .slice Ap t.np cp, .slice As t.ns cs, .int .i64 t.far, .int .i64 t.harm, .int .i64 t.many] 29)).heap.size (w.alloc (.cells #[.int .i64 t.q.wells, .slice Aw t.q.nw cw, .slice Af t.q.nf cf, .slice Ao t.no co, .slice Ap t.np cp, .slice As t.ns cs, .int .i64 t.far, .int .i64 t.harm, .int .i64 t.many] 29)) w')).mono ?_
    rintro e w1 ⟨rfl, hb⟩
    have hB1 : Below w.heap.size w w1 := bTrans (bAlloc (Below.refl _ _) (.cells #[.int .i64 t.q.wells, .slice Aw t.q.nw cw, .slice Af t.q.nf cf, .slice Ao t.no co, .slice Ap t.np cp, .slice As t.ns cs, .int .i64 t.far, .int .i64 t.harm, .int .i64 t.many] 29)) hb
    have HD1 := Lib.hid (bTrans HD0.out hB1)
    have HT1 := Lib.hid (HT0.out.mono hB1)
    have HTB1 := Lib.hid (HTB0.out.mono hB1)
    have HNA1 := Lib.hid (HNA0.out.mono hB1)
    have T1 := Lib.hid (show TBox w1 w.heap.size 29 #[.int .i64 t.q.wells, .slice Aw t.q.nw cw, .slice Af t.q.nf cf, .slice Ao t.no co, .slice Ap t.np cp, .slice As t.ns cs, .int .i64 t.far, .int .i64 t.harm, .int .i64 t.many] from by have := ((TBox.new w #[.int .i64 t.q.wells, .slice Aw t.q.nw cw, .slice Af t.q.nf cf, .slice Ao t.no co, .slice Ap t.np cp, .slice As t.ns cs, .int .i64 t.far, .int .i64 t.harm, .int .i64 t.many] 29).mono (Below.refl _ _)).mono hb; simpa using this)
    clear hb hB1 HD0 HT0 HTB0 HNA0
    obtain ⟨T_0, T_1, T_2, T_3, T_4, T_5, T_6, T_7, T_8, T_l⟩ := T1.out.c9
    go_wp2_with fail
    refine ((by have := pricesP_any Aw Af Ao Ap As cw cf co cp cs t (b : Int) w1 HSM.out HT1.out HTB1.out HNA1.out; rw [price_can HOK.out HB2.out HC.out, HY.out] at this; exact this : Calls Tryz.prog 25 #[.agg #[.int .i64 t.q.wells, .slice Aw t.q.nw cw, .slice Af t.q.nf cf, .slice Ao t.no co, .slice Ap t.np cp, .slice As t.ns cs, .int .i64 t.far, .int .i64 t.harm, .int .i64 t.many], .int .i64 (b : Int)] w1 fun e w' => e = .returned (.tuple #[.int .i64 y, .int .i64 0]) ∧ Below w1.heap.size w1 w')).mono ?_
    rintro e w2 ⟨rfl, hb⟩
    have hB2 : Below w1.heap.size w1 w2 := bTrans (Below.refl _ _) hb
    have HD2 := Lib.hid (bTrans HD1.out hB2)
    have HT2 := Lib.hid (HT1.out.mono hB2)
    have HTB2 := Lib.hid (HTB1.out.mono hB2)
    have HNA2 := Lib.hid (HNA1.out.mono hB2)
    have T2 := Lib.hid (T1.out.mono hB2)
    clear hb hB2 HD1 HT1 HTB1 HNA1 T1 T_0 T_1 T_2 T_3 T_4 T_5 T_6 T_7 T_8 T_l
    obtain ⟨T_0, T_1, T_2, T_3, T_4, T_5, T_6, T_7, T_8, T_l⟩ := T2.out.c9
    go_wp2_with fail
    refine (hasB_in HB2.out ▸ isSpotN9_any Aw Af Ao Ap As cw cf co cp cs t (b : Int) _ HSM.out.ns).mono ?_
    rintro e w3 ⟨rfl, hb⟩
    have hB3 : Below w2.heap.size w2 w3 := bTrans (Below.refl _ _) hb
    have HD3 := Lib.hid (bTrans HD2.out hB3)
    have HT3 := Lib.hid (HT2.out.mono hB3)
    have HTB3 := Lib.hid (HTB2.out.mono hB3)
    have HNA3 := Lib.hid (HNA2.out.mono hB3)
    have T3 := Lib.hid (T2.out.mono hB3)
    clear hb hB3 HD2 HT2 HTB2 HNA2 T2 T_0 T_1 T_2 T_3 T_4 T_5 T_6 T_7 T_8 T_l
    obtain ⟨T_0, T_1, T_2, T_3, T_4, T_5, T_6, T_7, T_8, T_l⟩ := T3.out.c9
    go_wp2_with fail
    go_ret2
    exact ⟨by rw [HVY.out] <;> rfl, HD3.out⟩
set_option maxHeartbeats 4000000 in
set_option maxRecDepth 100000 in
theorem cheapV9_any (Aw Af Ao Ap As : Option Addr) (cw cf co cp cs : Nat) (t : Pt) (w : World) (hs : t.Small) (hT : PAt w Aw Af Ao Ap As t) (hB : TabAt w) (hN : NoneAt w) (ok : t.Ok) (hne : t.q.leftL ≠ []) :
    Calls Tryz.prog 56 #[.agg #[.int .i64 t.q.wells, .slice Aw t.q.nw cw, .slice Af t.q.nf cf, .slice Ao t.no co, .slice Ap t.np cp, .slice As t.ns cs, .int .i64 t.far, .int .i64 t.harm, .int .i64 t.many]] w fun e w' => e = .returned (.tuple #[.int .i64 t.cheapV, .bool true]) ∧ Below w.heap.size w w' := by
  have HD0 := Lib.hid (Below.refl w.heap.size w)
  have HSM := Lib.hid hs
  have HT0 := Lib.hid hT
  have HTB0 := Lib.hid hB
  have HNA0 := Lib.hid hN
  have HOK := Lib.hid ok
  have HNE := Lib.hid hne
  clear hs hT hB hN ok hne
  go_enter Tryz.func56, Tryz.ntmps56
  obtain ⟨mo, hmo⟩ : ∃ m, t.cheapest = m := ⟨_, rfl⟩
  have HMO := Lib.hid hmo
  have HV := Lib.hid (show t.cheapV = valOf (t.whole) mo by unfold Pt.cheapV; rw [hmo])
  clear hmo
  cases mo with
  | none =>
    go_wp2_with fail
    refine ((by have := cheapestOutP_any Aw Af Ao Ap As cw cf co cp cs t (w.alloc (.cells #[.int .i64 t.q.wells, .slice Aw t.q.nw cw, .slice Af t.q.nf cf, .slice Ao t.no co, .slice Ap t.np cp, .slice As t.ns cs, .int .i64 t.far, .int .i64 t.harm, .int .i64 t.many] 29)) HSM.out (HT0.out.mono (bAlloc (Below.refl _ _) (.cells #[.int .i64 t.q.wells, .slice Aw t.q.nw cw, .slice Af t.q.nf cf, .slice Ao t.no co, .slice Ap t.np cp, .slice As t.ns cs, .int .i64 t.far, .int .i64 t.harm, .int .i64 t.many] 29))) (HTB0.out.mono (bAlloc (Below.refl _ _) (.cells #[.int .i64 t.q.wells, .slice Aw t.q.nw cw, .slice Af t.q.nf cf, .slice Ao t.no co, .slice Ap t.np cp, .slice As t.ns cs, .int .i64 t.far, .int .i64 t.harm, .int .i64 t.many] 29))) (HNA0.out.mono (bAlloc (Below.refl _ _) (.cells #[.int .i64 t.q.wells, .slice Aw t.q.nw cw, .slice Af t.q.nf cf, .slice Ao t.no co, .slice Ap t.np cp, .slice As t.ns cs, .int .i64 t.far, .int .i64 t.harm, .int .i64 t.many] 29))); rw [cheapest_out HOK.out HNE.out, HMO.out, show optOut none = (0, 3) from rfl] at this; exact this : Calls Tryz.prog 47 #[.agg #[.int .i64 t.q.wells, .slice Aw t.q.nw cw, .slice Af t.q.nf cf, .slice Ao t.no co, .slice Ap t.np cp, .slice As t.ns cs, .int .i64 t.far, .int .i64 t.harm, .int .i64 t.many]] (w.alloc (.cells #[.int .i64 t.q.wells, .slice Aw t.q.nw cw, .slice Af t.q.nf cf, .slice Ao t.no co, .slice Ap t.np cp, .slice As t.ns cs, .int .i64 t.far, .int .i64 t.harm, .int .i64 t.many] 29)) fun e w' => e = .returned (.tuple #[.int .i64 0, .int .i64 3]) ∧ Below (w.alloc (.cells #[.int .i64 t.q.wells, .slice Aw t.q.nw cw, .slice Af t.q.nf cf, .slice Ao t.no co, .slice Ap t.np cp, .slice As t.ns cs, .int .i64 t.far, .int .i64 t.harm, .int .i64 t.many] 29)).heap.size (w.alloc (.cells #[.int .i64 t.q.wells, .slice Aw t.q.nw cw, .slice Af t.q.nf cf, .slice Ao t.no co, .slice Ap t.np cp, .slice As t.ns cs, .int .i64 t.far, .int .i64 t.harm, .int .i64 t.many] 29)) w')).mono ?_
    rintro e w1 ⟨rfl, hb⟩
    have hB1 : Below w.heap.size w w1 := bTrans (bAlloc (Below.refl _ _) (.cells #[.int .i64 t.q.wells, .slice Aw t.q.nw cw, .slice Af t.q.nf cf, .slice Ao t.no co, .slice Ap t.np cp, .slice As t.ns cs, .int .i64 t.far, .int .i64 t.harm, .int .i64 t.many] 29)) hb
    have HD1 := Lib.hid (bTrans HD0.out hB1)
    have HT1 := Lib.hid (HT0.out.mono hB1)
    have HTB1 := Lib.hid (HTB0.out.mono hB1)
    have HNA1 := Lib.hid (HNA0.out.mono hB1)
    have T1 := Lib.hid (show TBox w1 w.heap.size 29 #[.int .i64 t.q.wells, .slice Aw t.q.nw cw, .slice Af t.q.nf cf, .slice Ao t.no co, .slice Ap t.np cp, .slice As t.ns cs, .int .i64 t.far, .int .i64 t.harm, .int .i64 t.many] from by have := ((TBox.new w #[.int .i64 t.q.wells, .slice Aw t.q.nw cw, .slice Af t.q.nf cf, .slice Ao t.no co, .slice Ap t.np cp, .slice As t.ns cs, .int .i64 t.far, .int .i64 t.harm, .int .i64 t.many] 29).mono (Below.refl _ _)).mono hb; simpa using this)
    clear hb hB1 HD0 HT0 HTB0 HNA0
    obtain ⟨T_0, T_1, T_2, T_3, T_4, T_5, T_6, T_7, T_8, T_l⟩ := T1.out.c9
    go_wp2_with fail
    go_ret2
    exact ⟨by rw [HV.out] <;> rfl, HD1.out⟩
  | some b =>
    have hb2 := minBy_lt (show minBy (t.whole) t.canB t.ns = some b from HMO.out)
    have HB2 := Lib.hid hb2.1
    have HC := Lib.hid (hb2.2)
    have hbd := whole_bd HOK.out hb2.1
    obtain ⟨y, hy⟩ : ∃ y, t.whole b = y := ⟨_, rfl⟩
    have HY := Lib.hid hy
    have HVY := Lib.hid (show t.cheapV = y by rw [HV.out]; exact hy)
    rw [hy] at hbd
    have hy0 : 0 ≤ y := hbd.1
    have hy1 : y < 100000 := by omega
    clear hb2 hy hbd
    go_wp2_with fail
    refine ((by have := cheapestOutP_any Aw Af Ao Ap As cw cf co cp cs t (w.alloc (.cells #[.int .i64 t.q.wells, .slice Aw t.q.nw cw, .slice Af t.q.nf cf, .slice Ao t.no co, .slice Ap t.np cp, .slice As t.ns cs, .int .i64 t.far, .int .i64 t.harm, .int .i64 t.many] 29)) HSM.out (HT0.out.mono (bAlloc (Below.refl _ _) (.cells #[.int .i64 t.q.wells, .slice Aw t.q.nw cw, .slice Af t.q.nf cf, .slice Ao t.no co, .slice Ap t.np cp, .slice As t.ns cs, .int .i64 t.far, .int .i64 t.harm, .int .i64 t.many] 29))) (HTB0.out.mono (bAlloc (Below.refl _ _) (.cells #[.int .i64 t.q.wells, .slice Aw t.q.nw cw, .slice Af t.q.nf cf, .slice Ao t.no co, .slice Ap t.np cp, .slice As t.ns cs, .int .i64 t.far, .int .i64 t.harm, .int .i64 t.many] 29))) (HNA0.out.mono (bAlloc (Below.refl _ _) (.cells #[.int .i64 t.q.wells, .slice Aw t.q.nw cw, .slice Af t.q.nf cf, .slice Ao t.no co, .slice Ap t.np cp, .slice As t.ns cs, .int .i64 t.far, .int .i64 t.harm, .int .i64 t.many] 29))); rw [cheapest_out HOK.out HNE.out, HMO.out, show optOut (some b) = ((b : Int), 0) from rfl] at this; exact this : Calls Tryz.prog 47 #[.agg #[.int .i64 t.q.wells, .slice Aw t.q.nw cw, .slice Af t.q.nf cf, .slice Ao t.no co, .slice Ap t.np cp, .slice As t.ns cs, .int .i64 t.far, .int .i64 t.harm, .int .i64 t.many]] (w.alloc (.cells #[.int .i64 t.q.wells, .slice Aw t.q.nw cw, .slice Af t.q.nf cf, .slice Ao t.no co, .slice Ap t.np cp, .slice As t.ns cs, .int .i64 t.far, .int .i64 t.harm, .int .i64 t.many] 29)) fun e w' => e = .returned (.tuple #[.int .i64 (b : Int), .int .i64 0]) ∧ Below (w.alloc (.cells #[.int .i64 t.q.wells, .slice Aw t.q.nw cw, .slice Af t.q.nf cf, .slice Ao t.no co, .slice Ap t.np cp, .slice As t.ns cs, .int .i64 t.far, .int .i64 t.harm, .int .i64 t.many] 29)).heap.size (w.alloc (.cells #[.int .i64 t.q.wells, .slice Aw t.q.nw cw, .slice Af t.q.nf cf, .slice Ao t.no co, .slice Ap t.np cp, .slice As t.ns cs, .int .i64 t.far, .int .i64 t.harm, .int .i64 t.many] 29)) w')).mono ?_
    rintro e w1 ⟨rfl, hb⟩
    have hB1 : Below w.heap.size w w1 := bTrans (bAlloc (Below.refl _ _) (.cells #[.int .i64 t.q.wells, .slice Aw t.q.nw cw, .slice Af t.q.nf cf, .slice Ao t.no co, .slice Ap t.np cp, .slice As t.ns cs, .int .i64 t.far, .int .i64 t.harm, .int .i64 t.many] 29)) hb
    have HD1 := Lib.hid (bTrans HD0.out hB1)
    have HT1 := Lib.hid (HT0.out.mono hB1)
    have HTB1 := Lib.hid (HTB0.out.mono hB1)
    have HNA1 := Lib.hid (HNA0.out.mono hB1)
    have T1 := Lib.hid (show TBox w1 w.heap.size 29 #[.int .i64 t.q.wells, .slice Aw t.q.nw cw, .slice Af t.q.nf cf, .slice Ao t.no co, .slice Ap t.np cp, .slice As t.ns cs, .int .i64 t.far, .int .i64 t.harm, .int .i64 t.many] from by have := ((TBox.new w #[.int .i64 t.q.wells, .slice Aw t.q.nw cw, .slice Af t.q.nf cf, .slice Ao t.no co, .slice Ap t.np cp, .slice As t.ns cs, .int .i64 t.far, .int .i64 t.harm, .int .i64 t.many] 29).mono (Below.refl _ _)).mono hb; simpa using this)
    clear hb hB1 HD0 HT0 HTB0 HNA0
    obtain ⟨T_0, T_1, T_2, T_3, T_4, T_5, T_6, T_7, T_8, T_l⟩ := T1.out.c9
    go_wp2_with fail
    refine ((by have := wholeP_any Aw Af Ao Ap As cw cf co cp cs t (b : Int) w1 HSM.out HT1.out HTB1.out HNA1.out; rw [whole_can HOK.out HNE.out HB2.out HC.out, HY.out] at this; exact this : Calls Tryz.prog 49 #[.agg #[.int .i64 t.q.wells, .slice Aw t.q.nw cw, .slice Af t.q.nf cf, .slice Ao t.no co, .slice Ap t.np cp, .slice As t.ns cs, .int .i64 t.far, .int .i64 t.harm, .int .i64 t.many], .int .i64 (b : Int)] w1 fun e w' => e = .returned (.tuple #[.int .i64 y, .int .i64 0]) ∧ Below w1.heap.size w1 w')).mono ?_
    rintro e w2 ⟨rfl, hb⟩
    have hB2 : Below w1.heap.size w1 w2 := bTrans (Below.refl _ _) hb
    have HD2 := Lib.hid (bTrans HD1.out hB2)
    have HT2 := Lib.hid (HT1.out.mono hB2)
    have HTB2 := Lib.hid (HTB1.out.mono hB2)
    have HNA2 := Lib.hid (HNA1.out.mono hB2)
    have T2 := Lib.hid (T1.out.mono hB2)
    clear hb hB2 HD1 HT1 HTB1 HNA1 T1 T_0 T_1 T_2 T_3 T_4 T_5 T_6 T_7 T_8 T_l
    obtain ⟨T_0, T_1, T_2, T_3, T_4, T_5, T_6, T_7, T_8, T_l⟩ := T2.out.c9
    go_wp2_with fail
    refine (hasB_in HB2.out ▸ isSpotN9_any Aw Af Ao Ap As cw cf co cp cs t (b : Int) _ HSM.out.ns).mono ?_
    rintro e w3 ⟨rfl, hb⟩
    have hB3 : Below w2.heap.size w2 w3 := bTrans (Below.refl _ _) hb
    have HD3 := Lib.hid (bTrans HD2.out hB3)
    have HT3 := Lib.hid (HT2.out.mono hB3)
    have HTB3 := Lib.hid (HTB2.out.mono hB3)
    have HNA3 := Lib.hid (HNA2.out.mono hB3)
    have T3 := Lib.hid (T2.out.mono hB3)
    clear hb hB3 HD2 HT2 HTB2 HNA2 T2 T_0 T_1 T_2 T_3 T_4 T_5 T_6 T_7 T_8 T_l
    obtain ⟨T_0, T_1, T_2, T_3, T_4, T_5, T_6, T_7, T_8, T_l⟩ := T3.out.c9
    go_wp2_with fail
    go_ret2
    exact ⟨by rw [HVY.out] <;> rfl, HD3.out⟩
set_option maxHeartbeats 4000000 in
set_option maxRecDepth 100000 in
theorem subset9_any (A B : Option Addr) (n m c c' : Nat) (f h : Nat → Int) (w : World) (hn : n ≤ 40) (hm : m ≤ 40) (hA : IntsAt w A n f) (hB : IntsAt w B m h) (hs : ∀ i, i < n → anyB (fun j => h j == f i) m = true) :
    Calls Tryz.prog 110 #[.slice A n c, .slice B m c'] w fun e w' => e = .returned (.bool true) ∧ Below w.heap.size w w' := by
  have HA0 := Lib.hid hA
  have HB0 := Lib.hid hB
  have HSS := Lib.hid hs
  have HD0 := Lib.hid (Below.refl w.heap.size w)
  have q1 : ¬ (n : Int) > 40 := by omega
  have q2 : ¬ (m : Int) > 40 := by omega
  have r1 : decide ((n : Int) > 40) = false := by simp; omega
  have r2 : decide ((m : Int) > 40) = false := by simp; omega
  have r3 : decide ((40 : Int) < (n : Int)) = false := by simp; omega
  have r4 : decide ((40 : Int) < (m : Int)) = false := by simp; omega
  clear hA hB hs
  go_enter Tryz.func110, Tryz.ntmps110
  go_wp2_with fail
  clear q1 q2 r1 r2 r3 r4
  go_loopw [5] (fun s5 wr => ∃ k : Nat, k ≤ n ∧ s5 = .int .i64 (k : Int) ∧ Below w.heap.size w wr) (fun s5 _ => n - (intOf s5).toNat)
  case atStart => exact ⟨0, Nat.zero_le _, rfl, Below.refl _ _⟩
  case round =>
    obtain ⟨k, hk_k, rfl, hb⟩ := hrel
    have HBk := Lib.hid hb
    have hB1 : Below w.heap.size w wr := bTrans (Below.refl _ _) hb
    have HD1 := Lib.hid (bTrans HD0.out hB1)
    have HA1 := Lib.hid (HA0.out.mono hB1)
    have HB1 := Lib.hid (HB0.out.mono hB1)
    have HU_k1 := Lib.hid ((show Upto w wr from HBk.out))
    clear hb hB1
    by_cases hlt_k : k < n
    case pos =>
      have h1_k : (k : Int) < (n : Int) := by omega
      have h0_k : (0 : Int) ≤ (k : Int) := by omega
      obtain ⟨b, o, hX, hbl, c0⟩ := HA1.out.get hlt_k
      obtain ⟨x, hx⟩ : ∃ x, f k = x := ⟨_, rfl⟩
      rw [hx] at c0
      have HX := Lib.hid (show anyB (fun j => h j == x) m = true by rw [← hx]; exact HSS.out k hlt_k)
      subst hX
      clear hx
      go_wp2_with fail
      refine (HX.out ▸ in1_any B m c' h x _ (by omega) HB1.out).mono ?_
      rintro e w2 ⟨rfl, hb⟩
      have hB2 : Below wr.heap.size wr w2 := bTrans (Below.refl _ _) hb
      have HD2 := Lib.hid (bTrans HD1.out hB2)
      have HA2 := Lib.hid (HA1.out.mono hB2)
      have HB2 := Lib.hid (HB1.out.mono hB2)
      have HU_k2 := Lib.hid (HU_k1.out.mono hB2)
      clear hb hB2 HD1 HA1 HB1 HU_k1
      go_wp2_with fail
      go_roundw
      case rel =>
        first
        | exact ⟨k + 1, by omega, by go_num, HU_k2.out⟩
        | ((repeat apply Exists.intro)
           refine ⟨⟨k + 1, by omega, ?_, HU_k2.out⟩, rfl⟩
           go_num)
      case measure => simp [intOf]; omega
    have he_k : k = n := by omega
    have hk9 : ¬ (k : Int) < (n : Int) := by omega
    have hk8 : ¬ k < n := by omega
    clear he_k
    go_wp2_with fail
    go_ret
    exact ⟨rfl, HD1.out⟩
end Go.Proofs.YtjpfdhhiofjpbaaGreatDoor

namespace Go.Proofs.YtjpfdhhiofjpbaaGreatDoor
open Go.RowKit Go.Sort
theorem mem_anyB (L : List Int) (x : Int) : anyB (fun i => intL0 L i == x) L.length = decide (x ∈ L) := by
  refine Bool.eq_iff_iff.2 ?_
  rw [anyB_true, decide_eq_true_eq]
  constructor
  · rintro ⟨i, hi, h⟩
    rw [← eq_of_beq h]
    exact intL0_mem hi
  · intro h
    obtain ⟨k, hk, e⟩ := mem_intL0 h
    exact ⟨k, hk, by rw [e]; exact beq_self_eq_true _⟩
end Go.Proofs.YtjpfdhhiofjpbaaGreatDoor

namespace Go.Proofs.YtjpfdhhiofjpbaaGreatDoor
open Go.RowKit Go.Sort
theorem whole_out {t : Pt} (ok : t.Ok) (hne : t.q.leftL ≠ []) {s : Nat} (hs : s < t.ns) : t.wholeOut (s : Int) = if t.canB s then (t.whole s, 0) else (0, 3) := by
  unfold Pt.wholeOut
  rw [hasB_in hs, Pt.knowErr_ok ok hne, if_pos rfl, Int.toNat_natCast]
end Go.Proofs.YtjpfdhhiofjpbaaGreatDoor

namespace Go.Proofs.YtjpfdhhiofjpbaaGreatDoor
open Go.RowKit Go.Sort
theorem CopyAt9.mono {w w' : World} {base : Nat} {vW vF vO vP vS : Value} {t : Pt} (h : CopyAt9 w base vW vF vO vP vS t) (hb : Below w.heap.size w w') : CopyAt9 w' base vW vF vO vP vS t := by
  obtain ⟨h1, h2, h3, us, h4, h5⟩ := h
  exact ⟨h1.mono hb, owns_below h2 hb, owns_below h3 hb, us, owns_below h4 hb, h5.mono hb⟩
theorem CopyAt9.lower {w : World} {base base' : Nat} {vW vF vO vP vS : Value} {t : Pt} (h : CopyAt9 w base vW vF vO vP vS t) (hb : base' ≤ base) : CopyAt9 w base' vW vF vO vP vS t := by
  obtain ⟨h1, h2, h3, us, h4, h5⟩ := h
  exact ⟨h1.lower hb, owns_lower h2 hb, owns_lower h3 hb, us, owns_lower h4 hb, h5⟩
end Go.Proofs.YtjpfdhhiofjpbaaGreatDoor

