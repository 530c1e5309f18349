/- Parts joined: what all claims of this seat need. -/
import Derived.Test.YtifkjnmnflhnoaaGreatDoorNBG
import Derived.Test.YtifkjnmnflhnoaaGreatDoorNBF
import Derived.Test.YtifkjnmnflhnoaaGreatDoorNBE
import Derived.Test.YtifkjnmnflhnoaaGreatDoorNBC
import Derived.Test.YtifkjnmnflhnoaaGreatDoorNBB
set_option linter.unusedSimpArgs false
set_option linter.unusedVariables false
namespace Go.Proofs.YtifkjnmnflhnoaaGreatDoor
open Go.RowKit Go.Sort Go.Shelf
attribute [local go_sem] Oper.semAt_some
section
variable {P : Program} {ops : Array Oper} {Cl : World → Prop}
end
end Go.Proofs.YtifkjnmnflhnoaaGreatDoor

namespace Go.Proofs.YtifkjnmnflhnoaaGreatDoor
open Go.RowKit Go.Sort Go.Shelf
end Go.Proofs.YtifkjnmnflhnoaaGreatDoor

namespace Go.Proofs.YtifkjnmnflhnoaaGreatDoor
open Go.RowKit Go.Sort
/-! ### Tests in order -/
/-! ### The fewest tests -/
/-! ### The next test -/
/-! ### The tests that decide -/
end Go.Proofs.YtifkjnmnflhnoaaGreatDoor

namespace Go.Proofs.YtifkjnmnflhnoaaGreatDoor
open Go.RowKit Go.Sort
/-! ### Who is blamed -/
end Go.Proofs.YtifkjnmnflhnoaaGreatDoor

namespace Go.Proofs.YtifkjnmnflhnoaaGreatDoor
open Go.RowKit Go.Sort
theorem factL_snoc (t : Qt) (f : Fact) : factL (t.add f).fact (t.nf + 1) = factL t.fact t.nf ++ [.int .i64 f.from_, .int .i64 f.many, .int .i64 f.to_, .int .i64 f.low, .int .i64 f.high] := by
  unfold factL
  show catL _ t.nf ++ _ = _
  have e1 : (t.add f).fact t.nf = f := if_neg (Nat.lt_irrefl _)
  congr 1
  · exact catL_congr t.nf fun i hi => by rw [show (t.add f).fact i = t.fact i from if_pos hi]
  · simp only [e1]
theorem owns_kept {l : List TypeId} {w w' : World} {base : Nat} {e : TypeId} {size n : Nat} {v : Value} {xs : List Value} (h : w.ownsRow base e size v n xs) (hk : Kept l w w') (he : e ∈ l) : w'.ownsRow base e size v n xs :=
  ⟨h.1, h.2.imp id fun ⟨g, cap, cur, h1, h2, h3, h4⟩ => ⟨g, cap, cur, h1, h2, (hk.2 g _ _ _ h3 he).trans h3, h4⟩⟩
set_option maxHeartbeats 4000000 in
set_option maxRecDepth 100000 in
theorem told5_any (Aw Af : Option Addr) (cw cf : Nat) (t : Qt) (f : Fact) (w : World) (hf : t.Fits) (hT : QAt w Aw Af t) :
    Calls Tryz.prog 4 #[.agg #[.int .i64 t.wells, .slice Aw t.nw cw, .slice Af t.nf cf], .agg #[.int .i64 f.from_, .int .i64 f.many, .int .i64 f.to_, .int .i64 f.low, .int .i64 f.high]] w fun e w' => CopyOut w' w.heap.size (t.add f) e ∧ Below w.heap.size w w' := by
  have hb2 := bAlloc (bAlloc (bAlloc (Below.refl w.heap.size w) (.cells #[.int .i64 t.wells, .slice Aw t.nw cw, .slice Af t.nf cf] 25)) (.cells #[.int .i64 f.from_, .int .i64 f.many, .int .i64 f.to_, .int .i64 f.low, .int .i64 f.high] 27)) (.cells #[.int .i64 0, .slice none 0 0, .slice none 0 0] 25)
  have HT := Lib.hid (hT.mono hb2)
  have HB := Lib.hid hb2
  have HF := Lib.hid hf
  have HTR := Lib.hid (TBox.new ((w.alloc (.cells #[.int .i64 t.wells, .slice Aw t.nw cw, .slice Af t.nf cf] 25)).alloc (.cells #[.int .i64 f.from_, .int .i64 f.many, .int .i64 f.to_, .int .i64 f.low, .int .i64 f.high] 27)) #[.int .i64 0, .slice none 0 0, .slice none 0 0] 25)
  clear hT hb2 hf
  obtain ⟨i0, hi, iz0, iz1, iz2⟩ := info_parts infoFact
  go_enter Tryz.func4, Tryz.ntmps4
  go_wp2_with fail
  refine (copy5_any _ _ _ _ t _ HF.out HT.out).mono ?_
  rintro e w1 ⟨⟨vW, vF, rfl, hc⟩, hb1⟩
  obtain ⟨A1, c1, A2, c2, rfl, rfl, _⟩ := hc.qat
  have HC := Lib.hid hc
  have HB1 := Lib.hid hb1
  obtain ⟨bc1, bf1⟩ := bcell hb1
  have hz1 := hb1.size
  simp only [World.size_alloc] at hz1
  have hy1 : w.heap.size < w1.heap.size := by omega
  have hy2 : w.heap.size + 1 < w1.heap.size := by omega
  have hy3 : w.heap.size + 1 + 1 < w1.heap.size := by omega
  have HX1 := Lib.hid (TBox.new w1 #[.int .i64 t.wells, .slice A1 t.nw c1, .slice A2 t.nf c2] 25)
  have HN := Lib.hid (show (t.nf + 1) * 40 ≤ 140737488355328 by have := HF.out.2.1; omega)
  have hbase := HB1.out.size
  simp only [World.size_alloc] at hbase
  clear hc hb1
  have HO2 := Lib.hid (show ((w1.alloc (.cells #[.int .i64 t.wells, .slice A1 t.nw c1, .slice A2 t.nf c2] 25)).alloc (.cells #[.int .i64 f.from_, .int .i64 f.many, .int .i64 f.to_, .int .i64 f.low, .int .i64 f.high] 27)).ownsRow (w.heap.size + 1 + 1 + 1) 27 5 (.slice A2 t.nf c2) t.nf (factL t.fact t.nf) by
    have := (HC.out.facts.alloc (.cells #[.int .i64 t.wells, .slice A1 t.nw c1, .slice A2 t.nf c2] 25)).alloc (.cells #[.int .i64 f.from_, .int .i64 f.many, .int .i64 f.to_, .int .i64 f.low, .int .i64 f.high] 27)
    simpa using this)
  have HB2 := Lib.hid (show Below (w.heap.size + 1 + 1 + 1) (((w.alloc (.cells #[.int .i64 t.wells, .slice Aw t.nw cw, .slice Af t.nf cf] 25)).alloc (.cells #[.int .i64 f.from_, .int .i64 f.many, .int .i64 f.to_, .int .i64 f.low, .int .i64 f.high] 27)).alloc (.cells #[.int .i64 0, .slice none 0 0, .slice none 0 0] 25)) ((w1.alloc (.cells #[.int .i64 t.wells, .slice A1 t.nw c1, .slice A2 t.nf c2] 25)).alloc (.cells #[.int .i64 f.from_, .int .i64 f.many, .int .i64 f.to_, .int .i64 f.low, .int .i64 f.high] 27)) by
    have := bAlloc (bAlloc HB1.out (.cells #[.int .i64 t.wells, .slice A1 t.nw c1, .slice A2 t.nf c2] 25)) (.cells #[.int .i64 f.from_, .int .i64 f.many, .int .i64 f.to_, .int .i64 f.low, .int .i64 f.high] 27)
    simpa using this)
  go_wp2_with (at_builtin; refine wpList_append_own _ rfl (Operand.tmp 9) (Operand.tmp 11) 23 rfl (w.heap.size + 1 + 1 + 1) 27 i0 (.agg #[.int .i64 0, .int .i64 0, .int .i64 0, .int .i64 0, .int .i64 0]) 5 40 Tryz.underlying23 hi iz0 iz1 iz2 rfl (by decide) _ t.nf (factL t.fact t.nf) rfl HO2.out ⟨w1.heap.size + 1, 0, none⟩ 1 1 [.int .i64 f.from_, .int .i64 f.many, .int .i64 f.to_, .int .i64 f.low, .int .i64 f.high] rfl rfl ?c1 ?c2 ?c3 HN.out ?c4 ?_)
  case c1 =>
    intro j u hj
    have hc := cell_of_row _ (w1.heap.size + 1) j _ _ _ (show ((w1.alloc (.cells #[.int .i64 t.wells, .slice A1 t.nw c1, .slice A2 t.nf c2] 25)).alloc (.cells #[.int .i64 f.from_, .int .i64 f.many, .int .i64 f.to_, .int .i64 f.low, .int .i64 f.high] 27)).heap[w1.heap.size + 1]? = some (Obj.cells #[.int .i64 f.from_, .int .i64 f.many, .int .i64 f.to_, .int .i64 f.low, .int .i64 f.high] 27 (0, 0)) by have := heap_alloc_new (w1.alloc (.cells #[.int .i64 t.wells, .slice A1 t.nw c1, .slice A2 t.nf c2] 25)) (.cells #[.int .i64 f.from_, .int .i64 f.many, .int .i64 f.to_, .int .i64 f.low, .int .i64 f.high] 27); simpa using this)
    rw [show (⟨w1.heap.size + 1, 0, none⟩ : Addr).add j = ⟨w1.heap.size + 1, j, none⟩ from by unfold Addr.add; split <;> simp_all, hc]
    simpa using hj
  case c2 =>
    intro u hu
    simp only [List.mem_cons, List.not_mem_nil, or_false] at hu
    rcases hu with rfl | rfl | rfl | rfl | rfl <;> rfl
  case c3 => unfold maxLen; have := HN.out; omega
  case c4 => simp <;> omega
  intro v' w4 hown4 hg4 _
  obtain ⟨A4, c4, rfl, _⟩ := RowK.own hown4
  have hnb : some w1.heap.size ≠ (Value.slice A2 t.nf c2).ownBlock := fun e => by have := HC.out.facts.lt _ e.symm; omega
  have HX4 := Lib.hid ((HX1.out.mono (bAlloc (Below.refl _ _) (.cells #[.int .i64 f.from_, .int .i64 f.many, .int .i64 f.to_, .int .i64 f.low, .int .i64 f.high] 27))).grown hg4 hnb)
  have hB4 : Below (w.heap.size + 1 + 1 + 1) (((w.alloc (.cells #[.int .i64 t.wells, .slice Aw t.nw cw, .slice Af t.nf cf] 25)).alloc (.cells #[.int .i64 f.from_, .int .i64 f.many, .int .i64 f.to_, .int .i64 f.low, .int .i64 f.high] 27)).alloc (.cells #[.int .i64 0, .slice none 0 0, .slice none 0 0] 25)) w4 := HB2.out.grown hg4 (by simp <;> omega) (fun k hk => (HO2.out.lt k hk).1)
  have HB4 := Lib.hid hB4
  have hTR : TBox w4 (w.heap.size + 1 + 1) 25 #[.int .i64 0, .slice none 0 0, .slice none 0 0] := (hB4.block (w.heap.size + 1 + 1) (by omega)).trans (by have := HTR.out; simpa [TBox] using this)
  have HTR4 := Lib.hid hTR
  have hk4 : Kept [3, 34, 63] ((w1.alloc (.cells #[.int .i64 t.wells, .slice A1 t.nw c1, .slice A2 t.nf c2] 25)).alloc (.cells #[.int .i64 f.from_, .int .i64 f.many, .int .i64 f.to_, .int .i64 f.low, .int .i64 f.high] 27)) w4 := Kept.of_own hg4 HO2.out (by decide)
  have HK4 := Lib.hid hk4
  have HG4 := Lib.hid hg4
  have HO4 := Lib.hid hown4
  have hlt4 : w1.heap.size < w4.heap.size := HX4.out.lt
  have r0 : w4.cell? ⟨w1.heap.size, 0, none⟩ = some (.int .i64 t.wells) := HX4.out.cell 0
  have r1 : w4.cell? ⟨w1.heap.size, 1, none⟩ = some (.slice A1 t.nw c1) := HX4.out.cell 1
  have r2 : w4.cell? ⟨w1.heap.size, 2, none⟩ = some (.slice A2 t.nf c2) := HX4.out.cell 2
  have r3 := HX4.out.frozen 2
  have s0 : w4.cell? ⟨w.heap.size + 1 + 1, 0, none⟩ = some (.int .i64 0) := hTR.cell 0
  have s1 : w4.cell? ⟨w.heap.size + 1 + 1, 1, none⟩ = some (.slice none 0 0) := hTR.cell 1
  have s2 : w4.cell? ⟨w.heap.size + 1 + 1, 2, none⟩ = some (.slice none 0 0) := hTR.cell 2
  have t0 := hTR.frozen 0
  have t1 := hTR.frozen 1
  have t2 := hTR.frozen 2
  have hy4 : w.heap.size + 1 + 1 < w4.heap.size := hTR.lt
  clear hTR hown4 hg4 hnb hB4 hk4 bc1 bf1
  go_wp2_with fail
  have hne : w1.heap.size ≠ w.heap.size + 1 + 1 := by omega
  have R5 := HTR4.out.other hne 2 (.slice A4 (t.nf + 1) c4)
  have R6 := R5.set 0 (.int .i64 t.wells)
  have R7 := R6.set 1 (.slice A1 t.nw c1)
  have hkS := (((Kept.set (l := [3, 34, 63]) HX4.out (by decide) 2 (.slice A4 (t.nf + 1) c4)).trans (Kept.set R5 (by decide) 0 (.int .i64 t.wells))).trans (Kept.set R6 (by decide) 1 (.slice A1 t.nw c1))).trans (Kept.set R7 (by decide) 2 (.slice A4 (t.nf + 1) c4))
  obtain ⟨us, hu1, hu2⟩ := HC.out.worlds
  have hk0 : Kept [3, 34, 63] w1 _ := ((Kept.of_below (bAlloc (bAlloc (Below.refl w1.heap.size w1) (.cells #[.int .i64 t.wells, .slice A1 t.nw c1, .slice A2 t.nf c2] 25)) (.cells #[.int .i64 f.from_, .int .i64 f.many, .int .i64 f.to_, .int .i64 f.low, .int .i64 f.high] 27))).trans HK4.out).trans hkS
  refine bodyPost_ret (v := .agg #[.int .i64 t.wells, .slice A1 t.nw c1, .slice A4 (t.nf + 1) c4]) (by simp [results, Tryz.results4, go_sem, *]) rfl ⟨⟨_, _, rfl, ⟨us, ?_, hu2.kept hk0 (by simp) (by simp)⟩, ?_⟩, ?_⟩
  · exact owns_lower (owns_kept hu1 hk0 (by simp)) (by simp <;> omega)
  · show World.ownsRow _ w.heap.size 27 5 (.slice A4 (t.nf + 1) c4) (t.nf + 1) (factL (t.add f).fact (t.nf + 1))
    rw [factL_snoc]
    exact owns_lower (owns_setT (owns_setT (owns_setT (owns_setT HO4.out HX4.out (by decide) 2 _) R5 (by decide) 0 _) R6 (by decide) 1 _) R7 (by decide) 2 _) (by omega)
  · have h0 : Below w.heap.size w w4 := bTrans HB.out (by have := HB4.out; simpa using this)
    exact Below.setCell (p := ⟨w.heap.size + 1 + 1, 2, none⟩) (Below.setCell (p := ⟨w.heap.size + 1 + 1, 1, none⟩) (Below.setCell (p := ⟨w.heap.size + 1 + 1, 0, none⟩) (Below.setCell (p := ⟨w1.heap.size, 2, none⟩) h0 (by show w.heap.size ≤ w1.heap.size; omega) _) (by show w.heap.size ≤ w.heap.size + 1 + 1; omega) _) (by show w.heap.size ≤ w.heap.size + 1 + 1; omega) _) (by show w.heap.size ≤ w.heap.size + 1 + 1; omega) _
end Go.Proofs.YtifkjnmnflhnoaaGreatDoor

namespace Go.Proofs.YtifkjnmnflhnoaaGreatDoor
open Go.RowKit Go.Sort
section
variable {w : World} {b : Nat} {t : TypeId}
theorem TBox.c1 {x : Value} (h : TBox w b t #[x]) : w.cell? ⟨b, 0, none⟩ = some x ∧ b < w.heap.size := ⟨h.cell 0, h.lt⟩
theorem TBox.c2 {x y : Value} (h : TBox w b t #[x, y]) : w.cell? ⟨b, 0, none⟩ = some x ∧ w.cell? ⟨b, 1, none⟩ = some y ∧ b < w.heap.size := ⟨h.cell 0, h.cell 1, h.lt⟩
theorem TBox.c3 {x y z : Value} (h : TBox w b t #[x, y, z]) : w.cell? ⟨b, 0, none⟩ = some x ∧ w.cell? ⟨b, 1, none⟩ = some y ∧ w.cell? ⟨b, 2, none⟩ = some z ∧ b < w.heap.size := ⟨h.cell 0, h.cell 1, h.cell 2, h.lt⟩
theorem TBox.c4 {x y z u : Value} (h : TBox w b t #[x, y, z, u]) : w.cell? ⟨b, 0, none⟩ = some x ∧ w.cell? ⟨b, 1, none⟩ = some y ∧ w.cell? ⟨b, 2, none⟩ = some z ∧ w.cell? ⟨b, 3, none⟩ = some u ∧ b < w.heap.size := ⟨h.cell 0, h.cell 1, h.cell 2, h.cell 3, h.lt⟩
theorem TBox.c5 {x y z u v : Value} (h : TBox w b t #[x, y, z, u, v]) : w.cell? ⟨b, 0, none⟩ = some x ∧ w.cell? ⟨b, 1, none⟩ = some y ∧ w.cell? ⟨b, 2, none⟩ = some z ∧ w.cell? ⟨b, 3, none⟩ = some u ∧ w.cell? ⟨b, 4, none⟩ = some v ∧ b < w.heap.size := ⟨h.cell 0, h.cell 1, h.cell 2, h.cell 3, h.cell 4, h.lt⟩
end
def Upto (w0 w : World) : Prop := Below w0.heap.size w0 w
theorem Upto.mono {w0 w w' : World} (h : Upto w0 w) (hb : Below w.heap.size w w') : Upto w0 w' := bTrans h hb
end Go.Proofs.YtifkjnmnflhnoaaGreatDoor

namespace Go.Proofs.YtifkjnmnflhnoaaGreatDoor
open Go.RowKit Go.Sort
structure Crd where
  ca : Option Addr
  cc : Nat
  sp : Nat → Int × Int
structure Kb where
  base : Int
  pl : Nat
  n : Nat
  a : Option Addr
  c : Nat
  g : Nat → Crd
  top : Crd
structure Ent where
  day : Int
  who : Int
  ca : Option Addr
  cc : Nat
  sp : Nat → Int × Int
structure Bk where
  base : Int
  pl : Nat
  pers : Int
  late : Int
  n1 : Nat
  n2 : Nat
  a1 : Option Addr
  c1 : Nat
  a2 : Option Addr
  c2 : Nat
  e1 : Nat → Ent
  e2 : Nat → Ent
structure FPr where
  one : Nat
  oth : Nat
def SpsAt (w : World) (A : Option Addr) (n : Nat) (f : Nat → Int × Int) : Prop := n = 0 ∨ ∃ b o, A = some ⟨b, o, none⟩ ∧ b < w.heap.size ∧ ∀ i, i < n → w.cell? ⟨b, o + i * 2, none⟩ = some (.int .i64 (f i).1) ∧ w.cell? ⟨b, o + i * 2 + 1, none⟩ = some (.int .i64 (f i).2)
theorem SpsAt.mono {w w' : World} {A : Option Addr} {n : Nat} {f : Nat → Int × Int} (h : SpsAt w A n f) (hb : Below w.heap.size w w') : SpsAt w' A n f := by
  rcases h with h | ⟨b, o, rfl, hlt, hc⟩
  · exact .inl h
  · exact .inr ⟨b, o, rfl, Nat.lt_of_lt_of_le hlt hb.size, fun i hi => ⟨(hb.cell (p := ⟨b, _, none⟩) hlt).trans (hc i hi).1, (hb.cell (p := ⟨b, _, none⟩) hlt).trans (hc i hi).2⟩⟩
def CrdsAt (w : World) (A : Option Addr) (n : Nat) (pl : Nat) (g : Nat → Crd) : Prop := n = 0 ∨ ∃ b o, A = some ⟨b, o, none⟩ ∧ b < w.heap.size ∧ ∀ i, i < n → w.cell? ⟨b, o + i, none⟩ = some (.slice (g i).ca pl (g i).cc) ∧ SpsAt w (g i).ca pl (g i).sp
theorem CrdsAt.mono {w w' : World} {A : Option Addr} {n : Nat} {pl : Nat} {g : Nat → Crd} (h : CrdsAt w A n pl g) (hb : Below w.heap.size w w') : CrdsAt w' A n pl g := by
  rcases h with h | ⟨b, o, rfl, hlt, hc⟩
  · exact .inl h
  · exact .inr ⟨b, o, rfl, Nat.lt_of_lt_of_le hlt hb.size, fun i hi => ⟨(hb.cell (p := ⟨b, _, none⟩) hlt).trans (hc i hi).1, (hc i hi).2.mono hb⟩⟩
def EntsAt (w : World) (A : Option Addr) (n : Nat) (pl : Nat) (g : Nat → Ent) : Prop := n = 0 ∨ ∃ b o, A = some ⟨b, o, none⟩ ∧ b < w.heap.size ∧ ∀ i, i < n → w.cell? ⟨b, o + i * 3, none⟩ = some (.int .i64 (g i).day) ∧ w.cell? ⟨b, o + i * 3 + 1, none⟩ = some (.int .i64 (g i).who) ∧ w.cell? ⟨b, o + i * 3 + 2, none⟩ = some (.slice (g i).ca pl (g i).cc) ∧ SpsAt w (g i).ca pl (g i).sp
theorem EntsAt.mono {w w' : World} {A : Option Addr} {n : Nat} {pl : Nat} {g : Nat → Ent} (h : EntsAt w A n pl g) (hb : Below w.heap.size w w') : EntsAt w' A n pl g := by
  rcases h with h | ⟨b, o, rfl, hlt, hc⟩
  · exact .inl h
  · exact .inr ⟨b, o, rfl, Nat.lt_of_lt_of_le hlt hb.size, fun i hi => ⟨(hb.cell (p := ⟨b, _, none⟩) hlt).trans (hc i hi).1, (hb.cell (p := ⟨b, _, none⟩) hlt).trans (hc i hi).2.1, (hb.cell (p := ⟨b, _, none⟩) hlt).trans (hc i hi).2.2.1, (hc i hi).2.2.2.mono hb⟩⟩
def PrsAt (w : World) (A : Option Addr) (n : Nat) (f : Nat → FPr) : Prop := n = 0 ∨ ∃ b o, A = some ⟨b, o, none⟩ ∧ b < w.heap.size ∧ ∀ i, i < n → w.cell? ⟨b, o + i * 2, none⟩ = some (.int .i64 ((f i).one : Int)) ∧ w.cell? ⟨b, o + i * 2 + 1, none⟩ = some (.int .i64 ((f i).oth : Int))
theorem PrsAt.mono {w w' : World} {A : Option Addr} {n : Nat} {f : Nat → FPr} (h : PrsAt w A n f) (hb : Below w.heap.size w w') : PrsAt w' A n f := by
  rcases h with h | ⟨b, o, rfl, hlt, hc⟩
  · exact .inl h
  · exact .inr ⟨b, o, rfl, Nat.lt_of_lt_of_le hlt hb.size, fun i hi => ⟨(hb.cell (p := ⟨b, _, none⟩) hlt).trans (hc i hi).1, (hb.cell (p := ⟨b, _, none⟩) hlt).trans (hc i hi).2⟩⟩
structure KbAt (w : World) (k : Kb) : Prop where
  cords : CrdsAt w k.a k.n k.pl k.g
  top : SpsAt w k.top.ca k.pl k.top.sp
theorem KbAt.mono {w w' : World} {k : Kb} (h : KbAt w k) (hb : Below w.heap.size w w') : KbAt w' k := ⟨h.cords.mono hb, h.top.mono hb⟩
structure BkAt (w : World) (b : Bk) : Prop where
  ones : EntsAt w b.a1 b.n1 b.pl b.e1
  others : EntsAt w b.a2 b.n2 b.pl b.e2
theorem BkAt.mono {w w' : World} {b : Bk} (h : BkAt w b) (hb : Below w.heap.size w w') : BkAt w' b := ⟨h.ones.mono hb, h.others.mono hb⟩
def CordOk (base : Int) (pl : Nat) (f : Nat → Int × Int) : Prop := ∀ j, j < pl → 0 ≤ (f j).1 ∧ (f j).1 ≤ (f j).2 ∧ (f j).2 < base
structure Kb.Ok (k : Kb) : Prop where
  base : 2 ≤ k.base ∧ k.base ≤ 10
  pl : 1 ≤ k.pl ∧ k.pl ≤ 4
  n : k.n ≤ 4
  cord : ∀ i, i < k.n → CordOk k.base k.pl (k.g i).sp
  top : CordOk k.base k.pl k.top.sp
structure EntOk (b : Bk) (x : Ent) : Prop where
  day : 0 ≤ x.day ∧ x.day ≤ 99
  who : 0 ≤ x.who ∧ x.who ≤ b.pers - 1
  cord : CordOk b.base b.pl x.sp
structure Bk.Ok (b : Bk) : Prop where
  base : 2 ≤ b.base ∧ b.base ≤ 10
  pl : 1 ≤ b.pl ∧ b.pl ≤ 4
  pers : 0 ≤ b.pers ∧ b.pers ≤ 4
  late : 0 ≤ b.late ∧ b.late ≤ 30
  n1 : b.n1 ≤ 5
  n2 : b.n2 ≤ 5
  e1 : ∀ i, i < b.n1 → EntOk b (b.e1 i)
  e2 : ∀ i, i < b.n2 → EntOk b (b.e2 i)
set_option maxHeartbeats 2000000 in
set_option maxRecDepth 100000 in
theorem index_span (g : Nat → Int × Int) (A : Option Addr) (n c f : Nat) (cs : Array Value) (p : Nat → Bool) (w : World) (hn : n ≤ 9223372036854775807) (hr : SpsAt w A n g) (hcf : Enters f)
    (hf : ∀ i, i < n → ∀ w', Below w.heap.size w w' → Calls Tryz.prog f (#[.agg #[.int .i64 (g i).1, .int .i64 (g i).2]] ++ cs) w' fun e w'' => e = .returned (.bool (p i)) ∧ Below w'.heap.size w' w'') :
    Calls Tryz.prog 101 #[.slice A n c, .func (.func f) #[] cs] w (Found (anyB p n) w) := by
  have HC := Lib.hid hr
  have HF := Lib.hid hf
  unfold Enters at hcf
  clear hr hf
  go_enter Tryz.func101, Tryz.ntmps101
  go_wp2_with fail
  go_loopw [5, 8] (fun _ i wr => ∃ k : Nat, k ≤ n ∧ i = .int .i64 k ∧ anyB p k = false ∧ Below w.heap.size w wr) (fun _ i _ => n - (intOf i).toNat)
  case atStart => exact ⟨0, Nat.zero_le _, rfl, rfl, Below.refl _ _⟩
  case round =>
    obtain ⟨k, hk, rfl, hno, hbel⟩ := hrel
    have HN := Lib.hid hno
    have HL := Lib.hid hbel
    clear hno
    by_cases hlt : k < n
    · rcases HC.out with h0 | ⟨b, o, hA, hb, hcell⟩
      · omega
      obtain ⟨d0, d1⟩ := hcell k hlt
      have HK := Lib.hid hlt
      obtain ⟨bk, hbk⟩ : ∃ bk, p k = bk := ⟨_, rfl⟩
      have HCC := Lib.hid (hbk ▸ HF.out k HK.out _ hbel : Calls Tryz.prog f (#[.agg #[.int .i64 (g k).1, .int .i64 (g k).2]] ++ cs) wr fun e w'' => e = .returned (.bool bk) ∧ Below wr.heap.size wr w'')
      have HBK := Lib.hid hbk
      clear hbk hcell
      subst hA
      obtain ⟨bc, bf⟩ := bcell hbel
      go_wp2_with fail
      refine HCC.out.mono ?_
      rintro e w4 ⟨rfl, hb4⟩
      have HL4 := Lib.hid (bTrans HL.out hb4)
      clear hb4 hbel
      cases bk
      · go_wp2_with fail
        go_roundw
        case rel => exact ⟨k + 1, by omega, by go_num, anyB_step HN.out HBK.out, HL4.out⟩
        case measure => simp [intOf]; omega
      · go_wp2_with fail
        go_ret
        exact ⟨k, rfl, by rw [anyB_hit HK.out HBK.out]; simp, HL4.out⟩
    · obtain rfl : k = n := by omega
      go_wp2_with fail
      go_ret
      exact ⟨-1, rfl, by simp [HN.out], hbel⟩
theorem contains_span (g : Nat → Int × Int) (A : Option Addr) (n c f : Nat) (cs : Array Value) (p : Nat → Bool) (w : World) (hn : n ≤ 9223372036854775807) (hr : SpsAt w A n g) (hcf : Enters f)
    (hf : ∀ i, i < n → ∀ w', Below w.heap.size w w' → Calls Tryz.prog f (#[.agg #[.int .i64 (g i).1, .int .i64 (g i).2]] ++ cs) w' fun e w'' => e = .returned (.bool (p i)) ∧ Below w'.heap.size w' w'') :
    Calls Tryz.prog 94 #[.slice A n c, .func (.func f) #[] cs] w fun e w' => e = .returned (.bool (anyB p n)) ∧ Below w.heap.size w w' := by
  go_enter Tryz.func94, Tryz.ntmps94
  go_wp2_with (go_at_call 101; refine (index_span g A n c f cs p _ hn hr hcf hf).mono ?_; rintro e w' ⟨k, rfl, hk, hb⟩; have HK := Lib.hid hk; clear hk)
  all_goals
    go_ret
    exact ⟨ret_bool (by rw [← HK.out]), hb⟩
theorem none_span (g : Nat → Int × Int) (A : Option Addr) (n c f : Nat) (cs : Array Value) (w : World) (hn : n ≤ 9223372036854775807) (hr : SpsAt w A n g) (hcf : Enters f)
    (hf : ∀ i, i < n → ∀ w', Below w.heap.size w w' → Calls Tryz.prog f (#[.agg #[.int .i64 (g i).1, .int .i64 (g i).2]] ++ cs) w' fun e w'' => e = .returned (.bool false) ∧ Below w'.heap.size w' w'') :
    Calls Tryz.prog 94 #[.slice A n c, .func (.func f) #[] cs] w fun e w' => e = .returned (.bool false) ∧ Below w.heap.size w w' := by
  have h := contains_span g A n c f cs (fun _ => false) w hn hr hcf hf
  rwa [anyB_false.2 (fun _ _ => rfl)] at h
set_option maxHeartbeats 2000000 in
set_option maxRecDepth 100000 in
theorem index_cord (pl : Nat) (g : Nat → Crd) (A : Option Addr) (n c f : Nat) (cs : Array Value) (p : Nat → Bool) (w : World) (hn : n ≤ 9223372036854775807) (hr : CrdsAt w A n pl g) (hcf : Enters f)
    (hf : ∀ i, i < n → ∀ w', Below w.heap.size w w' → Calls Tryz.prog f (#[.slice (g i).ca pl (g i).cc] ++ cs) w' fun e w'' => e = .returned (.bool (p i)) ∧ Below w'.heap.size w' w'') :
    Calls Tryz.prog 95 #[.slice A n c, .func (.func f) #[] cs] w (Found (anyB p n) w) := by
  have HC := Lib.hid hr
  have HF := Lib.hid hf
  unfold Enters at hcf
  clear hr hf
  go_enter Tryz.func95, Tryz.ntmps95
  go_wp2_with fail
  go_loopw [5, 8] (fun _ i wr => ∃ k : Nat, k ≤ n ∧ i = .int .i64 k ∧ anyB p k = false ∧ Below w.heap.size w wr) (fun _ i _ => n - (intOf i).toNat)
  case atStart => exact ⟨0, Nat.zero_le _, rfl, rfl, Below.refl _ _⟩
  case round =>
    obtain ⟨k, hk, rfl, hno, hbel⟩ := hrel
    have HN := Lib.hid hno
    have HL := Lib.hid hbel
    clear hno
    by_cases hlt : k < n
    · rcases HC.out with h0 | ⟨b, o, hA, hb, hcell⟩
      · omega
      obtain ⟨d0, _⟩ := hcell k hlt
      have HK := Lib.hid hlt
      obtain ⟨bk, hbk⟩ : ∃ bk, p k = bk := ⟨_, rfl⟩
      have HCC := Lib.hid (hbk ▸ HF.out k HK.out _ hbel : Calls Tryz.prog f (#[.slice (g k).ca pl (g k).cc] ++ cs) wr fun e w'' => e = .returned (.bool bk) ∧ Below wr.heap.size wr w'')
      have HBK := Lib.hid hbk
      clear hbk hcell
      subst hA
      obtain ⟨bc, bf⟩ := bcell hbel
      go_wp2_with fail
      refine HCC.out.mono ?_
      rintro e w4 ⟨rfl, hb4⟩
      have HL4 := Lib.hid (bTrans HL.out hb4)
      clear hb4 hbel
      cases bk
      · go_wp2_with fail
        go_roundw
        case rel => exact ⟨k + 1, by omega, by go_num, anyB_step HN.out HBK.out, HL4.out⟩
        case measure => simp [intOf]; omega
      · go_wp2_with fail
        go_ret
        exact ⟨k, rfl, by rw [anyB_hit HK.out HBK.out]; simp, HL4.out⟩
    · obtain rfl : k = n := by omega
      go_wp2_with fail
      go_ret
      exact ⟨-1, rfl, by simp [HN.out], hbel⟩
theorem contains_cord (pl : Nat) (g : Nat → Crd) (A : Option Addr) (n c f : Nat) (cs : Array Value) (p : Nat → Bool) (w : World) (hn : n ≤ 9223372036854775807) (hr : CrdsAt w A n pl g) (hcf : Enters f)
    (hf : ∀ i, i < n → ∀ w', Below w.heap.size w w' → Calls Tryz.prog f (#[.slice (g i).ca pl (g i).cc] ++ cs) w' fun e w'' => e = .returned (.bool (p i)) ∧ Below w'.heap.size w' w'') :
    Calls Tryz.prog 76 #[.slice A n c, .func (.func f) #[] cs] w fun e w' => e = .returned (.bool (anyB p n)) ∧ Below w.heap.size w w' := by
  go_enter Tryz.func76, Tryz.ntmps76
  go_wp2_with (go_at_call 95; refine (index_cord pl g A n c f cs p _ hn hr hcf hf).mono ?_; rintro e w' ⟨k, rfl, hk, hb⟩; have HK := Lib.hid hk; clear hk)
  all_goals
    go_ret
    exact ⟨ret_bool (by rw [← HK.out]), hb⟩
theorem none_cord (pl : Nat) (g : Nat → Crd) (A : Option Addr) (n c f : Nat) (cs : Array Value) (w : World) (hn : n ≤ 9223372036854775807) (hr : CrdsAt w A n pl g) (hcf : Enters f)
    (hf : ∀ i, i < n → ∀ w', Below w.heap.size w w' → Calls Tryz.prog f (#[.slice (g i).ca pl (g i).cc] ++ cs) w' fun e w'' => e = .returned (.bool false) ∧ Below w'.heap.size w' w'') :
    Calls Tryz.prog 76 #[.slice A n c, .func (.func f) #[] cs] w fun e w' => e = .returned (.bool false) ∧ Below w.heap.size w w' := by
  have h := contains_cord pl g A n c f cs (fun _ => false) w hn hr hcf hf
  rwa [anyB_false.2 (fun _ _ => rfl)] at h
set_option maxHeartbeats 2000000 in
set_option maxRecDepth 100000 in
theorem index_ent (pl : Nat) (g : Nat → Ent) (A : Option Addr) (n c f : Nat) (cs : Array Value) (p : Nat → Bool) (w : World) (hn : n ≤ 9223372036854775807) (hr : EntsAt w A n pl g) (hcf : Enters f)
    (hf : ∀ i, i < n → ∀ w', Below w.heap.size w w' → Calls Tryz.prog f (#[.agg #[.int .i64 (g i).day, .int .i64 (g i).who, .slice (g i).ca pl (g i).cc]] ++ cs) w' fun e w'' => e = .returned (.bool (p i)) ∧ Below w'.heap.size w' w'') :
    Calls Tryz.prog 77 #[.slice A n c, .func (.func f) #[] cs] w (Found (anyB p n) w) := by
  have HC := Lib.hid hr
  have HF := Lib.hid hf
  unfold Enters at hcf
  clear hr hf
  go_enter Tryz.func77, Tryz.ntmps77
  go_wp2_with fail
  go_loopw [5, 8] (fun _ i wr => ∃ k : Nat, k ≤ n ∧ i = .int .i64 k ∧ anyB p k = false ∧ Below w.heap.size w wr) (fun _ i _ => n - (intOf i).toNat)
  case atStart => exact ⟨0, Nat.zero_le _, rfl, rfl, Below.refl _ _⟩
  case round =>
    obtain ⟨k, hk, rfl, hno, hbel⟩ := hrel
    have HN := Lib.hid hno
    have HL := Lib.hid hbel
    clear hno
    by_cases hlt : k < n
    · rcases HC.out with h0 | ⟨b, o, hA, hb, hcell⟩
      · omega
      obtain ⟨d0, d1, d2, _⟩ := hcell k hlt
      have HK := Lib.hid hlt
      obtain ⟨bk, hbk⟩ : ∃ bk, p k = bk := ⟨_, rfl⟩
      have HCC := Lib.hid (hbk ▸ HF.out k HK.out _ hbel : Calls Tryz.prog f (#[.agg #[.int .i64 (g k).day, .int .i64 (g k).who, .slice (g k).ca pl (g k).cc]] ++ cs) wr fun e w'' => e = .returned (.bool bk) ∧ Below wr.heap.size wr w'')
      have HBK := Lib.hid hbk
      clear hbk hcell
      subst hA
      obtain ⟨bc, bf⟩ := bcell hbel
      go_wp2_with fail
      refine HCC.out.mono ?_
      rintro e w4 ⟨rfl, hb4⟩
      have HL4 := Lib.hid (bTrans HL.out hb4)
      clear hb4 hbel
      cases bk
      · go_wp2_with fail
        go_roundw
        case rel => exact ⟨k + 1, by omega, by go_num, anyB_step HN.out HBK.out, HL4.out⟩
        case measure => simp [intOf]; omega
      · go_wp2_with fail
        go_ret
        exact ⟨k, rfl, by rw [anyB_hit HK.out HBK.out]; simp, HL4.out⟩
    · obtain rfl : k = n := by omega
      go_wp2_with fail
      go_ret
      exact ⟨-1, rfl, by simp [HN.out], hbel⟩
theorem contains_ent (pl : Nat) (g : Nat → Ent) (A : Option Addr) (n c f : Nat) (cs : Array Value) (p : Nat → Bool) (w : World) (hn : n ≤ 9223372036854775807) (hr : EntsAt w A n pl g) (hcf : Enters f)
    (hf : ∀ i, i < n → ∀ w', Below w.heap.size w w' → Calls Tryz.prog f (#[.agg #[.int .i64 (g i).day, .int .i64 (g i).who, .slice (g i).ca pl (g i).cc]] ++ cs) w' fun e w'' => e = .returned (.bool (p i)) ∧ Below w'.heap.size w' w'') :
    Calls Tryz.prog 56 #[.slice A n c, .func (.func f) #[] cs] w fun e w' => e = .returned (.bool (anyB p n)) ∧ Below w.heap.size w w' := by
  go_enter Tryz.func56, Tryz.ntmps56
  go_wp2_with (go_at_call 77; refine (index_ent pl g A n c f cs p _ hn hr hcf hf).mono ?_; rintro e w' ⟨k, rfl, hk, hb⟩; have HK := Lib.hid hk; clear hk)
  all_goals
    go_ret
    exact ⟨ret_bool (by rw [← HK.out]), hb⟩
theorem none_ent (pl : Nat) (g : Nat → Ent) (A : Option Addr) (n c f : Nat) (cs : Array Value) (w : World) (hn : n ≤ 9223372036854775807) (hr : EntsAt w A n pl g) (hcf : Enters f)
    (hf : ∀ i, i < n → ∀ w', Below w.heap.size w w' → Calls Tryz.prog f (#[.agg #[.int .i64 (g i).day, .int .i64 (g i).who, .slice (g i).ca pl (g i).cc]] ++ cs) w' fun e w'' => e = .returned (.bool false) ∧ Below w'.heap.size w' w'') :
    Calls Tryz.prog 56 #[.slice A n c, .func (.func f) #[] cs] w fun e w' => e = .returned (.bool false) ∧ Below w.heap.size w w' := by
  have h := contains_ent pl g A n c f cs (fun _ => false) w hn hr hcf hf
  rwa [anyB_false.2 (fun _ _ => rfl)] at h
set_option maxHeartbeats 2000000 in
set_option maxRecDepth 100000 in
theorem index_pair (g : Nat → FPr) (A : Option Addr) (n c f : Nat) (cs : Array Value) (p : Nat → Bool) (w : World) (hn : n ≤ 9223372036854775807) (hr : PrsAt w A n g) (hcf : Enters f)
    (hf : ∀ i, i < n → ∀ w', Below w.heap.size w w' → Calls Tryz.prog f (#[.agg #[.int .i64 ((g i).one : Int), .int .i64 ((g i).oth : Int)]] ++ cs) w' fun e w'' => e = .returned (.bool (p i)) ∧ Below w'.heap.size w' w'') :
    Calls Tryz.prog 64 #[.slice A n c, .func (.func f) #[] cs] w (Found (anyB p n) w) := by
  have HC := Lib.hid hr
  have HF := Lib.hid hf
  unfold Enters at hcf
  clear hr hf
  go_enter Tryz.func64, Tryz.ntmps64
  go_wp2_with fail
  go_loopw [5, 8] (fun _ i wr => ∃ k : Nat, k ≤ n ∧ i = .int .i64 k ∧ anyB p k = false ∧ Below w.heap.size w wr) (fun _ i _ => n - (intOf i).toNat)
  case atStart => exact ⟨0, Nat.zero_le _, rfl, rfl, Below.refl _ _⟩
  case round =>
    obtain ⟨k, hk, rfl, hno, hbel⟩ := hrel
    have HN := Lib.hid hno
    have HL := Lib.hid hbel
    clear hno
    by_cases hlt : k < n
    · rcases HC.out with h0 | ⟨b, o, hA, hb, hcell⟩
      · omega
      obtain ⟨d0, d1⟩ := hcell k hlt
      have HK := Lib.hid hlt
      obtain ⟨bk, hbk⟩ : ∃ bk, p k = bk := ⟨_, rfl⟩
      have HCC := Lib.hid (hbk ▸ HF.out k HK.out _ hbel : Calls Tryz.prog f (#[.agg #[.int .i64 ((g k).one : Int), .int .i64 ((g k).oth : Int)]] ++ cs) wr fun e w'' => e = .returned (.bool bk) ∧ Below wr.heap.size wr w'')
      have HBK := Lib.hid hbk
      clear hbk hcell
      subst hA
      obtain ⟨bc, bf⟩ := bcell hbel
      go_wp2_with fail
      refine HCC.out.mono ?_
      rintro e w4 ⟨rfl, hb4⟩
      have HL4 := Lib.hid (bTrans HL.out hb4)
      clear hb4 hbel
      cases bk
      · go_wp2_with fail
        go_roundw
        case rel => exact ⟨k + 1, by omega, by go_num, anyB_step HN.out HBK.out, HL4.out⟩
        case measure => simp [intOf]; omega
      · go_wp2_with fail
        go_ret
        exact ⟨k, rfl, by rw [anyB_hit HK.out HBK.out]; simp, HL4.out⟩
    · obtain rfl : k = n := by omega
      go_wp2_with fail
      go_ret
      exact ⟨-1, rfl, by simp [HN.out], hbel⟩
theorem contains_pair (g : Nat → FPr) (A : Option Addr) (n c f : Nat) (cs : Array Value) (p : Nat → Bool) (w : World) (hn : n ≤ 9223372036854775807) (hr : PrsAt w A n g) (hcf : Enters f)
    (hf : ∀ i, i < n → ∀ w', Below w.heap.size w w' → Calls Tryz.prog f (#[.agg #[.int .i64 ((g i).one : Int), .int .i64 ((g i).oth : Int)]] ++ cs) w' fun e w'' => e = .returned (.bool (p i)) ∧ Below w'.heap.size w' w'') :
    Calls Tryz.prog 62 #[.slice A n c, .func (.func f) #[] cs] w fun e w' => e = .returned (.bool (anyB p n)) ∧ Below w.heap.size w w' := by
  go_enter Tryz.func62, Tryz.ntmps62
  go_wp2_with (go_at_call 64; refine (index_pair g A n c f cs p _ hn hr hcf hf).mono ?_; rintro e w' ⟨k, rfl, hk, hb⟩; have HK := Lib.hid hk; clear hk)
  all_goals
    go_ret
    exact ⟨ret_bool (by rw [← HK.out]), hb⟩
end Go.Proofs.YtifkjnmnflhnoaaGreatDoor

namespace Go.Proofs.YtifkjnmnflhnoaaGreatDoor
open Go.RowKit Go.Sort
theorem withinK_b (n lo hi : Int) (b : Bool) (w : World) (h : inR n lo hi = b) : Calls Tryz.prog 46 #[.int .i64 n, .int .i64 lo, .int .i64 hi] w fun e w' => e = .returned (.bool b) ∧ Below w.heap.size w w' := by
  have H := Lib.hid h
  clear h
  go_enter Tryz.func46, Tryz.ntmps46
  go_wp2
  all_goals
    go_ret
    exact ⟨ret_bool (by rw [← H.out]; unfold inR; simp; omega), Below.refl _ _⟩
set_option maxHeartbeats 4000000 in
set_option maxRecDepth 100000 in
theorem badSK_any (kb : Nat) (k : Kb) (x : Int × Int) (w : World) (h : 0 ≤ x.1 ∧ x.1 ≤ x.2 ∧ x.2 < k.base) (hk : TBox w kb 70 #[.int .i64 k.base, .int .i64 (k.pl : Int), .slice k.a k.n k.c, .slice k.top.ca k.pl k.top.cc]) :
    Calls Tryz.prog 93 #[.agg #[.int .i64 x.1, .int .i64 x.2], .pointer (some ⟨kb, 0, none⟩)] w fun e w' => e = .returned (.bool (false)) ∧ Below w.heap.size w w' := by
  have hd : decide (x.2 ≥ k.base) = false := by simp; omega
  have hd2 : ¬ x.2 ≥ k.base := by omega
  have HD0 := Lib.hid (Below.refl w.heap.size w)
  have HH := Lib.hid h
  clear h
  go_enter Tryz.func93, Tryz.ntmps93
  have K0 := Lib.hid hk
  clear hk
  obtain ⟨K_0, K_1, K_2, K_3, K_l⟩ := K0.out.c4
  go_wp2_with fail
  refine (withinK_b _ _ _ true _ (inR_t (by have := HH.out; omega))).mono ?_
  rintro e w1 ⟨rfl, hb⟩
  have hB1 : Below w.heap.size w w1 := bTrans (bAlloc (Below.refl _ _) (.cells #[.int .i64 x.1, .int .i64 x.2] 43)) hb
  have HD1 := Lib.hid (bTrans HD0.out hB1)
  have K1 := Lib.hid (K0.out.mono hB1)
  have X1 := Lib.hid (show TBox w1 w.heap.size 43 #[.int .i64 x.1, .int .i64 x.2] from by have := ((TBox.new w #[.int .i64 x.1, .int .i64 x.2] 43).mono (Below.refl _ _)).mono hb; simpa using this)
  clear hb hB1 HD0 K0 K_0 K_1 K_2 K_3 K_l
  obtain ⟨K_0, K_1, K_2, K_3, K_l⟩ := K1.out.c4
  obtain ⟨X_0, X_1, X_l⟩ := X1.out.c2
  go_wp2_with fail
  go_ret
  exact ⟨rfl, HD1.out⟩
set_option maxHeartbeats 4000000 in
set_option maxRecDepth 100000 in
theorem isCordK_any (k : Kb) (C : Crd) (w : World) (hp : k.pl ≤ 4) (h : CordOk k.base k.pl C.sp) (hC : SpsAt w C.ca k.pl C.sp) :
    Calls Tryz.prog 75 #[.agg #[.int .i64 k.base, .int .i64 (k.pl : Int), .slice k.a k.n k.c, .slice k.top.ca k.pl k.top.cc], .slice C.ca k.pl C.cc] w fun e w' => e = .returned (.bool (true)) ∧ Below w.heap.size w w' := by
  have HD0 := Lib.hid (Below.refl w.heap.size w)
  have HP := Lib.hid hp
  have HH := Lib.hid h
  have HC0 := Lib.hid hC
  clear hp h hC
  go_enter Tryz.func75, Tryz.ntmps75
  go_wp2_with fail
  refine (none_span C.sp C.ca k.pl C.cc 93 #[.pointer (some ⟨w.heap.size, 0, none⟩)] _ (by have := HP.out; omega) (HC0.out.mono (bAlloc (Below.refl _ _) (.cells #[.int .i64 k.base, .int .i64 (k.pl : Int), .slice k.a k.n k.c, .slice k.top.ca k.pl k.top.cc] 70))) (enters_of Tryz.func93 (by kernel_rfl)) (fun i hi w2 hb2 => by have h := badSK_any w.heap.size k (C.sp i) w2 (HH.out i hi) ((TBox.new w #[.int .i64 k.base, .int .i64 (k.pl : Int), .slice k.a k.n k.c, .slice k.top.ca k.pl k.top.cc] 70).mono hb2); simpa using h)).mono ?_
  rintro e w1 ⟨rfl, hb⟩
  have hB1 : Below w.heap.size w w1 := bTrans (bAlloc (Below.refl _ _) (.cells #[.int .i64 k.base, .int .i64 (k.pl : Int), .slice k.a k.n k.c, .slice k.top.ca k.pl k.top.cc] 70)) hb
  have HD1 := Lib.hid (bTrans HD0.out hB1)
  have HC1 := Lib.hid (HC0.out.mono hB1)
  have K1 := Lib.hid (show TBox w1 w.heap.size 70 #[.int .i64 k.base, .int .i64 (k.pl : Int), .slice k.a k.n k.c, .slice k.top.ca k.pl k.top.cc] from by have := ((TBox.new w #[.int .i64 k.base, .int .i64 (k.pl : Int), .slice k.a k.n k.c, .slice k.top.ca k.pl k.top.cc] 70).mono (Below.refl _ _)).mono hb; simpa using this)
  clear hb hB1 HD0 HC0
  obtain ⟨K_0, K_1, K_2, K_3, K_l⟩ := K1.out.c4
  go_wp2_with fail
  go_ret
  exact ⟨rfl, HD1.out⟩
set_option maxHeartbeats 4000000 in
set_option maxRecDepth 100000 in
theorem badCK_any (kb : Nat) (k : Kb) (C : Crd) (w : World) (hp : k.pl ≤ 4) (h : CordOk k.base k.pl C.sp) (hC : SpsAt w C.ca k.pl C.sp) (hk : TBox w kb 70 #[.int .i64 k.base, .int .i64 (k.pl : Int), .slice k.a k.n k.c, .slice k.top.ca k.pl k.top.cc]) :
    Calls Tryz.prog 74 #[.slice C.ca k.pl C.cc, .pointer (some ⟨kb, 0, none⟩)] w fun e w' => e = .returned (.bool (false)) ∧ Below w.heap.size w w' := by
  have HD0 := Lib.hid (Below.refl w.heap.size w)
  have HP := Lib.hid hp
  have HH := Lib.hid h
  have HC0 := Lib.hid hC
  clear hp h hC
  go_enter Tryz.func74, Tryz.ntmps74
  have K0 := Lib.hid hk
  clear hk
  obtain ⟨K_0, K_1, K_2, K_3, K_l⟩ := K0.out.c4
  go_wp2_with fail
  refine (isCordK_any k C _ HP.out HH.out HC0.out).mono ?_
  rintro e w1 ⟨rfl, hb⟩
  have hB1 : Below w.heap.size w w1 := bTrans (Below.refl _ _) hb
  have HD1 := Lib.hid (bTrans HD0.out hB1)
  have HC1 := Lib.hid (HC0.out.mono hB1)
  have K1 := Lib.hid (K0.out.mono hB1)
  clear hb hB1 HD0 HC0 K0 K_0 K_1 K_2 K_3 K_l
  obtain ⟨K_0, K_1, K_2, K_3, K_l⟩ := K1.out.c4
  go_wp2_with fail
  go_ret
  exact ⟨rfl, HD1.out⟩
theorem CrdsAt.sp {w : World} {A : Option Addr} {n pl : Nat} {g : Nat → Crd} (h : CrdsAt w A n pl g) {i : Nat} (hi : i < n) : SpsAt w (g i).ca pl (g i).sp := by
  rcases h with h | ⟨b, o, _, _, hc⟩
  · omega
  · exact (hc i hi).2
theorem noneK_any (kb : Nat) (k : Kb) (w : World) (ok : k.Ok) (hT : KbAt w k) (hk : TBox w kb 70 #[.int .i64 k.base, .int .i64 (k.pl : Int), .slice k.a k.n k.c, .slice k.top.ca k.pl k.top.cc]) : Calls Tryz.prog 76 #[.slice k.a k.n k.c, .func (.func 74) #[] #[.pointer (some ⟨kb, 0, none⟩)]] w fun e w' => e = .returned (.bool false) ∧ Below w.heap.size w w' :=
  none_cord k.pl k.g k.a k.n k.c 74 #[.pointer (some ⟨kb, 0, none⟩)] _ (by have := ok.n; omega) hT.cords (enters_of Tryz.func74 (by kernel_rfl)) (fun i hi w3 hb3 => by
    have h := badCK_any kb k (k.g i) w3 ok.pl.2 (ok.cord i hi) ((hT.mono hb3).cords.sp hi) (hk.mono hb3)
    simpa using h)
set_option maxHeartbeats 4000000 in
set_option maxRecDepth 100000 in
theorem checkK_any (k : Kb) (w : World) (ok : k.Ok) (hT : KbAt w k) :
    Calls Tryz.prog 54 #[.agg #[.int .i64 k.base, .int .i64 (k.pl : Int), .slice k.a k.n k.c, .slice k.top.ca k.pl k.top.cc]] w fun e w' => e = .returned (.int .i64 (0)) ∧ Below w.heap.size w w' := by
  have HD0 := Lib.hid (Below.refl w.heap.size w)
  have HOK := Lib.hid ok
  have HT0 := Lib.hid hT
  clear ok hT
  go_enter Tryz.func54, Tryz.ntmps54
  have h4 : ¬ (k.n : Int) > 4 := by have := HOK.out.n; omega
  have h4b : decide ((k.n : Int) > 4) = false := by simp; have := HOK.out.n; omega
  go_wp2_with fail
  refine (withinK_b _ _ _ true _ (inR_t (by have := HOK.out.base; omega))).mono ?_
  rintro e w1 ⟨rfl, hb⟩
  have hB1 : Below w.heap.size w w1 := bTrans (bAlloc (Below.refl _ _) (.cells #[.int .i64 k.base, .int .i64 (k.pl : Int), .slice k.a k.n k.c, .slice k.top.ca k.pl k.top.cc] 70)) hb
  have HD1 := Lib.hid (bTrans HD0.out hB1)
  have HT1 := Lib.hid (HT0.out.mono hB1)
  have K1 := Lib.hid (show TBox w1 w.heap.size 70 #[.int .i64 k.base, .int .i64 (k.pl : Int), .slice k.a k.n k.c, .slice k.top.ca k.pl k.top.cc] from by have := ((TBox.new w #[.int .i64 k.base, .int .i64 (k.pl : Int), .slice k.a k.n k.c, .slice k.top.ca k.pl k.top.cc] 70).mono (Below.refl _ _)).mono hb; simpa using this)
  clear hb hB1 HD0 HT0
  obtain ⟨K_0, K_1, K_2, K_3, K_l⟩ := K1.out.c4
  go_wp2_with fail
  refine (withinK_b _ _ _ true _ (inR_t (by have := HOK.out.pl; omega))).mono ?_
  rintro e w2 ⟨rfl, hb⟩
  have hB2 : Below w1.heap.size w1 w2 := bTrans (Below.refl _ _) hb
  have HD2 := Lib.hid (bTrans HD1.out hB2)
  have HT2 := Lib.hid (HT1.out.mono hB2)
  have K2 := Lib.hid (K1.out.mono hB2)
  clear hb hB2 HD1 HT1 K1 K_0 K_1 K_2 K_3 K_l
  obtain ⟨K_0, K_1, K_2, K_3, K_l⟩ := K2.out.c4
  go_wp2_with fail
  refine (noneK_any w.heap.size k _ HOK.out HT2.out K2.out).mono ?_
  rintro e w3 ⟨rfl, hb⟩
  have hB3 : Below w2.heap.size w2 w3 := bTrans (Below.refl _ _) hb
  have HD3 := Lib.hid (bTrans HD2.out hB3)
  have HT3 := Lib.hid (HT2.out.mono hB3)
  have K3 := Lib.hid (K2.out.mono hB3)
  clear hb hB3 HD2 HT2 K2 K_0 K_1 K_2 K_3 K_l
  obtain ⟨K_0, K_1, K_2, K_3, K_l⟩ := K3.out.c4
  go_wp2_with fail
  refine (badCK_any w.heap.size k k.top _ HOK.out.pl.2 HOK.out.top HT3.out.top K3.out).mono ?_
  rintro e w4 ⟨rfl, hb⟩
  have hB4 : Below w3.heap.size w3 w4 := bTrans (Below.refl _ _) hb
  have HD4 := Lib.hid (bTrans HD3.out hB4)
  have HT4 := Lib.hid (HT3.out.mono hB4)
  have K4 := Lib.hid (K3.out.mono hB4)
  clear hb hB4 HD3 HT3 K3 K_0 K_1 K_2 K_3 K_l
  obtain ⟨K_0, K_1, K_2, K_3, K_l⟩ := K4.out.c4
  go_wp2_with fail
  go_ret
  exact ⟨rfl, HD4.out⟩
set_option maxHeartbeats 4000000 in
set_option maxRecDepth 100000 in
theorem askK_any (k : Kb) (w : World) (ok : k.Ok) (hT : KbAt w k) :
    Calls Tryz.prog 45 #[.agg #[.int .i64 k.base, .int .i64 (k.pl : Int), .slice k.a k.n k.c, .slice k.top.ca k.pl k.top.cc], .bool true] w fun e w' => e = .returned (.int .i64 (0)) ∧ Below w.heap.size w w' := by
  have HD0 := Lib.hid (Below.refl w.heap.size w)
  have HOK := Lib.hid ok
  have HT0 := Lib.hid hT
  clear ok hT
  go_enter Tryz.func45, Tryz.ntmps45
  go_wp2_with fail
  refine (checkK_any k _ HOK.out (HT0.out.mono (bAlloc (Below.refl _ _) (.cells #[.int .i64 k.base, .int .i64 (k.pl : Int), .slice k.a k.n k.c, .slice k.top.ca k.pl k.top.cc] 70)))).mono ?_
  rintro e w1 ⟨rfl, hb⟩
  have hB1 : Below w.heap.size w w1 := bTrans (bAlloc (Below.refl _ _) (.cells #[.int .i64 k.base, .int .i64 (k.pl : Int), .slice k.a k.n k.c, .slice k.top.ca k.pl k.top.cc] 70)) hb
  have HD1 := Lib.hid (bTrans HD0.out hB1)
  have HT1 := Lib.hid (HT0.out.mono hB1)
  have K1 := Lib.hid (show TBox w1 w.heap.size 70 #[.int .i64 k.base, .int .i64 (k.pl : Int), .slice k.a k.n k.c, .slice k.top.ca k.pl k.top.cc] from by have := ((TBox.new w #[.int .i64 k.base, .int .i64 (k.pl : Int), .slice k.a k.n k.c, .slice k.top.ca k.pl k.top.cc] 70).mono (Below.refl _ _)).mono hb; simpa using this)
  clear hb hB1 HD0 HT0
  obtain ⟨K_0, K_1, K_2, K_3, K_l⟩ := K1.out.c4
  go_wp2_with fail
  go_ret
  exact ⟨rfl, HD1.out⟩
set_option maxHeartbeats 4000000 in
set_option maxRecDepth 100000 in
theorem hasK_any (k : Kb) (i : Int) (w : World) (h : 0 ≤ i ∧ i ≤ (k.n : Int)) :
    Calls Tryz.prog 80 #[.agg #[.int .i64 k.base, .int .i64 (k.pl : Int), .slice k.a k.n k.c, .slice k.top.ca k.pl k.top.cc], .int .i64 i] w fun e w' => e = .returned (.bool (true)) ∧ Below w.heap.size w w' := by
  have HD0 := Lib.hid (Below.refl w.heap.size w)
  have HH := Lib.hid h
  clear h
  go_enter Tryz.func80, Tryz.ntmps80
  go_wp2_with fail
  refine (withinK_b _ _ _ true _ (inR_t HH.out)).mono ?_
  rintro e w1 ⟨rfl, hb⟩
  have hB1 : Below w.heap.size w w1 := bTrans (bAlloc (Below.refl _ _) (.cells #[.int .i64 k.base, .int .i64 (k.pl : Int), .slice k.a k.n k.c, .slice k.top.ca k.pl k.top.cc] 70)) hb
  have HD1 := Lib.hid (bTrans HD0.out hB1)
  have K1 := Lib.hid (show TBox w1 w.heap.size 70 #[.int .i64 k.base, .int .i64 (k.pl : Int), .slice k.a k.n k.c, .slice k.top.ca k.pl k.top.cc] from by have := ((TBox.new w #[.int .i64 k.base, .int .i64 (k.pl : Int), .slice k.a k.n k.c, .slice k.top.ca k.pl k.top.cc] 70).mono (Below.refl _ _)).mono hb; simpa using this)
  clear hb hB1 HD0
  obtain ⟨K_0, K_1, K_2, K_3, K_l⟩ := K1.out.c4
  go_wp2_with fail
  go_ret
  exact ⟨rfl, HD1.out⟩
def numF (base : Int) (f : Nat → Int) : Nat → Int
  | 0 => 0
  | k + 1 => numF base f k * base + f k
set_option maxHeartbeats 4000000 in
set_option maxRecDepth 100000 in
theorem numberK_any (A : Option Addr) (n c : Nat) (base : Int) (f : Nat → Int) (w : World) (hn : n ≤ 100) (hb : 2 ≤ base ∧ base ≤ 10) (hf : ∀ j, j < n → 0 ≤ f j ∧ f j ≤ 1000000000) (hN : ∀ j, j ≤ n → 0 ≤ numF base f j ∧ numF base f j ≤ 1000000000) (hI : IntsAt w A n f) :
    Calls Tryz.prog 96 #[.int .i64 base, .slice A n c] w fun e w' => e = .returned (.int .i64 (numF base f n)) ∧ Below w.heap.size w w' := by
  have HD0 := Lib.hid (Below.refl w.heap.size w)
  have HN := Lib.hid hn
  have HB := Lib.hid hb
  have HF := Lib.hid hf
  have HNF := Lib.hid hN
  have HI0 := Lib.hid hI
  clear hn hb hf hN hI
  go_enter Tryz.func96, Tryz.ntmps96
  go_wp2_with fail
  go_loopw [5, 10] (fun s5 s10 wr => ∃ k : Nat, k ≤ n ∧ s5 = .int .i64 (numF base f k) ∧ s10 = .int .i64 (k : Int) ∧ Below w.heap.size w wr) (fun _ s10 _ => n - (intOf s10).toNat)
  case atStart => exact ⟨0, Nat.zero_le _, rfl, rfl, Below.refl _ _⟩
  case round =>
    obtain ⟨k, hk_k, rfl, rfl, hb⟩ := hrel
    have HBk := Lib.hid hb
    have hB1 : Below w.heap.size w wr := bTrans (Below.refl _ _) hb
    have HD1 := Lib.hid (bTrans HD0.out hB1)
    have HI1 := Lib.hid (HI0.out.mono hB1)
    have HU_k1 := Lib.hid ((show Upto w wr from HBk.out))
    clear hb hB1
    by_cases hlt_k : k < n
    case pos =>
      have h1_k : (k : Int) < (n : Int) := by omega
      have h0_k : (0 : Int) ≤ (k : Int) := by omega
      have hb_k : k < 100 := by have := HN.out; omega
      rcases HI1.out with h0 | ⟨b, o, hA, hlt, hc⟩
      · omega
      have c0 := hc k hlt_k
      have hx := HNF.out k (by omega)
      have hx1 := HNF.out (k + 1) (by omega)
      have hbb := HB.out
      have hff := HF.out k hlt_k
      have hstep : numF base f (k + 1) = numF base f k * base + f k := rfl
      rw [hstep] at hx1
      obtain ⟨x, hxe⟩ : ∃ x, numF base f k = x := ⟨_, rfl⟩
      rw [hxe] at hx hx1 hstep ⊢
      obtain ⟨y, hy⟩ : ∃ y, x * base = y := ⟨_, rfl⟩
      have hy0 : 0 ≤ y ∧ y ≤ 10000000000 := by rw [← hy]; exact ⟨Int.mul_nonneg hx.1 (by omega), Int.le_trans (Int.mul_le_mul hx.2 hbb.2 (by omega) (by omega)) (by decide)⟩
      have e1 : IntKind.i64.wrap (x * base) = y := by rw [hy]; exact IntWalk.i64_in _ (by omega)
      rw [hy] at hx1 hstep
      have e2 : IntKind.i64.wrap (y + f k) = y + f k := IntWalk.i64_in _ (by omega)
      have HST := Lib.hid hstep
      subst hA
      clear hc hy hxe hstep hx hx1 hff hbb hy0
      go_wp2_with fail
      go_roundw
      case rel =>
        first
        | exact ⟨k + 1, by omega, by rw [HST.out], by go_num, HU_k1.out⟩
        | ((repeat apply Exists.intro)
           refine ⟨⟨k + 1, by omega, by rw [HST.out], ?_, HU_k1.out⟩, rfl⟩
           go_num)
      case measure => simp [intOf]; omega
    have he_k : k = n := by omega
    subst he_k
    go_wp2_with fail
    go_ret
    exact ⟨rfl, HD1.out⟩
end Go.Proofs.YtifkjnmnflhnoaaGreatDoor

namespace Go.Proofs.YtifkjnmnflhnoaaGreatDoor
open Go.RowKit Go.Sort
section
variable {P : Program}
end
end Go.Proofs.YtifkjnmnflhnoaaGreatDoor

