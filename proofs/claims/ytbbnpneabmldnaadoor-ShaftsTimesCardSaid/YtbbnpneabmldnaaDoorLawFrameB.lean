/- The frame of each statement, on: a list of numbers that came in, small structs of numbers. No condition. -/
import Derived.Test.YtbbnpneabmldnaaDoorLawFrame
namespace Go.Proofs.YtbbnpneabmldnaaDoor
open Go.RowKit Go.Sort Go.ChangeShapes Go.WideShapes Go.ChangeAt Go.Deep
set_option maxRecDepth 100000 in
theorem list_in {H : Type} {enc : TypeId × Value → H} {W : World} {base b0 : Nat} {r : Reach} {sp : Nat → Bool} {held : Bool} {v : Value} {d : DataW H} {p : List MemPlace} (hv : Value.okWide Tryd.prog W r b0 23 v) (h : DataW.Trod enc Tryd.prog W base sp held 23 v d p) :
    ∃ A m c g, v = .slice A m c ∧ IntsAt W A m g ∧ m ≤ 9223372036854775807 := by
  obtain ⟨a, len, cap, rfl⟩ := okWide_slice Tryd.underlying23 hv
  obtain ⟨fuel, hf⟩ := h
  obtain ⟨A, n, c, g, hc, hg, hs⟩ := ints_in Tryd.underlying23 Tryd.underlying3 (by kernel_rfl) hf
  simp only [Value.cells, List.cons.injEq, and_true] at hc
  exact ⟨A, n, c, g, hc, hg, Nat.le_trans hs.1 hs.2.1⟩
section
variable {H : Type} {enc : TypeId × Value → H} {P : Program} {w : World} {base b0 : Nat} {r : Reach} {sp : Nat → Bool} {held : Bool}
def InI (n : Int) : Prop := -9223372036854775808 ≤ n ∧ n ≤ 9223372036854775807
theorem struct2_in {t ti : TypeId} {f0 f1 : Field} {v : Value} {d : DataW H} {p : List MemPlace} (ht : P.underlying t = some (.struct #[f0, f1])) (hone : oneCellFields P #[f0, f1] = true && (f0.type == ti && f1.type == ti) && P.cellsOf t == 2)
    (hi : P.underlying ti = some (.int .i64)) (hv : Value.okWide P w r b0 t v) (h : DataW.Trod enc P w base sp held t v d p) : ∃ a b, v = .agg #[.int .i64 a, .int .i64 b] ∧ InI a ∧ InI b := by
  simp only [Bool.and_eq_true, beq_iff_eq, decide_eq_true_eq] at hone
  obtain ⟨⟨ho, e0, e1⟩, hC⟩ := hone
  obtain ⟨cs, rfl, hsz⟩ := okWide_struct ht hv
  obtain ⟨l⟩ := cs
  obtain ⟨fuel, hf⟩ := h
  obtain ⟨xs, n, _, hx, hlen, hxl, hg⟩ := DataW.trod_struct ht hf
  obtain ⟨o0, k0⟩ := hone_of ho 0 f0 rfl
  obtain ⟨o1, k1⟩ := hone_of ho 1 f1 rfl
  match l, hsz.trans hC, xs, hxl with
  | [c0, c1], _, [y0, y1], _ =>
    have g0 := hg 0 f0 rfl
    have g1 := hg 1 f1 rfl
    rw [o0, k0, e0] at g0
    rw [o1, k1, e1] at g1
    simp only [Value.cells, List.drop_zero, List.take_succ_cons, List.take_zero, List.drop_succ_cons, List.getElem?_cons_zero, List.getElem?_cons_succ] at g0 g1
    obtain ⟨a, h0, _, w0⟩ := DataW.trod_int hi g0
    obtain ⟨b, h1, _, w1⟩ := DataW.trod_int hi g1
    injection h0 with h0
    injection h1 with h1
    subst h0 h1
    exact ⟨a, b, rfl, int_wf w0, int_wf w1⟩
theorem struct3_in {t ti : TypeId} {f0 f1 f2 : Field} {v : Value} {d : DataW H} {p : List MemPlace} (ht : P.underlying t = some (.struct #[f0, f1, f2])) (hone : oneCellFields P #[f0, f1, f2] = true && (f0.type == ti && f1.type == ti && f2.type == ti) && P.cellsOf t == 3)
    (hi : P.underlying ti = some (.int .i64)) (hv : Value.okWide P w r b0 t v) (h : DataW.Trod enc P w base sp held t v d p) : ∃ a b c, v = .agg #[.int .i64 a, .int .i64 b, .int .i64 c] ∧ InI a ∧ InI b ∧ InI c := by
  simp only [Bool.and_eq_true, beq_iff_eq, decide_eq_true_eq] at hone
  obtain ⟨⟨ho, ⟨e0, e1⟩, e2⟩, hC⟩ := hone
  obtain ⟨cs, rfl, hsz⟩ := okWide_struct ht hv
  obtain ⟨l⟩ := cs
  obtain ⟨fuel, hf⟩ := h
  obtain ⟨xs, n, _, hx, hlen, hxl, hg⟩ := DataW.trod_struct ht hf
  obtain ⟨o0, k0⟩ := hone_of ho 0 f0 rfl
  obtain ⟨o1, k1⟩ := hone_of ho 1 f1 rfl
  obtain ⟨o2, k2⟩ := hone_of ho 2 f2 rfl
  match l, hsz.trans hC, xs, hxl with
  | [c0, c1, c2], _, [y0, y1, y2], _ =>
    have g0 := hg 0 f0 rfl
    have g1 := hg 1 f1 rfl
    have g2 := hg 2 f2 rfl
    rw [o0, k0, e0] at g0
    rw [o1, k1, e1] at g1
    rw [o2, k2, e2] at g2
    simp only [Value.cells, List.drop_zero, List.take_succ_cons, List.take_zero, List.drop_succ_cons, List.getElem?_cons_zero, List.getElem?_cons_succ] at g0 g1 g2
    obtain ⟨a, h0, _, w0⟩ := DataW.trod_int hi g0
    obtain ⟨b, h1, _, w1⟩ := DataW.trod_int hi g1
    obtain ⟨c, h2, _, w2⟩ := DataW.trod_int hi g2
    injection h0 with h0
    injection h1 with h1
    injection h2 with h2
    subst h0 h1 h2
    exact ⟨a, b, c, rfl, int_wf w0, int_wf w1, int_wf w2⟩
end
end Go.Proofs.YtbbnpneabmldnaaDoor
