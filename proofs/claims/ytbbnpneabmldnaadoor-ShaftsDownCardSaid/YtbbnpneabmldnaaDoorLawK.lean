/- Walks: First, More (of the reference). Conditions: small shafts. -/
import Derived.Test.YtbbnpneabmldnaaDoorLawB
import Derived.Test.YtbbnpneabmldnaaDoorWalkZc
namespace Go.Proofs.YtbbnpneabmldnaaDoor
open Go.RowKit Go.Sort
theorem Above.setNew {base : Nat} {w w' : World} {p : Addr} (hp : w.heap.size ≤ p.block) (h : Above base w w') (v : Value) : Above base w (w'.setCell p v) :=
  ⟨by simpa [World.setCell] using h.size, fun b o h1 h2 => (World.cell?_setCell_other _ _ _ _ (fun e => by subst e; simp at hp; omega)).trans (h.cell b o h1 h2), fun b o h1 h2 => (World.frozen?_setCell _ _ _ _).trans (h.frozen b o h1 h2)⟩
/-- what First and More hand back: a shaft in new memory -/
def Given (w' : World) (S : Sh) (e : Ending) : Prop :=
  ∃ (Ar : Option Addr) (p : Addr) (cr cf : Nat), e = .returned (.agg #[.slice Ar S.nr cr, .slice (some p) S.nf cf, .int .i64 S.deep, .int .i64 S.haul, .int .i64 S.rest]) ∧ ShAt w' Ar (some p) S ∧ S.nf ≤ cf ∧ cf ≤ 9223372036854775807
theorem first_given {base : Nat} {w2 w' : World} {S : Sh} {Ar : Option Addr} {p : Addr} {cr cf d : Nat} (h : ShAt w2 Ar (some p) S) (h1 : Fresh w2 base Ar S.nr cr) (h2 : Fresh w2 base (some p) S.nf cf) (hd : d ≤ S.nf) (hc : cf ≤ 9223372036854775807) (ha : Above base w2 w') :
    Given w' (S.first d) (.returned (.agg #[.slice Ar S.nr cr, .slice (some p) d cf, .int .i64 S.deep, .int .i64 S.haul, .int .i64 S.rest])) := by
  have h := copied_above (base := base) h h1 h2 (Nat.le_refl _) ha
  exact ⟨Ar, p, cr, cf, rfl, h.1.first hd, Nat.le_trans hd h2.1, hc⟩
set_option maxHeartbeats 1000000 in
set_option maxRecDepth 100000 in
theorem First_any (Ar Af : Option Addr) (cr cf : Nat) (S : Sh) (d : Nat) (w : World) (hr : S.nr ≤ 1000) (hf : S.nf ≤ 1000) (hd : d ≤ S.nf) (hS : ShAt w Ar Af S) :
    Calls Tryd.prog 36 #[.agg #[.slice Ar S.nr cr, .slice Af S.nf cf, .int .i64 S.deep, .int .i64 S.haul, .int .i64 S.rest], .int .i64 d] w fun e w' => Given w' (S.first d) e ∧ Below w.heap.size w w' := by
  have hb0 := bAlloc (bAlloc (Below.refl w.heap.size w) (.cells #[.slice Ar S.nr cr, .slice Af S.nf cf, .int .i64 S.deep, .int .i64 S.haul, .int .i64 S.rest] 25)) (.cells #[.slice none 0 0, .slice none 0 0, .int .i64 0, .int .i64 0, .int .i64 0] 25)
  have HS := Lib.hid (hS.mono hb0)
  have HB := Lib.hid hb0
  clear hS hb0
  go_enter Tryd.func36, Tryd.ntmps36
  go_wp2_with fail
  refine (Copy_any _ _ _ _ S _ hr hf HS.out).mono ?_
  rintro e w2 ⟨⟨A2, F2, c2, d2, rfl, hS2, hFr, hFf⟩, hb2⟩
  obtain ⟨u1, u2, ⟨p, rfl, hp⟩, u4⟩ := id hFf
  have HS2 := Lib.hid hS2
  have HF1 := Lib.hid hFr
  have HF2 := Lib.hid hFf
  have HB2 := Lib.hid hb2
  obtain ⟨bc2, bf2⟩ := bcell hb2
  have hz2 := hb2.size
  simp only [World.size_alloc] at hz2
  have hy2 : w.heap.size < w2.heap.size := by omega
  have hx2 : w.heap.size + 1 < w2.heap.size := by omega
  clear hb2 hS2 hFr hFf u4
  go_wp2_with fail
  have hb2 := HB2.out
  refine bodyPost_ret (v := .agg #[.slice A2 S.nr c2, .slice (some p) d d2, .int .i64 S.deep, .int .i64 S.haul, .int .i64 S.rest]) (by simp [results, Tryd.results36, go_sem, *]) rfl ?_
  refine ⟨?_, by have := HB.out; (repeat (first | (with_reducible exact Below.refl _ _) | (with_reducible refine bAlloc ?_ _) | (with_reducible refine bDrew ?_) | (with_reducible refine bGrow ?_ _ _) | (with_reducible refine bSet ?_ ?_ _; (first | exact Nat.le_refl _ | exact Nat.le_add_right _ _ | (simp; omega))) | (with_reducible refine bTrans ?_ (by assumption))))⟩
  refine first_given HS2.out HF1.out HF2.out hd u2 ?_
  (repeat (first | (with_reducible exact Above.refl _ _) | ((with_reducible refine Above.setCell ?_ ?_ _); (focus (simp; done))) | ((with_reducible refine Above.setCell ?_ ?_ _); (focus (simp; omega))) | ((with_reducible refine Above.setNew ?_ ?_ _); (focus (simp; done))) | ((with_reducible refine Above.setNew ?_ ?_ _); (focus (simp; omega))) | (with_reducible refine Above.alloc ?_ _) | (with_reducible refine Above.drew ?_)))
end Go.Proofs.YtbbnpneabmldnaaDoor
