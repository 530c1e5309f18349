/- Walks and laws of shafts that this seat needs, taken out of my texts of the shafts' seat. No condition but those that each states. -/
import Derived.Test.YtdboicnlkbnbnaaDoorShB
namespace Go.Proofs.YtdboicnlkbnbnaaDoor
open Go.RowKit Go.Sort
theorem first_given {base : Nat} {w2 w' : World} {S : Sh} {Ar : Option Addr} {p : Addr} {cr cf d : Nat} (h : ShAt w2 Ar (some p) S) (h1 : Fresh w2 base Ar S.nr cr) (h2 : Fresh w2 base (some p) S.nf cf) (hd : d ≤ S.nf) (hc : cf ≤ 9223372036854775807) (ha : Above base w2 w') :
    Given w' (S.first d) (.returned (.agg #[.slice Ar S.nr cr, .slice (some p) d cf, .int .i64 S.deep, .int .i64 S.haul, .int .i64 S.rest])) := by
  have h := copied_above (base := base) h h1 h2 (Nat.le_refl _) ha
  exact ⟨Ar, p, cr, cf, rfl, h.1.first hd, Nat.le_trans hd h2.1, hc⟩
set_option maxHeartbeats 1000000 in
set_option maxRecDepth 100000 in
theorem First_any (Ar Af : Option Addr) (cr cf : Nat) (S : Sh) (d : Nat) (w : World) (hr : S.nr ≤ 1000) (hf : S.nf ≤ 1000) (hd : d ≤ S.nf) (hS : ShAt w Ar Af S) :
    Calls Tryd.prog 14 #[.agg #[.slice Ar S.nr cr, .slice Af S.nf cf, .int .i64 S.deep, .int .i64 S.haul, .int .i64 S.rest], .int .i64 d] w fun e w' => Given w' (S.first d) e ∧ Below w.heap.size w w' := by
  have hb0 := bAlloc (bAlloc (Below.refl w.heap.size w) (.cells #[.slice Ar S.nr cr, .slice Af S.nf cf, .int .i64 S.deep, .int .i64 S.haul, .int .i64 S.rest] 29)) (.cells #[.slice none 0 0, .slice none 0 0, .int .i64 0, .int .i64 0, .int .i64 0] 29)
  have HS := Lib.hid (hS.mono hb0)
  have HB := Lib.hid hb0
  clear hS hb0
  go_enter Tryd.func14, Tryd.ntmps14
  go_wp2_with fail
  refine (Copy_any _ _ _ _ S _ hr hf HS.out).mono ?_
  rintro e w2 ⟨⟨A2, F2, c2, d2, rfl, hS2, hFr, hFf⟩, hb2⟩
  obtain ⟨u1, u2, ⟨p, rfl, hp⟩, u4⟩ := id hFf
  have HS2 := Lib.hid hS2
  have HF1 := Lib.hid hFr
  have HF2 := Lib.hid hFf
  have HB2 := Lib.hid hb2
  obtain ⟨bc2, bf2⟩ := bcell hb2
  have hz2 := hb2.size
  simp only [World.size_alloc] at hz2
  have hy2 : w.heap.size < w2.heap.size := by omega
  have hx2 : w.heap.size + 1 < w2.heap.size := by omega
  clear hb2 hS2 hFr hFf u4
  go_wp2_with fail
  have hb2 := HB2.out
  refine bodyPost_ret (v := .agg #[.slice A2 S.nr c2, .slice (some p) d d2, .int .i64 S.deep, .int .i64 S.haul, .int .i64 S.rest]) (by simp [results, Tryd.results14, go_sem, *]) rfl ?_
  refine ⟨?_, by have := HB.out; (repeat (first | (with_reducible exact Below.refl _ _) | (with_reducible refine bAlloc ?_ _) | (with_reducible refine bDrew ?_) | (with_reducible refine bGrow ?_ _ _) | (with_reducible refine bSet ?_ ?_ _; (first | exact Nat.le_refl _ | exact Nat.le_add_right _ _ | (simp; omega))) | (with_reducible refine bTrans ?_ (by assumption))))⟩
  refine first_given HS2.out HF1.out HF2.out hd u2 ?_
  (repeat (first | (with_reducible exact Above.refl _ _) | ((with_reducible refine Above.setCell ?_ ?_ _); (focus (simp; done))) | ((with_reducible refine Above.setCell ?_ ?_ _); (focus (simp; omega))) | ((with_reducible refine Above.setNew ?_ ?_ _); (focus (simp; done))) | ((with_reducible refine Above.setNew ?_ ?_ _); (focus (simp; omega))) | (with_reducible refine Above.alloc ?_ _) | (with_reducible refine Above.drew ?_)))
theorem AtHand.mono {N : Nat} {e : TypeId} {size n : Nat} {xs : List Value} {w w' : World} {v : Value} (hb : Below w.heap.size w w') (h : AtHand N e size n xs w v) : AtHand N e size n xs w' v :=
  h.imp id fun h => ⟨h.1, owns_below h.2 hb⟩
/-- a slice that reads as a list of numbers, in a row of numbers -/
def SliceIs (w : World) (v : Value) (l : List Int) : Prop :=
  ∃ A c, v = .slice A l.length c ∧ IntsAt w A l.length (gOf l) ∧ (l = [] ∨ ∃ b o cur fr, A = some ⟨b, o, none⟩ ∧ w.heap[b]? = some (.cells cur 3 fr))
theorem heap_lt {w : World} {b : Nat} {o : Obj} (h : w.heap[b]? = some o) : b < w.heap.size := (Array.getElem?_eq_some_iff.1 h).1
theorem SliceIs.mono {w w' : World} {v : Value} {l : List Int} (h : SliceIs w v l) (hb : Below w.heap.size w w') : SliceIs w' v l := by
  obtain ⟨A, c, e, h1, h2⟩ := h
  refine ⟨A, c, e, h1.mono hb, h2.imp id ?_⟩
  rintro ⟨b, o, cur, fr, e1, e2⟩
  exact ⟨b, o, cur, fr, e1, (hb.block b (heap_lt e2)).trans e2⟩
def RowsT (w : World) : List Value → List (List Int) → Prop
  | [], [] => True
  | v :: vs, l :: ls => SliceIs w v l ∧ RowsT w vs ls
  | _, _ => False
theorem RowsT.imp {w w' : World} (h : ∀ v l, SliceIs w v l → SliceIs w' v l) : ∀ {vs : List Value} {ls : List (List Int)}, RowsT w vs ls → RowsT w' vs ls
  | [], [], _ => trivial
  | _ :: _, _ :: _, hr => ⟨h _ _ hr.1, RowsT.imp h hr.2⟩
  | [], _ :: _, hr => hr.elim
  | _ :: _, [], hr => hr.elim
theorem RowsT.mono {w w' : World} {vs : List Value} {ls : List (List Int)} (h : RowsT w vs ls) (hb : Below w.heap.size w w') : RowsT w' vs ls := h.imp fun _ _ h => h.mono hb
/-- a row of lists of the call's own -/
def Listed (base : Nat) (w : World) (L : List (List Int)) (v : Value) : Prop := ∃ vs, w.ownsRow base 27 1 v L.length vs ∧ RowsT w vs L
theorem Listed.mono {base : Nat} {w w' : World} {L : List (List Int)} {v : Value} (h : Listed base w L v) (hb : Below w.heap.size w w') : Listed base w' L v := by
  obtain ⟨vs, h1, h2⟩ := h
  exact ⟨vs, owns_below h1 hb, h2.mono hb⟩
theorem huge_few {S : Sh} {n : Nat} (h : S.hugeB n = false) : S.nr ≤ 40 ∧ S.nf ≤ 40 ∧ n ≤ 40 := by
  unfold Sh.hugeB at h; simp at h; omega
def FarOut (S : Sh) (e : Ending) : Prop := ∃ b, e = .returned (.bool b) ∧ (b = false → S.nr ≤ 40 ∧ S.nf ≤ 40)
set_option maxHeartbeats 2000000 in
theorem Far_any (Ar Af : Option Addr) (cr cf : Nat) (S : Sh) (w : World) (hr : S.nr ≤ 9223372036854775807) (hf : S.nf ≤ 9223372036854775807) (hS : ShAt w Ar Af S) :
    Calls Tryd.prog 6 #[.agg #[.slice Ar S.nr cr, .slice Af S.nf cf, .int .i64 S.deep, .int .i64 S.haul, .int .i64 S.rest]] w fun e w' => FarOut S e ∧ Below w.heap.size w w' := by
  have hb0 := bAlloc (Below.refl w.heap.size w) (.cells #[.slice Ar S.nr cr, .slice Af S.nf cf, .int .i64 S.deep, .int .i64 S.haul, .int .i64 S.rest] 29)
  have HS := Lib.hid (hS.mono hb0)
  have HB := Lib.hid hb0
  clear hS hb0
  cases hh : S.hugeB 0
  · obtain ⟨h40, h41, _⟩ := huge_few hh
    by_cases h8 : (8 : Int) < (S.nf : Int)
    · have hcase : (S.err = 0 ∧ ((S.err == 0) = true)) ∨ (S.err = 20 ∧ ((S.err == 0) = false)) := by
        by_cases ok : S.Ok
        · exact .inl ⟨if_pos ok, by rw [show S.err = 0 from if_pos ok]; rfl⟩
        · exact .inr ⟨if_neg ok, by rw [show S.err = 20 from if_neg ok]; rfl⟩
      rcases hcase with ⟨he, hq⟩ | ⟨he, hq⟩
      all_goals
        have HE := Lib.hid he
        clear he
        go_enter Tryd.func6, Tryd.ntmps6
        go_wp2_with (first | (go_at_call 20; refine (Huge_any _ _ _ _ S _ _ _ _ hr hf (by omega)).mono ?_; rintro e w1 ⟨rfl, hb1⟩; obtain ⟨bc1, bf1⟩ := bcell hb1; have hz1 := hb1.size; simp only [World.size_alloc] at hz1; have hy1 : w.heap.size < w1.heap.size := (by omega)) | (go_at_call 7; refine (refCheck_any _ _ _ _ S _ hr hf (HS.out.mono hb1)).mono ?_; rintro e w2 ⟨rfl, hb2⟩))
        go_ret
        exact ⟨⟨_, rfl, fun _ => ⟨h40, h41⟩⟩, by have := HB.out; (repeat (first | (with_reducible exact Below.refl _ _) | (with_reducible refine bAlloc ?_ _) | (with_reducible refine bDrew ?_) | (with_reducible refine bGrow ?_ _ _) | (with_reducible refine bSet ?_ ?_ _; (first | exact Nat.le_refl _ | exact Nat.le_add_right _ _ | (simp; omega))) | (with_reducible refine bTrans ?_ (by assumption))))⟩
    · go_enter Tryd.func6, Tryd.ntmps6
      go_wp2_with (go_at_call 20; refine (Huge_any _ _ _ _ S _ _ _ _ hr hf (by omega)).mono ?_; rintro e w1 ⟨rfl, hb1⟩; obtain ⟨bc1, bf1⟩ := bcell hb1; have hz1 := hb1.size; simp only [World.size_alloc] at hz1; have hy1 : w.heap.size < w1.heap.size := (by omega))
      go_ret
      exact ⟨⟨_, rfl, fun _ => ⟨h40, h41⟩⟩, by have := HB.out; (repeat (first | (with_reducible exact Below.refl _ _) | (with_reducible refine bAlloc ?_ _) | (with_reducible refine bDrew ?_) | (with_reducible refine bGrow ?_ _ _) | (with_reducible refine bSet ?_ ?_ _; (first | exact Nat.le_refl _ | exact Nat.le_add_right _ _ | (simp; omega))) | (with_reducible refine bTrans ?_ (by assumption))))⟩
  · go_enter Tryd.func6, Tryd.ntmps6
    go_wp2_with (go_at_call 20; refine (Huge_any _ _ _ _ S _ _ _ _ hr hf (by omega)).mono ?_; rintro e w1 ⟨rfl, hb1⟩)
    go_ret
    exact ⟨⟨true, rfl, fun h => by cases h⟩, by have := HB.out; (repeat (first | (with_reducible exact Below.refl _ _) | (with_reducible refine bAlloc ?_ _) | (with_reducible refine bDrew ?_) | (with_reducible refine bGrow ?_ _ _) | (with_reducible refine bSet ?_ ?_ _; (first | exact Nat.le_refl _ | exact Nat.le_add_right _ _ | (simp; omega))) | (with_reducible refine bTrans ?_ (by assumption))))⟩
end Go.Proofs.YtdboicnlkbnbnaaDoor
