/- Parts joined: what all claims of this seat need. -/
import Derived.Test.YthnojgdckkdcgaaGreatDoorNSF
import Derived.Test.YthnojgdckkdcgaaGreatDoorNSG
import Derived.Test.YthnojgdckkdcgaaGreatDoorCards
import Derived.Test.YthnojgdckkdcgaaGreatDoorNSE
set_option linter.unusedSimpArgs false
set_option linter.unusedVariables false
namespace Go.Proofs.YthnojgdckkdcgaaGreatDoor
open Go.RowKit Go.Sort Go.ChangeShapes Go.WideShapes Go.ChangeAt Go.Deep
/-- what fits into memory -/
structure Spot.Fits (x : Spot) : Prop where
  nr : x.sh.nr * 32 ≤ 140737488351232
  nf : x.sh.nf * 8 ≤ 140737488351232
  fl : x.fl.Fits
structure Pt.Fits (t : Pt) : Prop where
  q : t.q.Fits
  no : t.no * 8 ≤ 140737488351232
  np : t.np * 8 ≤ 140737488351232
  ns : t.ns * 104 ≤ 140737488351232
  spot : ∀ i, i < t.ns → (t.spot i).Fits
theorem Spot.Fits.small {x : Spot} (h : x.Fits) : x.Small := ⟨by have := h.nr; omega, by have := h.nf; omega, by have := h.fl.1; omega, fun k hk => by have := h.fl.2 k hk; omega⟩
theorem Pt.Fits.small {t : Pt} (h : t.Fits) : t.Small := ⟨h.q.small, by have := h.no; omega, by have := h.np; omega, by have := h.ns; omega, fun i hi => (h.spot i hi).small⟩
section
variable {H : Type} {enc : TypeId × Value → H} {P : Program} {w : World} {base b0 : Nat} {r : Reach} {sp : Nat → Bool} {held : Bool}
theorem four_ints {t ti : TypeId} {f0 f1 f2 f3 : Field} {fuel : Nat} {cs : List Value} {x : DataW H × List MemPlace} (ht : P.underlying t = some (.struct #[f0, f1, f2, f3])) (hone : oneCellFields P #[f0, f1, f2, f3] = true && (f0.type == ti && f1.type == ti && f2.type == ti && f3.type == ti) && P.cellsOf t == 4)
    (hi : P.underlying ti = some (.int .i64)) (h : DataW.trod enc P w base sp held fuel t cs = some x) : ∃ a b c d, cs = [.int .i64 a, .int .i64 b, .int .i64 c, .int .i64 d] := by
  simp only [Bool.and_eq_true, beq_iff_eq, decide_eq_true_eq] at hone
  obtain ⟨⟨ho, ⟨⟨e0, e1⟩, e2⟩, e3⟩, hC⟩ := hone
  obtain ⟨xs, n, _, hx, hlen, hxl, hg⟩ := DataW.trod_struct ht h
  obtain ⟨o0, k0⟩ := hone_of ho 0 f0 rfl
  obtain ⟨o1, k1⟩ := hone_of ho 1 f1 rfl
  obtain ⟨o2, k2⟩ := hone_of ho 2 f2 rfl
  obtain ⟨o3, k3⟩ := hone_of ho 3 f3 rfl
  match cs, hlen.trans hC, xs, hxl with
  | [c0, c1, c2, c3], _, [y0, y1, y2, y3], _ =>
    have g0 := hg 0 f0 rfl
    have g1 := hg 1 f1 rfl
    have g2 := hg 2 f2 rfl
    have g3 := hg 3 f3 rfl
    rw [o0, k0, e0] at g0
    rw [o1, k1, e1] at g1
    rw [o2, k2, e2] at g2
    rw [o3, k3, e3] at g3
    simp only [List.drop_zero, List.take_succ_cons, List.take_zero, List.drop_succ_cons, List.getElem?_cons_zero, List.getElem?_cons_succ] at g0 g1 g2 g3
    obtain ⟨a, h0, _⟩ := DataW.trod_int hi g0
    obtain ⟨b, h1, _⟩ := DataW.trod_int hi g1
    obtain ⟨c, h2, _⟩ := DataW.trod_int hi g2
    obtain ⟨d, h3, _⟩ := DataW.trod_int hi g3
    injection h0 with h0
    injection h1 with h1
    injection h2 with h2
    injection h3 with h3
    subst h0 h1 h2 h3
    exact ⟨a, b, c, d, rfl⟩
theorem rocks_fit {t e ti : TypeId} {f0 f1 f2 f3 : Field} {fuel : Nat} {cs : List Value} {x : DataW H × List MemPlace} (ht : P.underlying t = some (.slice e)) (he : P.underlying e = some (.struct #[f0, f1, f2, f3])) (hone : oneCellFields P #[f0, f1, f2, f3] = true && (f0.type == ti && f1.type == ti && f2.type == ti && f3.type == ti) && P.cellsOf e == 4)
    (hi : P.underlying ti = some (.int .i64)) (hbe : P.bytesOf e = 32) (hf : Fit P t x.1) (h : DataW.trod enc P w base sp held fuel t cs = some x) : ∃ A n c f, cs = [.slice A n c] ∧ RocksAt w A n f ∧ n * 32 ≤ 140737488351232 ∧ SliceIn A n c := by
  have hC : P.cellsOf e = 4 := by
    simp only [Bool.and_eq_true, beq_iff_eq] at hone
    exact hone.2
  rcases open_slice ht h with ⟨h0, _⟩ | ⟨a, len, cap, m, n, D, Pl, hcs, hb, hl, hm, hmm, hx, hel⟩
  · exact ⟨none, 0, 0, fun _ => default, h0, .inl rfl, by decide, Nat.le_refl _, by omega, fun _ => ⟨rfl, rfl⟩⟩
  · have hlm : len ≤ m := by rw [hmm]; split <;> omega
    have hin : SliceIn (some a) len cap := ⟨hl, by unfold maxLen at hm; exact hm, fun h => by cases h⟩
    have hf' : Fit P t (.slice ((List.range len).map D) ((List.range (m - len)).map fun j => D (len + j))) := by rw [hx] at hf; exact hf
    obtain ⟨g1, _⟩ := fit_slice ht hf'
    rw [hbe] at g1
    rw [hC] at hel
    rcases Nat.eq_zero_or_pos len with h0 | h0
    · subst h0; exact ⟨_, 0, cap, fun _ => default, hcs, .inl rfl, by decide, hin⟩
    · have each : ∀ i, i < m → ∃ k0 k1 k2 k3 : Int, w.cell? ((a.add (i * 4)).add 0) = some (.int .i64 k0) ∧ w.cell? ((a.add (i * 4)).add 1) = some (.int .i64 k1) ∧ w.cell? ((a.add (i * 4)).add 2) = some (.int .i64 k2) ∧ w.cell? ((a.add (i * 4)).add 3) = some (.int .i64 k3) := fun i him => by
        obtain ⟨cs', h1, h2⟩ := hel i him
        obtain ⟨_, hlen, hcell⟩ := World.cells?_some h1
        obtain ⟨k0, k1, k2, k3, rfl⟩ := four_ints he hone hi h2
        exact ⟨k0, k1, k2, k3, hcell 0 (by omega), hcell 1 (by omega), hcell 2 (by omega), hcell 3 (by omega)⟩
      obtain ⟨_, _, _, _, h1, _⟩ := each 0 (by omega)
      have hs : a.spot = none := by simpa [Addr.add] using World.cell?_spot h1
      obtain ⟨b, o, s⟩ := a
      simp only at hs
      subst hs
      refine ⟨_, len, cap, fun i => ⟨intAt w ⟨b, o + i * 4, none⟩, intAt w ⟨b, o + i * 4 + 1, none⟩, intAt w ⟨b, o + i * 4 + 2, none⟩, intAt w ⟨b, o + i * 4 + 3, none⟩⟩, hcs, .inr ⟨b, o, rfl, World.block_lt_of_cell? w _ (by simpa [Addr.add] using h1), fun i hi' => ?_⟩, g1, hin⟩
      obtain ⟨k0, k1, k2, k3, c0, c1, c2, c3⟩ := each i (by omega)
      rw [add_none, add_none] at c0 c1 c2 c3
      simp only [Nat.add_zero] at c0
      simp only [intAt, c0, c1, c2, c3]
      exact ⟨trivial, trivial, trivial, trivial⟩
/-- a shaft, cell by cell -/
theorem sh_fit {t tr ti tI : TypeId} {f0 f1 f2 f3 f4 : Field} {fuel : Nat} {cs : List Value} {x : DataW H × List MemPlace}
    (ht : P.underlying t = some (.struct #[f0, f1, f2, f3, f4])) (hone : oneCellFields P #[f0, f1, f2, f3, f4] = true && (f0.type == tr && f1.type == ti && f2.type == tI && f3.type == tI && f4.type == tI) && P.cellsOf t == 5) (hi : P.underlying tI = some (.int .i64))
    (hR : ∀ (fuel : Nat) (cs : List Value) (x : DataW H × List MemPlace), Fit P tr x.1 → DataW.trod enc P w base sp held fuel tr cs = some x → ∃ A n c f, cs = [.slice A n c] ∧ RocksAt w A n f ∧ n * 32 ≤ 140737488351232 ∧ SliceIn A n c)
    (hF : ∀ (fuel : Nat) (cs : List Value) (x : DataW H × List MemPlace), Fit P ti x.1 → DataW.trod enc P w base sp held fuel ti cs = some x → ∃ A n c g, cs = [.slice A n c] ∧ IntsAt w A n g ∧ SliceIn A n c ∧ n * 8 ≤ 140737488351232)
    (hf : Fit P t x.1) (h : DataW.trod enc P w base sp held fuel t cs = some x) :
    ∃ (Ar Af : Option Addr) (cr cf : Nat) (S : Sh), cs = [.slice Ar S.nr cr, .slice Af S.nf cf, .int .i64 S.deep, .int .i64 S.haul, .int .i64 S.rest] ∧ ShAt w Ar Af S ∧ S.nr * 32 ≤ 140737488351232 ∧ S.nf * 8 ≤ 140737488351232 := by
  simp only [Bool.and_eq_true, beq_iff_eq, decide_eq_true_eq] at hone
  obtain ⟨⟨ho, ⟨⟨⟨e0, e1⟩, e2⟩, e3⟩, e4⟩, hC⟩ := hone
  obtain ⟨xs, n, _, hx, hlen, hxl, hg⟩ := DataW.trod_struct ht h
  obtain ⟨o0, k0⟩ := hone_of ho 0 f0 rfl
  obtain ⟨o1, k1⟩ := hone_of ho 1 f1 rfl
  obtain ⟨o2, k2⟩ := hone_of ho 2 f2 rfl
  obtain ⟨o3, k3⟩ := hone_of ho 3 f3 rfl
  obtain ⟨o4, k4⟩ := hone_of ho 4 f4 rfl
  match cs, hlen.trans hC, xs, hxl with
  | [c0, c1, c2, c3, c4], _, [y0, y1, y2, y3, y4], _ =>
    have g0 := hg 0 f0 rfl
    have g1 := hg 1 f1 rfl
    have g2 := hg 2 f2 rfl
    have g3 := hg 3 f3 rfl
    have g4 := hg 4 f4 rfl
    rw [o0, k0, e0] at g0
    rw [o1, k1, e1] at g1
    rw [o2, k2, e2] at g2
    rw [o3, k3, e3] at g3
    rw [o4, k4, e4] at g4
    simp only [List.drop_zero, List.take_succ_cons, List.take_zero, List.drop_succ_cons, List.getElem?_cons_zero, List.getElem?_cons_succ] at g0 g1 g2 g3 g4
    rw [hx] at hf
    have q0 := fit_part ht hf (j := 0) (f := f0) (d := y0.1) rfl rfl
    have q1 := fit_part ht hf (j := 1) (f := f1) (d := y1.1) rfl rfl
    rw [e0] at q0
    rw [e1] at q1
    obtain ⟨A, nr, cr, rock, h0, hr, hr2, _⟩ := hR _ _ _ q0 g0
    obtain ⟨B, nf, cf, foot, h1, hft, _, hf2⟩ := hF _ _ _ q1 g1
    obtain ⟨a, h2, _⟩ := DataW.trod_int hi g2
    obtain ⟨b, h3, _⟩ := DataW.trod_int hi g3
    obtain ⟨c, h4, _⟩ := DataW.trod_int hi g4
    injection h0 with h0
    injection h1 with h1
    injection h2 with h2
    injection h3 with h3
    injection h4 with h4
    subst h0 h1 h2 h3 h4
    exact ⟨A, B, cr, cf, ⟨nr, rock, nf, foot, a, b, c⟩, rfl, ⟨hr, hft⟩, hr2, hf2⟩
/-- a spot, cell by cell -/
theorem spot_fit {t ts tl tI : TypeId} {f0 f1 f2 : Field} {fuel : Nat} {cs : List Value} {x : DataW H × List MemPlace}
    (ht : P.underlying t = some (.struct #[f0, f1, f2])) (hone : (f0.offset == 0 && P.cellsOf f0.type == 1 && f0.type == tI && f1.offset == 1 && P.cellsOf f1.type == 5 && f1.type == ts && f2.offset == 6 && P.cellsOf f2.type == 1 && f2.type == tl && P.cellsOf t == 7) = true) (hi : P.underlying tI = some (.int .i64))
    (hS : ∀ (fuel : Nat) (cs : List Value) (x : DataW H × List MemPlace), Fit P ts x.1 → DataW.trod enc P w base sp held fuel ts cs = some x → ∃ (Ar Af : Option Addr) (cr cf : Nat) (S : Sh), cs = [.slice Ar S.nr cr, .slice Af S.nf cf, .int .i64 S.deep, .int .i64 S.haul, .int .i64 S.rest] ∧ ShAt w Ar Af S ∧ S.nr * 32 ≤ 140737488351232 ∧ S.nf * 8 ≤ 140737488351232)
    (hF : ∀ (fuel : Nat) (cs : List Value) (x : DataW H × List MemPlace), Fit P tl x.1 → DataW.trod enc P w base sp held fuel tl cs = some x → ∃ A c y, cs = [.slice A (Wd.n y) c] ∧ RowsAt w A y ∧ y.Fits ∧ SliceIn A y.n c)
    (hf : Fit P t x.1) (h : DataW.trod enc P w base sp held fuel t cs = some x) :
    ∃ (Ar Af Aw : Option Addr) (cr cf cw : Nat) (y : Spot), cs = [.int .i64 y.at_, .slice Ar y.sh.nr cr, .slice Af y.sh.nf cf, .int .i64 y.sh.deep, .int .i64 y.sh.haul, .int .i64 y.sh.rest, .slice Aw y.fl.n cw] ∧ ShAt w Ar Af y.sh ∧ RowsAt w Aw y.fl ∧ y.Fits := by
  simp only [Bool.and_eq_true, beq_iff_eq] at hone
  obtain ⟨⟨⟨⟨⟨⟨⟨⟨⟨o0, k0⟩, e0⟩, o1⟩, k1⟩, e1⟩, o2⟩, k2⟩, e2⟩, hC⟩ := hone
  obtain ⟨xs, n, _, hx, hlen, hxl, hg⟩ := DataW.trod_struct ht h
  match cs, hlen.trans hC, xs, hxl with
  | [c0, c1, c2, c3, c4, c5, c6], _, [y0, y1, y2], _ =>
    have g0 := hg 0 f0 rfl
    have g1 := hg 1 f1 rfl
    have g2 := hg 2 f2 rfl
    rw [o0, k0, e0] at g0
    rw [o1, k1, e1] at g1
    rw [o2, k2, e2] at g2
    simp only [List.drop_zero, List.take_succ_cons, List.take_zero, List.drop_succ_cons, List.getElem?_cons_zero, List.getElem?_cons_succ] at g0 g1 g2
    rw [hx] at hf
    have q1 := fit_part ht hf (j := 1) (f := f1) (d := y1.1) rfl rfl
    have q2 := fit_part ht hf (j := 2) (f := f2) (d := y2.1) rfl rfl
    rw [e1] at q1
    rw [e2] at q2
    obtain ⟨a, h0, _⟩ := DataW.trod_int hi g0
    obtain ⟨Ar, Af, cr, cf, S, h1, hs, hs1, hs2⟩ := hS _ _ _ q1 g1
    obtain ⟨A, c, y, h2, hr, hr2, _⟩ := hF _ _ _ q2 g2
    simp only [List.cons.injEq, and_true] at h0 h1 h2
    obtain ⟨rfl, rfl, rfl, rfl, rfl⟩ := h1
    subst h0 h2
    exact ⟨Ar, Af, A, cr, cf, c, ⟨a, S, y⟩, rfl, hs, hr, ⟨hs1, hs2, hr2⟩⟩
theorem spots_fit {t e : TypeId} {fuel : Nat} {cs : List Value} {x : DataW H × List MemPlace} (ht : P.underlying t = some (.slice e)) (hC : P.cellsOf e = 7) (hbe : P.bytesOf e = 104)
    (hS : ∀ (fuel : Nat) (cs : List Value) (x : DataW H × List MemPlace), Fit P e x.1 → DataW.trod enc P w base sp held fuel e cs = some x → ∃ (Ar Af Aw : Option Addr) (cr cf cw : Nat) (y : Spot), cs = [.int .i64 y.at_, .slice Ar y.sh.nr cr, .slice Af y.sh.nf cf, .int .i64 y.sh.deep, .int .i64 y.sh.haul, .int .i64 y.sh.rest, .slice Aw y.fl.n cw] ∧ ShAt w Ar Af y.sh ∧ RowsAt w Aw y.fl ∧ y.Fits)
    (hf : Fit P t x.1) (h : DataW.trod enc P w base sp held fuel t cs = some x) : ∃ A n c f, cs = [.slice A n c] ∧ SpotsAt w A n f ∧ (∀ i, i < n → (f i).Fits) ∧ n * 104 ≤ 140737488351232 ∧ SliceIn A n c := by
  haveI : Inhabited Spot := ⟨⟨0, ⟨0, fun _ => default, 0, fun _ => 0, 0, 0, 0⟩, ⟨0, fun _ => 0, fun _ _ => 0⟩⟩⟩
  rcases open_slice ht h with ⟨h0, _⟩ | ⟨a, len, cap, m, n, D, Pl, hcs, hb, hl, hm, hmm, hx, hel⟩
  · exact ⟨none, 0, 0, fun _ => default, h0, .inl rfl, (fun i hi => absurd hi (Nat.not_lt_zero _)), by decide, Nat.le_refl _, by omega, fun _ => ⟨rfl, rfl⟩⟩
  · have hlm : len ≤ m := by rw [hmm]; split <;> omega
    have hin : SliceIn (some a) len cap := ⟨hl, by unfold maxLen at hm; exact hm, fun h => by cases h⟩
    have hf' : Fit P t (.slice ((List.range len).map D) ((List.range (m - len)).map fun j => D (len + j))) := by rw [hx] at hf; exact hf
    obtain ⟨g1, g2⟩ := fit_slice ht hf'
    rw [hbe] at g1
    rw [hC] at hel
    rcases Nat.eq_zero_or_pos len with h0 | h0
    · subst h0; exact ⟨_, 0, cap, fun _ => default, hcs, .inl rfl, (fun i hi => absurd hi (Nat.not_lt_zero _)), by decide, hin⟩
    · have each : ∀ i, i < len → ∃ (y : Spot), (∃ (Ar Af Aw : Option Addr) (cr cf cw : Nat), ShAt w Ar Af y.sh ∧ RowsAt w Aw y.fl ∧ w.cell? ((a.add (i * 7)).add 0) = some (.int .i64 y.at_) ∧ w.cell? ((a.add (i * 7)).add 1) = some (.slice Ar y.sh.nr cr) ∧ w.cell? ((a.add (i * 7)).add 2) = some (.slice Af y.sh.nf cf) ∧ w.cell? ((a.add (i * 7)).add 3) = some (.int .i64 y.sh.deep) ∧ w.cell? ((a.add (i * 7)).add 4) = some (.int .i64 y.sh.haul) ∧ w.cell? ((a.add (i * 7)).add 5) = some (.int .i64 y.sh.rest) ∧ w.cell? ((a.add (i * 7)).add 6) = some (.slice Aw y.fl.n cw)) ∧ y.Fits := fun i him => by
        obtain ⟨cs', h1, h2⟩ := hel i (by omega)
        obtain ⟨_, hlen, hcell⟩ := World.cells?_some h1
        obtain ⟨Ar, Af, Aw, cr, cf, cw, y, rfl, hs, hr, hy⟩ := hS _ _ _ (g2 i him) h2
        exact ⟨y, ⟨Ar, Af, Aw, cr, cf, cw, hs, hr, hcell 0 (by omega), hcell 1 (by omega), hcell 2 (by omega), hcell 3 (by omega), hcell 4 (by omega), hcell 5 (by omega), hcell 6 (by omega)⟩, hy⟩
      obtain ⟨_, ⟨_, _, _, _, _, _, _, _, h1, _⟩, _⟩ := each 0 h0
      have hs : a.spot = none := by simpa [Addr.add] using World.cell?_spot h1
      obtain ⟨b, o, s⟩ := a
      simp only at hs
      subst hs
      obtain ⟨G, hG⟩ := choose_lt each
      refine ⟨_, len, cap, G, hcs, .inr ⟨b, o, rfl, World.block_lt_of_cell? w _ (by simpa [Addr.add] using h1), fun i hi' => ?_⟩, fun i hi' => (hG i hi').2, g1, hin⟩
      obtain ⟨⟨Ar, Af, Aw, cr, cf, cw, hs, hr, c0, c1, c2, c3, c4, c5, c6⟩, _⟩ := hG i hi'
      rw [add_none, add_none] at c0 c1 c2 c3 c4 c5 c6
      exact ⟨Ar, Af, Aw, cr, cf, cw, hs, hr, c0, c1, c2, c3, c4, c5, c6⟩
/-- a town, cell by cell -/
theorem qtown_fit {t ts tl tI : TypeId} {f0 f1 f2 : Field} {fuel : Nat} {cs : List Value} {x : DataW H × List MemPlace}
    (ht : P.underlying t = some (.struct #[f0, f1, f2])) (hone : oneCellFields P #[f0, f1, f2] = true && (f0.type == tI && f1.type == ts && f2.type == tl) && P.cellsOf t == 3) (hi : P.underlying tI = some (.int .i64))
    (hR : ∀ (fuel : Nat) (cs : List Value) (x : DataW H × List MemPlace), Fit P ts x.1 → DataW.trod enc P w base sp held fuel ts cs = some x → ∃ A n c f, cs = [.slice A n c] ∧ WorldsAt w A n f ∧ (∀ i, i < n → (f i).Fits) ∧ n * 24 ≤ 140737488351232 ∧ SliceIn A n c)
    (hF : ∀ (fuel : Nat) (cs : List Value) (x : DataW H × List MemPlace), Fit P tl x.1 → DataW.trod enc P w base sp held fuel tl cs = some x → ∃ A n c f, cs = [.slice A n c] ∧ FactsAt w A n f ∧ n * 40 ≤ 140737488351232 ∧ SliceIn A n c)
    (hf : Fit P t x.1) (h : DataW.trod enc P w base sp held fuel t cs = some x) :
    ∃ (Aw Af : Option Addr) (cw cf : Nat) (q : Qt), cs = [.int .i64 q.wells, .slice Aw q.nw cw, .slice Af q.nf cf] ∧ QAt w Aw Af q ∧ q.Fits := by
  simp only [Bool.and_eq_true, beq_iff_eq, decide_eq_true_eq] at hone
  obtain ⟨⟨ho, ⟨e0, e1⟩, e2⟩, hC⟩ := hone
  obtain ⟨xs, n, _, hx, hlen, hxl, hg⟩ := DataW.trod_struct ht h
  obtain ⟨o0, k0⟩ := hone_of ho 0 f0 rfl
  obtain ⟨o1, k1⟩ := hone_of ho 1 f1 rfl
  obtain ⟨o2, k2⟩ := hone_of ho 2 f2 rfl
  match cs, hlen.trans hC, xs, hxl with
  | [c0, c1, c2], _, [y0, y1, y2], _ =>
    have g0 := hg 0 f0 rfl
    have g1 := hg 1 f1 rfl
    have g2 := hg 2 f2 rfl
    rw [o0, k0, e0] at g0
    rw [o1, k1, e1] at g1
    rw [o2, k2, e2] at g2
    simp only [List.drop_zero, List.take_succ_cons, List.take_zero, List.drop_succ_cons, List.getElem?_cons_zero, List.getElem?_cons_succ] at g0 g1 g2
    rw [hx] at hf
    have q1 := fit_part ht hf (j := 1) (f := f1) (d := y1.1) rfl rfl
    have q2 := fit_part ht hf (j := 2) (f := f2) (d := y2.1) rfl rfl
    rw [e1] at q1
    rw [e2] at q2
    obtain ⟨a, h0, _⟩ := DataW.trod_int hi g0
    obtain ⟨A, nw, kw, fw, h1, hs, hs2, hs3, _⟩ := hR _ _ _ q1 g1
    obtain ⟨B, nf, kf, ff, h2, hl, hl2, _⟩ := hF _ _ _ q2 g2
    injection h0 with h0
    injection h1 with h1
    injection h2 with h2
    subst h0 h1 h2
    exact ⟨A, B, kw, kf, ⟨a, nw, fw, nf, ff⟩, rfl, ⟨hs, hl⟩, ⟨hs3, hl2, hs2⟩⟩
theorem place_in' {v : Value} {d : DataW H} {p : List MemPlace} {t tq tn ts tI : TypeId} {f0 f1 f2 f3 f4 f5 f6 : Field}
    (ht : P.underlying t = some (.struct #[f0, f1, f2, f3, f4, f5, f6])) (hone : (f0.offset == 0 && P.cellsOf f0.type == 3 && f0.type == tq && f1.offset == 3 && P.cellsOf f1.type == 1 && f1.type == tn && f2.offset == 4 && P.cellsOf f2.type == 1 && f2.type == tn && f3.offset == 5 && P.cellsOf f3.type == 1 && f3.type == ts && f4.offset == 6 && P.cellsOf f4.type == 1 && f4.type == tI && f5.offset == 7 && P.cellsOf f5.type == 1 && f5.type == tI && f6.offset == 8 && P.cellsOf f6.type == 1 && f6.type == tI && P.cellsOf t == 9) = true) (hi : P.underlying tI = some (.int .i64))
    (hQ : ∀ (fuel : Nat) (cs : List Value) (x : DataW H × List MemPlace), Fit P tq x.1 → DataW.trod enc P w base sp held fuel tq cs = some x → ∃ (Aw Af : Option Addr) (cw cf : Nat) (q : Qt), cs = [.int .i64 q.wells, .slice Aw q.nw cw, .slice Af q.nf cf] ∧ QAt w Aw Af q ∧ q.Fits)
    (hI : ∀ (fuel : Nat) (cs : List Value) (x : DataW H × List MemPlace), Fit P tn x.1 → DataW.trod enc P w base sp held fuel tn cs = some x → ∃ A n c g, cs = [.slice A n c] ∧ IntsAt w A n g ∧ SliceIn A n c ∧ n * 8 ≤ 140737488351232)
    (hS : ∀ (fuel : Nat) (cs : List Value) (x : DataW H × List MemPlace), Fit P ts x.1 → DataW.trod enc P w base sp held fuel ts cs = some x → ∃ A n c f, cs = [.slice A n c] ∧ SpotsAt w A n f ∧ (∀ i, i < n → (f i).Fits) ∧ n * 104 ≤ 140737488351232 ∧ SliceIn A n c)
    (hv : Value.okWide P w r b0 t v) (hf : Fit P t d) (h : DataW.Trod enc P w base sp held t v d p) :
    ∃ (Aw Af Ao Ap As : Option Addr) (cw cf co cp cs : Nat) (t : Pt), v = .agg #[.int .i64 t.q.wells, .slice Aw t.q.nw cw, .slice Af t.q.nf cf, .slice Ao t.no co, .slice Ap t.np cp, .slice As t.ns cs, .int .i64 t.far, .int .i64 t.harm, .int .i64 t.many] ∧ PAt w Aw Af Ao Ap As t ∧ t.Fits := by
  simp only [Bool.and_eq_true, beq_iff_eq] at hone
  obtain ⟨⟨⟨⟨⟨⟨⟨⟨⟨⟨⟨⟨⟨⟨⟨⟨⟨⟨⟨⟨⟨o0, k0⟩, e0⟩, o1⟩, k1⟩, e1⟩, o2⟩, k2⟩, e2⟩, o3⟩, k3⟩, e3⟩, o4⟩, k4⟩, e4⟩, o5⟩, k5⟩, e5⟩, o6⟩, k6⟩, e6⟩, hC⟩ := hone
  obtain ⟨cs, rfl, hsz⟩ := okWide_struct ht hv
  obtain ⟨l⟩ := cs
  obtain ⟨fuel, hf'⟩ := h
  obtain ⟨xs, n, _, hx, hlen, hxl, hg⟩ := DataW.trod_struct ht hf'
  match l, hsz.trans hC, xs, hxl with
  | [c0, c1, c2, c3, c4, c5, c6, c7, c8], _, [y0, y1, y2, y3, y4, y5, y6], _ =>
    have g0 := hg 0 f0 rfl
    have g1 := hg 1 f1 rfl
    have g2 := hg 2 f2 rfl
    have g3 := hg 3 f3 rfl
    have g4 := hg 4 f4 rfl
    have g5 := hg 5 f5 rfl
    have g6 := hg 6 f6 rfl
    rw [o0, k0, e0] at g0
    rw [o1, k1, e1] at g1
    rw [o2, k2, e2] at g2
    rw [o3, k3, e3] at g3
    rw [o4, k4, e4] at g4
    rw [o5, k5, e5] at g5
    rw [o6, k6, e6] at g6
    simp only [Value.cells, List.drop_zero, List.take_succ_cons, List.take_zero, List.drop_succ_cons, List.getElem?_cons_zero, List.getElem?_cons_succ] at g0 g1 g2 g3 g4 g5 g6
    have hd : d = .agg [y0.1, y1.1, y2.1, y3.1, y4.1, y5.1, y6.1] := congrArg Prod.fst hx
    rw [hd] at hf
    have q0 := fit_part ht hf (j := 0) (f := f0) (d := y0.1) rfl rfl
    have q1 := fit_part ht hf (j := 1) (f := f1) (d := y1.1) rfl rfl
    have q2 := fit_part ht hf (j := 2) (f := f2) (d := y2.1) rfl rfl
    have q3 := fit_part ht hf (j := 3) (f := f3) (d := y3.1) rfl rfl
    rw [e0] at q0
    rw [e1] at q1
    rw [e2] at q2
    rw [e3] at q3
    obtain ⟨Aw, Af, cw, cf, q, h0, hq, hq2⟩ := hQ _ _ _ q0 g0
    obtain ⟨Ao, no, co, old, h1, ho, _, ho2⟩ := hI _ _ _ q1 g1
    obtain ⟨Ap, np, cp, pence, h2, hp, _, hp2⟩ := hI _ _ _ q2 g2
    obtain ⟨As, ns, cs, spot, h3, hs, hs2, hs3, _⟩ := hS _ _ _ q3 g3
    obtain ⟨a, h4, _⟩ := DataW.trod_int hi g4
    obtain ⟨b, h5, _⟩ := DataW.trod_int hi g5
    obtain ⟨c, h6, _⟩ := DataW.trod_int hi g6
    simp only [List.cons.injEq, and_true] at h0 h1 h2 h3 h4 h5 h6
    obtain ⟨rfl, rfl, rfl⟩ := h0
    subst h1 h2 h3 h4 h5 h6
    exact ⟨Aw, Af, Ao, Ap, As, cw, cf, co, cp, cs, ⟨q, no, old, np, pence, ns, spot, a, b, c⟩, rfl, ⟨hq, ho, hp, hs⟩, ⟨hq2, ho2, hp2, hs3, hs2⟩⟩
end
section
variable {H : Type} {enc : TypeId × Value → H} {W : World} {base b0 : Nat} {r : Reach} {sp : Nat → Bool} {held : Bool}
set_option maxRecDepth 100000 in
theorem spotP_fit {fuel : Nat} {cs : List Value} {x : DataW H × List MemPlace} (hf : Fit Tryz.prog 71 x.1) (h : DataW.trod enc Tryz.prog W base sp held fuel 71 cs = some x) :
    ∃ (Ar Af Aw : Option Addr) (cr cf cw : Nat) (y : Spot), cs = [.int .i64 y.at_, .slice Ar y.sh.nr cr, .slice Af y.sh.nf cf, .int .i64 y.sh.deep, .int .i64 y.sh.haul, .int .i64 y.sh.rest, .slice Aw y.fl.n cw] ∧ ShAt W Ar Af y.sh ∧ RowsAt W Aw y.fl ∧ y.Fits :=
  spot_fit Tryz.underlying71 (by kernel_rfl) Tryz.underlying3 (fun _ _ _ hf h => sh_fit Tryz.underlying68 (by kernel_rfl) Tryz.underlying3 (fun _ _ _ hf h => rocks_fit Tryz.underlying66 Tryz.underlying190 (by kernel_rfl) Tryz.underlying3 (by kernel_rfl) hf h) (fun _ _ _ hf h => ints_fit Tryz.underlying34 Tryz.underlying3 (by kernel_rfl) (by kernel_rfl) hf h) hf h) (fun _ _ _ hf h => rows_fit Tryz.underlying69 Tryz.underlying34 Tryz.underlying3 (by kernel_rfl) hf h) hf h
set_option maxRecDepth 100000 in
theorem place_in {v : Value} {d : DataW H} {p : List MemPlace} (hv : Value.okWide Tryz.prog W r b0 62 v) (hf : Fit Tryz.prog 62 d) (h : DataW.Trod enc Tryz.prog W base sp held 62 v d p) :
    ∃ (Aw Af Ao Ap As : Option Addr) (cw cf co cp cs : Nat) (t : Pt), v = .agg #[.int .i64 t.q.wells, .slice Aw t.q.nw cw, .slice Af t.q.nf cf, .slice Ao t.no co, .slice Ap t.np cp, .slice As t.ns cs, .int .i64 t.far, .int .i64 t.harm, .int .i64 t.many] ∧ PAt W Aw Af Ao Ap As t ∧ t.Fits :=
  place_in' Tryz.underlying62 (by kernel_rfl) Tryz.underlying3 (fun _ _ _ hf h => qtown_fit Tryz.underlying25 (by kernel_rfl) Tryz.underlying3 (fun _ _ _ hf h => worlds_fit Tryz.underlying22 Tryz.underlying101 Tryz.underlying69 Tryz.underlying34 Tryz.underlying3 (by kernel_rfl) hf h) (fun _ _ _ hf h => facts_fit Tryz.underlying23 Tryz.underlying27 (by kernel_rfl) Tryz.underlying3 (by kernel_rfl) hf h) hf h)
    (fun _ _ _ hf h => ints_fit Tryz.underlying34 Tryz.underlying3 (by kernel_rfl) (by kernel_rfl) hf h) (fun _ _ _ hf h => spots_fit Tryz.underlying60 (by kernel_rfl) (by kernel_rfl) (fun _ _ _ hf h => spotP_fit hf h) hf h) hv hf h
end
theorem gNone : Tryz.prog.globalNamed "steening/shafts.none" = some 0 := by kernel_rfl
theorem tNone : (Tryz.prog.globals[0]?).map (·.type) = some 198 := by kernel_rfl
theorem laid_both {W : World} (h : laidMetH Tryz.prog [("math/bits.deBruijn32tab", Rows.laid_math_bits_deBruijn32tab), ("math/bits.deBruijn64tab", Rows.laid_math_bits_deBruijn64tab), ("steening/shafts.none", Rows.laid_steening_shafts_none)] W) : TabAt W ∧ NoneAt W := by
  rw [MakeChecks.laidMetH_plain _ _ _ (by kernel_rfl)] at h
  obtain ⟨ps, ⟨g0, t0, cs0, f0, p0, q0, _, _, _, _, ⟨g1, t1, cs1, f1, p1, q1, hg1, ht1, hv1, hd1, ⟨g2, t2, cs2, f2, p2, q2, hg2, ht2, hv2, hd2, _⟩, _⟩, _⟩, _, _⟩ := h
  obtain rfl := Option.some.inj (gTab.symm.trans hg1)
  obtain rfl := Option.some.inj (tTab.symm.trans ht1)
  obtain rfl := Option.some.inj (gNone.symm.trans hg2)
  obtain rfl := Option.some.inj (tNone.symm.trans ht2)
  have hc : ∀ i, W.cell? ⟨2, i, none⟩ = cs1[i]? := fun i => World.var?_cell gTab hv1 i
  have key : ∀ (j : Nat) (v : Int), j < 64 → (match (Rows.laid_math_bits_deBruijn64tab : DataW Unit) with | .agg ds => ds[j]? | _ => none) = some (.lit (.int .u8 v)) → W.cell? ⟨2, j, none⟩ = some (.int .u8 v) := fun j v hj hd => by
    rw [hc j, ← Array.getElem?_toList]
    exact bytes_in Tryz.underlying259 Tryz.underlying5 (by kernel_rfl) hd1 rfl hj hd
  obtain ⟨a, b, c, e, hx⟩ := three_ints Tryz.underlying198 (by kernel_rfl) Tryz.underlying3 hd2
  have hx1 := congrArg Prod.fst hx
  unfold Rows.laid_steening_shafts_none at hx1
  simp only [DataW.agg.injEq, List.cons.injEq, DataW.lit.injEq, Lit.int.injEq, true_and, and_true] at hx1
  obtain ⟨rfl, rfl, rfl⟩ := hx1
  have hc2 : ∀ i, W.cell? ⟨0, i, none⟩ = cs2[i]? := fun i => World.var?_cell gNone hv2 i
  have hl : cs2 = #[.int .i64 (-1), .int .i64 0, .int .i64 0] := by
    cases cs2
    simp only at e
    rw [e]
  rw [hl] at hc2
  refine ⟨⟨World.block_lt_of_cell? W ⟨2, 0, none⟩ (key 0 0 (by decide) rfl), fun j hj => ?_⟩, ⟨World.block_lt_of_cell? W ⟨0, 0, none⟩ (hc2 0), hc2 0, hc2 1, hc2 2⟩⟩
  match j, hj with
  | 0, _ => exact key 0 0 (by decide) rfl
  | 1, _ => exact key 1 1 (by decide) rfl
  | 2, _ => exact key 3 2 (by decide) rfl
  | 3, _ => exact key 7 3 (by decide) rfl
  | 4, _ => exact key 15 4 (by decide) rfl
  | 5, _ => exact key 31 5 (by decide) rfl
theorem door_metP (os : Os) (args : Array Value) : laidMetH Tryz.prog [("math/bits.deBruijn32tab", Rows.laid_math_bits_deBruijn32tab), ("math/bits.deBruijn64tab", Rows.laid_math_bits_deBruijn64tab), ("steening/shafts.none", Rows.laid_steening_shafts_none)] ((World.doorLaid Tryz.prog 400 os).forCall (fun _ _ => 0) ⟨#[], args, []⟩).memory :=
  laidMetH_of_parts3 (fuel := 8) (laidMet_of_run' 8 (by kernel_rfl) (by kernel_rfl)) (by kernel_rfl) (by kernel_rfl)
end Go.Proofs.YthnojgdckkdcgaaGreatDoor

namespace Go.Proofs.YthnojgdckkdcgaaGreatDoor
open Go.RowKit
theorem bandP {a b : Bool} (h : a = true) (k : b = true) : (a && b) = true := by rw [h, k]; rfl
theorem mayP : Tryz.pinned.checked.prog.mayEnter = true := by kernel_rfl
theorem liftsP : (false == Tryz.pinned.checked.prog.liftsFinal) = true := by kernel_rfl
theorem makeP : (Tryz.pinned.checked.prog.make == some .cut) = true := by kernel_rfl
theorem mainP : Tryz.pinned.checked.prog.mainIs = some (true, "be4817d901a3592be5ffe04929981df5e9fc1cead1a3ca6f8071c08015b421ea".toList) := by kernel_rfl
theorem looksP : false = Tryz.pinned.checked.prog.looks [] := by kernel_rfl
end Go.Proofs.YthnojgdckkdcgaaGreatDoor

namespace Go.Proofs.YthnojgdckkdcgaaGreatDoor
open Go.RowKit Go.Sort
/-- 'append([]T{}, xs...)' at a step of a region: the copy is the call's own, an empty one too -/
theorem stir_copy3 {P : Program} {o : Oper} {a : Act} (w : World) (s x : Operand) (t : TypeId) (hop : o.op = Op.call { callee := Callee.builtin Builtin.append, args := #[s, x], argTypes := #[t, t] })
    (e : TypeId) (z : Value) (size bytes : Nat) (hinfo : (P.info? e).map (fun i => (i.zero, i.size, i.bytes)) = some (some z, size, bytes)) (ht : P.underlying t = some (.slice e)) (hzs : z.cells.size = size) (hsz : 0 < size)
    (ad : Nat) (A : Option Addr) (m c : Nat) (L : List Value) (hs : a.eval s = .slice (some ⟨ad, 0, none⟩) 0 0) (hx : a.eval x = .slice A m c) (hl : L.length = m * size) (hr : RowAt w A L) (h63 : m ≤ maxLen) (hby : m * bytes ≤ 140737488355328) (N : Nat) (hN : N ≤ w.heap.size) (ho : w.ownsRow N e size (.slice (some ⟨ad, 0, none⟩) 0 0) 0 []) :
    Oper.stirAt P o a w Newer (fun w' v => ShapeOf m v ∧ w'.ownsRow N e size v m L) := by
  obtain ⟨i0, hi, iz0, iz1, iz2⟩ := info_parts hinfo
  have hbytes : (0 + m) * bytes ≤ 140737488355328 := by rw [Nat.zero_add]; exact hby
  rcases Nat.eq_zero_or_pos m with h0 | h0
  · subst h0
    obtain rfl : L = [] := List.eq_nil_of_length_eq_zero (by simpa using hl)
    have hrun : (Builtin.append_ #[t, t] o.type #[.slice (some ⟨ad, 0, none⟩) 0 0, .slice A 0 c]).run P w = .ok (.slice (some ⟨ad, 0, none⟩) 0 0) w := by
      cases A with
      | none => simp [Builtin.append_, run_underlying ht, sizeOf, typeInfo, hi, Builtin.lenOf, Builtin.firstCells, storeCells]
      | some a =>
        have hfc := run_firstCells_some (P := P) w i0.size 0 a 0 c [] (by simp) (fun j u h => by simp at h)
        simp [Builtin.append_, run_underlying ht, sizeOf, typeInfo, hi, Builtin.lenOf, hfc, storeCells]
    unfold Oper.stirAt
    simp only [execOp, hop, resolve, invoke, builtin, List.map_toArray, List.map_cons, List.map_nil, hs, hx, hrun, Result.andThen, Sem.run_bind, Sem.run_pure, Oper.stirUpon]
    exact ⟨Below.refl _ _, ⟨_, _, rfl⟩, ho⟩
  · rcases hr with hr | ⟨b, o', rfl, hlt, hc⟩
    · rw [hr] at hl
      have := Nat.mul_pos h0 hsz
      simp only [List.length_nil] at hl
      omega
    · obtain ⟨v', w', hrun, hown, hg⟩ := run_append_arg_grows (P := P) w t o.type e i0 z size bytes ht hi iz0 iz1 iz2 hzs hsz ⟨ad, 0, none⟩ 0 0 [] (by simp) (fun j u h => by simp at h) ⟨b, o', none⟩ m c L hl (fun j u h => by
        rw [show (⟨b, o', none⟩ : Addr).add j = ⟨b, o' + j, none⟩ from by unfold Addr.add; split <;> simp_all]; exact hc j u h) (by omega) (by omega) hbytes
      simp only [List.nil_append, Nat.zero_add] at hown
      obtain ⟨g, cap, rfl⟩ := owns_form hown h0
      unfold Oper.stirAt
      simp only [execOp, hop, resolve, invoke, builtin, List.map_toArray, List.map_cons, List.map_nil, hs, hx, hrun, Result.andThen, Sem.run_bind, Sem.run_pure, Oper.stirUpon]
      exact ⟨below_grown hg, ⟨_, _, rfl⟩, owns_lower hown hN⟩
def ownsV (N : Nat) (e : TypeId) (size m : Nat) (L : List Value) (w : World) (v : Value) : Prop := w.ownsRow N e size v m L
theorem ownsG {N : Nat} {e : TypeId} {size m : Nat} {L : List Value} : (Stir.held (ShapeOf m) (ownsV N e size m L)).good := ⟨⟨_, 0, 0, rfl⟩, fun _ _ _ hb h => owns_below h hb⟩
/-- a town's value in the midst of Copy -/
def twnS (m : Int) (n : Nat) (v : Value) : Prop := ∃ g c, v = .agg #[.int .i64 m, .slice none 0 0, .slice (some ⟨g, 0, none⟩) n c]
def twnR (N : Nat) (m : Int) (n : Nat) (L : List Value) (w : World) (v : Value) : Prop := ∀ g c, v = .agg #[.int .i64 m, .slice none 0 0, .slice (some ⟨g, 0, none⟩) n c] → w.ownsRow N 27 5 (.slice (some ⟨g, 0, none⟩) n c) n L
theorem twnG {N : Nat} {m : Int} {n : Nat} {L : List Value} : (Stir.held (twnS m n) (twnR N m n L)).good := ⟨⟨_, 0, 0, rfl⟩, fun _ _ _ hb h g c e => owns_below (h g c e) hb⟩
/-- a new box -/
def boxS (v : Value) : Prop := ∃ b, v = .pointer (some ⟨b, 0, none⟩)
def boxR (N : Nat) (t : TypeId) (cs : Array Value) (w : World) (v : Value) : Prop := ∀ b, v = .pointer (some ⟨b, 0, none⟩) → N ≤ b ∧ TBox w b t cs
theorem boxG {N : Nat} {t : TypeId} {cs : Array Value} : (Stir.held boxS (boxR N t cs)).good := ⟨⟨_, 0, rfl⟩, fun _ _ _ hb h b e => ⟨(h b e).1, (h b e).2.mono hb⟩⟩
/-- a copied world -/
def wdS (n : Nat) (v : Value) : Prop := ∃ A c, v = .agg #[.slice A n c]
def wdR (x : Wd) (w : World) (v : Value) : Prop := ∀ u, v = .agg #[u] → WdK w u x
theorem wdG {x : Wd} : (Stir.held (wdS x.n) (wdR x)).good := ⟨⟨_, none, 0, rfl⟩, fun _ _ _ hb h u e => (h u e).mono hb⟩
def wdIn (x : Wd) (w : World) (v : Value) : Prop := ∀ b, v = .slice (some ⟨b, 0, none⟩) 1 1 → ∃ u, w.cell? ⟨b, 0, none⟩ = some u ∧ WdK w u x
theorem wdInG {x : Wd} : (Stir.held one1 (wdIn x)).good := ⟨⟨_, 0, rfl⟩, fun _ _ _ hb h b e => by
  obtain ⟨u, h1, h2⟩ := h b e
  exact ⟨u, (hb.cell (World.block_lt_of_cell? _ _ h1)).trans h1, h2.mono hb⟩⟩
theorem WdK.one {w : World} {u : Value} {x : Wd} (h : WdK w u x) : u.oneCell' = true := by
  obtain ⟨A, c, vs, rfl, _⟩ := h
  rfl
theorem infoFact : (Tryz.prog.info? 27).map (fun i => (i.zero, i.size, i.bytes)) = some (some (.agg #[.int .i64 0, .int .i64 0, .int .i64 0, .int .i64 0, .int .i64 0]), 5, 40) := by kernel_rfl
theorem infoWorld : (Tryz.prog.info? 101).map (fun i => (i.zero, i.size, i.bytes)) = some (some (.agg #[.slice none 0 0]), 1, 24) := by kernel_rfl
theorem owns_setT {w : World} {base : Nat} {e t : TypeId} {size n : Nat} {v : Value} {xs : List Value} (h : w.ownsRow base e size v n xs) {b : Nat} {cs : Array Value} (hb : TBox w b t cs) (ht : t ≠ e) (o : Nat) (u : Value) : (w.setCell ⟨b, o, none⟩ u).ownsRow base e size v n xs :=
  ⟨h.1, h.2.imp id fun ⟨g, cap, cur, h1, h2, h3, h4⟩ => ⟨g, cap, cur, h1, h2, (Below.heap_setCell w ⟨b, o, none⟩ u g (fun e' => by
    have e'' : g = b := e'
    subst e''
    rw [show w.heap[g]? = some (Obj.cells cs t (0, 0)) from hb] at h3
    injection h3 with h3
    injection h3 with _ h3 _
    exact ht h3)).trans h3, h4⟩⟩
def CopyOut (w : World) (base : Nat) (t : Qt) (e : Ending) : Prop := ∃ vW vF, e = .returned (.agg #[.int .i64 t.wells, vW, vF]) ∧ CopyAt w base vW vF t
set_option maxHeartbeats 4000000 in
set_option maxRecDepth 100000 in
theorem copy5_any (Aw Af : Option Addr) (cw cf : Nat) (t : Qt) (w : World) (hf : t.Fits) (hT : QAt w Aw Af t) :
    Calls Tryz.prog 51 #[.agg #[.int .i64 t.wells, .slice Aw t.nw cw, .slice Af t.nf cf]] w fun e w' => CopyOut w' w.heap.size t e ∧ Below w.heap.size w w' := by
  have hb2 := bAlloc (bAlloc (Below.refl w.heap.size w) (.cells #[.int .i64 t.wells, .slice Aw t.nw cw, .slice Af t.nf cf] 25)) (.cells #[.int .i64 0, .slice none 0 0, .slice none 0 0] 25)
  have HT := Lib.hid (hT.mono hb2)
  have HB := Lib.hid hb2
  have HF := Lib.hid hf
  have HFR := Lib.hid (factsAt_iff (hT.mono hb2).facts)
  have hn63 : t.nw ≤ 9223372036854775807 := by have := hf.1; omega
  have HTR := Lib.hid (TBox.new (w.alloc (.cells #[.int .i64 t.wells, .slice Aw t.nw cw, .slice Af t.nf cf] 25)) #[.int .i64 0, .slice none 0 0, .slice none 0 0] 25)
  clear hT hb2 hf
  go_enter Tryz.func51, Tryz.ntmps51
  go_wp2_with fail
  refine wp_region_stir 8 [.const (.pointer (some ⟨w.heap.size, 0, none⟩)), .const (.int .i64 t.wells), .held emptyV (ownsV (w.heap.size + 2) 27 5 0 []), .const (.pointer (some ⟨w.heap.size, 2, none⟩)), .const (.slice Af t.nf cf), .held (ShapeOf t.nf) (ownsV (w.heap.size + 2) 27 5 t.nf (factL t.fact t.nf)), .held (twnS t.wells t.nf) (twnR (w.heap.size + 2) t.wells t.nf (factL t.fact t.nf)), .held boxS (boxR (w.heap.size + 2) 25 #[.int .i64 0, .slice none 0 0, .slice none 0 0])]
    (by kernel_rfl) (by kernel_rfl) rfl ⟨trivial, trivial, ⟨⟨_, 0, rfl⟩, fun _ _ _ hb h => owns_below h hb⟩, trivial, trivial, ownsG, twnG, boxG, trivial⟩ (crossAll_no _ _ _ _ trivial) ?_
  iterate 2 refine wpStir_const (by go_simp) ?_
  refine wpStir_held rfl (fun w' hb hd => ?_) (fun v hv => ?_)
  · clear hd
    have hz := hb.size
    simp only [World.size_alloc] at hz
    have hl := World.ownsRow_lit (base := w.heap.size + 2) (e := 27) (size := 5) w' #[] 0 (by omega) (by decide) rfl
    go_simp
    exact ⟨bAlloc (Below.refl _ _) _, ⟨_, rfl⟩, hl⟩
  obtain ⟨b1, rfl⟩ := hv
  iterate 2 refine wpStir_const (by go_simp) ?_
  simp only [Act.put, List.setIfInBounds_toArray, List.set_cons_succ, List.set_cons_zero]
  refine wpStir_held rfl (fun w' hb hd => ?_) (fun v hv => ?_)
  · have h1 : ownsV (w.heap.size + 2) 27 5 0 [] w' (.slice (some ⟨b1, 0, none⟩) 0 0) := hd.1 (by kernel_rfl)
    clear hd
    have hz := hb.size
    simp only [World.size_alloc] at hz
    exact stir_copy3 w' (Operand.tmp 7) (Operand.tmp 9) 23 rfl 27 (.agg #[.int .i64 0, .int .i64 0, .int .i64 0, .int .i64 0, .int .i64 0]) 5 40 infoFact Tryz.underlying23 rfl (by decide) b1 Af t.nf cf (factL t.fact t.nf) rfl rfl (factL_len _ _) (HFR.out.mono hb) (by unfold maxLen; have := HF.out.2.1; omega) (by have := HF.out.2.1; omega) _ (by omega) h1
  obtain ⟨b2, c2, rfl⟩ := hv
  refine wpStir_held rfl (fun w' hb hd => ?_) (fun v hv => ?_)
  · have h1 : ownsV (w.heap.size + 2) 27 5 t.nf (factL t.fact t.nf) w' (.slice (some ⟨b2, 0, none⟩) t.nf c2) := hd.1 (by kernel_rfl)
    clear hd
    go_simp
    refine ⟨⟨_, _, rfl⟩, fun g c e => ?_⟩
    simp only [Value.agg.injEq, Array.mk.injEq, List.cons.injEq, Value.slice.injEq, Option.some.injEq, Addr.mk.injEq, and_true, true_and] at e
    obtain ⟨rfl, rfl⟩ := e
    exact h1
  obtain ⟨b3, c3, rfl⟩ := hv
  refine wpStir_held rfl (fun w' hb hd => ?_) (fun v hv => ?_)
  · clear hd
    have hz := hb.size
    simp only [World.size_alloc] at hz
    go_simp
    refine ⟨bAlloc (Below.refl _ _) _, ⟨_, rfl⟩, fun b e => ?_⟩
    obtain rfl : w'.heap.size = b := by simpa using e
    exact ⟨by omega, TBox.new _ _ _⟩
  obtain ⟨b7, rfl⟩ := hv
  simp only [Act.put, List.setIfInBounds_toArray, List.set_cons_succ, List.set_cons_zero]
  refine wpStir_end (fun w5 hb5 hd => ?_)
  obtain ⟨hb7, htb⟩ := hd.1 b7 rfl
  have hfx := hd.2.1 b3 c3 rfl
  clear hd
  have HFX := Lib.hid hfx
  have HTB := Lib.hid htb
  have HB5 := Lib.hid hb5
  have x0 : w5.cell? ⟨b7, 0, none⟩ = some (.int .i64 0) := htb.cell 0
  have x1 : w5.cell? ⟨b7, 1, none⟩ = some (.slice none 0 0) := htb.cell 1
  have x2 : w5.cell? ⟨b7, 2, none⟩ = some (.slice none 0 0) := htb.cell 2
  have y0 := htb.frozen 0
  have y1 := htb.frozen 1
  have y2 := htb.frozen 2
  have hz5 := hb5.size
  simp only [World.size_alloc] at hz5
  clear hfx htb hb5
  simp only [List.drop_succ_cons, List.drop_zero]
  go_wp2_with fail
  have HT6 := Lib.hid (((HTB.out.set 0 (.int .i64 t.wells)).set 1 (.slice none 0 0)).set 2 (.slice (some ⟨b3, 0, none⟩) t.nf c3))
  have HF6 := Lib.hid (owns_setT (owns_setT (owns_setT HFX.out HTB.out (by decide) 0 (.int .i64 t.wells)) (HTB.out.set 0 (.int .i64 t.wells)) (by decide) 1 (.slice none 0 0)) ((HTB.out.set 0 (.int .i64 t.wells)).set 1 (.slice none 0 0)) (by decide) 2 (.slice (some ⟨b3, 0, none⟩) t.nf c3))
  have HB6 := Lib.hid (show Below (w.heap.size + 2) ((w.alloc (.cells #[.int .i64 t.wells, .slice Aw t.nw cw, .slice Af t.nf cf] 25)).alloc (.cells #[.int .i64 0, .slice none 0 0, .slice none 0 0] 25)) _ from Below.setCell (p := ⟨b7, 2, none⟩) (Below.setCell (p := ⟨b7, 1, none⟩) (Below.setCell (p := ⟨b7, 0, none⟩) (by have := HB5.out; simpa using this) (show w.heap.size + 2 ≤ b7 from hb7) (.int .i64 t.wells)) (show w.heap.size + 2 ≤ b7 from hb7) (.slice none 0 0)) (show w.heap.size + 2 ≤ b7 from hb7) (.slice (some ⟨b3, 0, none⟩) t.nf c3))
  have hlt7 := HTB.out.lt
  have hlt3 : b3 < w5.heap.size := (HFX.out.lt b3 rfl).2
  clear x0 x1 x2 y0 y1 y2
  go_loopw [4] (fun s wr => ∃ (k : Nat) (V : Value) (us : List Value), k ≤ t.nw ∧ s = .int .i64 k ∧ TBox wr b7 25 #[.int .i64 t.wells, V, .slice (some ⟨b3, 0, none⟩) t.nf c3] ∧ wr.ownsRow w5.heap.size 101 1 V k us ∧ WsRows wr t.world k us ∧ w5.heap.size ≤ wr.heap.size ∧ wr.ownsRow (w.heap.size + 2) 27 5 (.slice (some ⟨b3, 0, none⟩) t.nf c3) t.nf (factL t.fact t.nf) ∧ Below (w.heap.size + 2) ((w.alloc (.cells #[.int .i64 t.wells, .slice Aw t.nw cw, .slice Af t.nf cf] 25)).alloc (.cells #[.int .i64 0, .slice none 0 0, .slice none 0 0] 25)) wr) (fun s _ => t.nw - (intOf s).toNat)
  case atStart => exact ⟨0, .slice none 0 0, [], Nat.zero_le _, rfl, HT6.out, World.ownsRow_nil _ _ _ _, ⟨rfl, fun j u h => by simp at h⟩, by simp, HF6.out, HB6.out⟩
  case round =>
    obtain ⟨k, V, us, hk, rfl, hbx, hown, hrows, hsz5, hfacts, hbel⟩ := hrel
    have HX := Lib.hid hbx
    have HO := Lib.hid hown
    have HR := Lib.hid hrows
    have HFA := Lib.hid hfacts
    have HL := Lib.hid hbel
    have hbw : Below w.heap.size w wr := bTrans HB.out (by simpa using hbel)
    have HW := Lib.hid hbw
    have HTW := Lib.hid (HT.out.worlds.mono (show Below ((w.alloc (.cells #[.int .i64 t.wells, .slice Aw t.nw cw, .slice Af t.nf cf] 25)).alloc (.cells #[.int .i64 0, .slice none 0 0, .slice none 0 0] 25)).heap.size _ wr by simpa using hbel))
    have p0 := (hbel.cell (p := ⟨w.heap.size, 0, none⟩) (by show w.heap.size < w.heap.size + 2; omega)).trans (show _ = some (.int .i64 t.wells) by simp [go_sem])
    have p1 := (hbel.cell (p := ⟨w.heap.size, 1, none⟩) (by show w.heap.size < w.heap.size + 2; omega)).trans (show _ = some (.slice Aw t.nw cw) by simp [go_sem])
    have q1 : wr.cell? ⟨b7, 1, none⟩ = some V := hbx.cell 1
    have hz : b7 < wr.heap.size := hbx.lt
    have hy : w.heap.size < wr.heap.size := by omega
    clear hbx hown hrows hfacts hbel hbw
    by_cases hlt : k < t.nw
    · rcases HTW.out with h0 | ⟨b, o, hA, hb, hc⟩
      · omega
      obtain ⟨A', c', c0, hrow, hlen⟩ := hc k hlt
      subst hA
      obtain ⟨x, hx⟩ : ∃ x, t.world k = x := ⟨_, rfl⟩
      rw [hx] at c0 hrow hlen
      have HXE := Lib.hid hx
      have HXF := Lib.hid (show x.Fits by have := HF.out.2.2 k hlt; rw [hx] at this; exact this)
      have HROW := Lib.hid hrow
      have k1 : (k : Int) < (t.nw : Int) := by omega
      have k0 : (0 : Int) ≤ (k : Int) := by omega
      have HN := Lib.hid (show (k + 1) * 24 ≤ 140737488351232 by have := HF.out.1; omega)
      clear hc hrow hx
      go_wp2_with fail
      refine wp_region_pin 9 [.const (.pointer (some ⟨b7, 1, none⟩)), .const V, .const (.pointer (some ⟨w.heap.size, 1, none⟩)), .const (.slice (some ⟨b, o, none⟩) t.nw cw), .const (.int .i64 k), .const (.pointer (some ⟨b, o + k, none⟩)), .const (.agg #[.slice A' x.n c']), .held (wdS x.n) (wdR x), .held one1 (wdIn x)]
        [.pointer (some ⟨b7, 1, none⟩)] (by kernel_rfl) (by kernel_rfl) rfl ⟨trivial, trivial, trivial, trivial, trivial, trivial, trivial, wdG, wdInG, trivial⟩ (crossAll_no _ _ _ _ trivial) rfl rfl (fun j u hj => ?_) ?_
      · match j, hj with
        | 0, hj =>
          obtain rfl : Value.pointer (some ⟨b7, 1, none⟩) = u := by simpa using hj
          exact ⟨_, rfl, rfl, fun w' => by go_simp⟩
      iterate 7 refine wpStir_const (by go_simp) ?_
      simp only [Act.put, List.setIfInBounds_toArray, List.set_cons_succ, List.set_cons_zero]
      refine wpStir_held rfl (fun w' hb hd => ?_) (fun v hv => ?_)
      · clear hd
        have hcw := Lib.hid (copyWorld5_any A' c' x w' HXF.out (HROW.out.mono hb))
        go_simp
        refine hcw.out.mono ?_
        rintro e w'' ⟨⟨v, vs, rfl, ho, hr⟩, hb'⟩
        obtain ⟨A3, c3', rfl, h3⟩ := RowK.own ho
        refine ⟨_, rfl, hb', ⟨_, _, rfl⟩, fun u e => ?_⟩
        obtain rfl : Value.slice A3 x.n c3' = u := by simpa using e
        exact ⟨A3, c3', vs, rfl, h3, hr⟩
      obtain ⟨A3, c4, rfl⟩ := hv
      refine wpStir_held rfl (fun w' hb hd => ?_) (fun v hv => ?_)
      · have h1 : WdK w' (.slice A3 x.n c4) x := hd.1 (by kernel_rfl) _ rfl
        clear hd
        go_simp
        refine ⟨bAlloc (Below.refl _ _) _, ⟨_, rfl⟩, fun b' hb' => ?_⟩
        obtain rfl : w'.heap.size = b' := by simpa using hb'
        exact ⟨_, by simp [go_sem], h1.mono (bAlloc (Below.refl _ _) _)⟩
      obtain ⟨b9, rfl⟩ := hv
      simp only [Act.put, List.setIfInBounds_toArray, List.set_cons_succ, List.set_cons_zero]
      refine wpStir_end (fun w9 hb9 hd => ?_)
      obtain ⟨u, h4, h5⟩ := hd.1 b9 rfl
      clear hd
      have HX9 := Lib.hid (HX.out.mono hb9)
      have HO9 := Lib.hid (owns_below HO.out hb9)
      have HR9 := Lib.hid (HR.out.mono hb9)
      have HFA9 := Lib.hid (owns_below HFA.out hb9)
      have HK9 := Lib.hid h5
      have HL9 := Lib.hid (HL.out.trans (hb9.mono (by have := HX.out.lt; omega)))
      refine stir_own (Operand.tmp 20) (Operand.tmp 27) 22 rfl w5.heap.size 101 (.agg #[.slice none 0 0]) 1 24 infoWorld Tryz.underlying22 rfl (by decide) V k us rfl HO9.out ⟨b9, 0, none⟩ 1 1 [u] rfl rfl (news1 h4) (one1c h5.one) (by unfold maxLen; have := HN.out; omega) (by have := HN.out; omega) (by have := hb9.size; omega) (fun v' w10 hown10 hg10 => ?_)
      obtain ⟨A6, c6, rfl, _⟩ := RowK.own hown10
      have hnb : some b7 ≠ V.ownBlock := fun e => by have := HO9.out.lt _ e.symm; omega
      have hnf : (Value.slice (some ⟨b3, 0, none⟩) t.nf c3).ownBlock ≠ V.ownBlock := fun e => by
        have := HO9.out.lt b3 e.symm
        omega
      have HX10 := Lib.hid (HX9.out.grown hg10 hnb)
      have hk10 : Kept [3, 34] w9 w10 := Kept.of_own hg10 HO9.out (by decide)
      have HR10 := Lib.hid (HR9.out.kept hk10 (by simp) (by simp))
      have HK10 := Lib.hid (HK9.out.kept hk10 (by simp) (by simp))
      have HFA10 := Lib.hid (HFA9.out.kept hg10 (.inr hnf))
      have HL10 := Lib.hid (HL9.out.grown hg10 (by have := HX9.out.lt; omega) (fun q hq => by have := (HO9.out.lt q hq).1; omega))
      have HO10 := Lib.hid hown10
      have hz10 : w5.heap.size ≤ w10.heap.size := by have := hg10.size; have := hb9.size; omega
      have r1 : w10.cell? ⟨b7, 1, none⟩ = some V := HX10.out.cell 1
      have r2 := HX10.out.frozen 1
      clear hown10 hg10 h4 h5 hb9 p0 p1 q1 c0 hnb hnf hk10
      simp only [putF, Act.put, List.setIfInBounds_toArray, List.set_cons_succ, List.set_cons_zero, List.drop_succ_cons, List.drop_zero]
      go_wp2_with fail
      go_roundw
      case rel =>
        have hk11 : Kept [3, 34] w10 (w10.setCell ⟨b7, 1, none⟩ (.slice A6 (k + 1) c6)) := Kept.set HX10.out (by decide) 1 _
        have hs11 : WsRows (w10.setCell ⟨b7, 1, none⟩ (.slice A6 (k + 1) c6)) t.world (k + 1) (us ++ [u]) := (HR10.out.kept hk11 (by simp) (by simp)).snoc (by rw [HXE.out]; exact HK10.out.kept hk11 (by simp) (by simp)) (by rw [HXE.out]; have := HXF.out.1; omega)
        refine ⟨k + 1, .slice A6 (k + 1) c6, _, by omega, ?_, HX10.out.set 1 (.slice A6 (k + 1) c6), owns_set HO10.out (by omega) 1 (.slice A6 (k + 1) c6), hs11, by simpa using hz10, owns_setT HFA10.out HX10.out (by decide) 1 _, HL10.out.setCell (p := ⟨b7, 1, none⟩) (show w.heap.size + 2 ≤ b7 from hb7) (.slice A6 (k + 1) c6)⟩
        go_num
      case measure => simp [intOf]; omega
    · obtain rfl : k = t.nw := by omega
      obtain ⟨A6, c6, rfl, _⟩ := RowK.own HO.out
      have q0 : wr.cell? ⟨b7, 0, none⟩ = some (.int .i64 t.wells) := HX.out.cell 0
      have q2 : wr.cell? ⟨b7, 2, none⟩ = some (.slice (some ⟨b3, 0, none⟩) t.nf c3) := HX.out.cell 2
      have hTR : TBox wr (w.heap.size + 1) 25 #[.int .i64 0, .slice none 0 0, .slice none 0 0] := (HL.out.block (w.heap.size + 1) (by omega)).trans (by have := HTR.out; simpa [TBox] using this)
      have HTR9 := Lib.hid hTR
      have s0 : wr.cell? ⟨w.heap.size + 1, 0, none⟩ = some (.int .i64 0) := hTR.cell 0
      have s1 : wr.cell? ⟨w.heap.size + 1, 1, none⟩ = some (.slice none 0 0) := hTR.cell 1
      have s2 : wr.cell? ⟨w.heap.size + 1, 2, none⟩ = some (.slice none 0 0) := hTR.cell 2
      have t0 := hTR.frozen 0
      have t1 := hTR.frozen 1
      have t2 := hTR.frozen 2
      have hy1 : w.heap.size + 1 < wr.heap.size := hTR.lt
      clear hTR
      go_wp2_with fail
      have hT0 := HTR9.out.set 0 (.int .i64 t.wells)
      have hT1 := hT0.set 1 (.slice A6 t.nw c6)
      have hk : Kept [3, 34] wr (((wr.setCell ⟨w.heap.size + 1, 0, none⟩ (.int .i64 t.wells)).setCell ⟨w.heap.size + 1, 1, none⟩ (.slice A6 t.nw c6)).setCell ⟨w.heap.size + 1, 2, none⟩ (.slice (some ⟨b3, 0, none⟩) t.nf c3)) :=
        ((Kept.set HTR9.out (by decide) 0 _).trans (Kept.set hT0 (by decide) 1 _)).trans (Kept.set hT1 (by decide) 2 _)
      refine bodyPost_ret (v := .agg #[.int .i64 t.wells, .slice A6 t.nw c6, .slice (some ⟨b3, 0, none⟩) t.nf c3]) (by simp [results, Tryz.results51, go_sem, *]) rfl ⟨⟨_, _, rfl, ⟨us, ?_, HR.out.kept hk (by simp) (by simp)⟩, ?_⟩, ?_⟩
      · exact owns_lower (owns_setT (owns_setT (owns_setT HO.out HTR9.out (by decide) 0 _) hT0 (by decide) 1 _) hT1 (by decide) 2 _) (by omega)
      · exact owns_lower (owns_setT (owns_setT (owns_setT HFA.out HTR9.out (by decide) 0 _) hT0 (by decide) 1 _) hT1 (by decide) 2 _) (by omega)
      · exact Below.setCell (p := ⟨w.heap.size + 1, 2, none⟩) (Below.setCell (p := ⟨w.heap.size + 1, 1, none⟩) (Below.setCell (p := ⟨w.heap.size + 1, 0, none⟩) HW.out (by simp) (.int .i64 t.wells)) (by simp) (.slice A6 t.nw c6)) (by simp) (.slice (some ⟨b3, 0, none⟩) t.nf c3)
end Go.Proofs.YthnojgdckkdcgaaGreatDoor

