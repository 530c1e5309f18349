/- Parts joined. -/
import Derived.Test.YtjpfdhhiofjpbaaGreatDoorNPF
import Derived.Test.YtjpfdhhiofjpbaaGreatDoorNPG
import Derived.Test.YtjpfdhhiofjpbaaGreatDoorCards
import Derived.Test.YtjpfdhhiofjpbaaGreatDoorNPC
import Derived.Test.YtjpfdhhiofjpbaaGreatDoorNPE
set_option linter.unusedSimpArgs false
set_option linter.unusedVariables false
/- The frame of the statements of places: how a town and a spot that came in read, and that they fit into memory; what the listed variables hold. No condition. -/
namespace Go.Proofs.YtjpfdhhiofjpbaaGreatDoor
open Go.RowKit Go.Sort Go.ChangeShapes Go.WideShapes Go.ChangeAt Go.Deep
/-- what fits into memory -/
structure Spot.Fits (x : Spot) : Prop where
  nr : x.sh.nr * 32 ≤ 140737488351232
  nf : x.sh.nf * 8 ≤ 140737488351232
  fl : x.fl.Fits
structure Pt.Fits (t : Pt) : Prop where
  q : t.q.Fits
  no : t.no * 8 ≤ 140737488351232
  np : t.np * 8 ≤ 140737488351232
  ns : t.ns * 104 ≤ 140737488351232
  spot : ∀ i, i < t.ns → (t.spot i).Fits
theorem Spot.Fits.small {x : Spot} (h : x.Fits) : x.Small := ⟨by have := h.nr; omega, by have := h.nf; omega, by have := h.fl.1; omega, fun k hk => by have := h.fl.2 k hk; omega⟩
theorem Pt.Fits.small {t : Pt} (h : t.Fits) : t.Small := ⟨h.q.small, by have := h.no; omega, by have := h.np; omega, by have := h.ns; omega, fun i hi => (h.spot i hi).small⟩
section
variable {H : Type} {enc : TypeId × Value → H} {P : Program} {w : World} {base b0 : Nat} {r : Reach} {sp : Nat → Bool} {held : Bool}
theorem four_ints {t ti : TypeId} {f0 f1 f2 f3 : Field} {fuel : Nat} {cs : List Value} {x : DataW H × List MemPlace} (ht : P.underlying t = some (.struct #[f0, f1, f2, f3])) (hone : oneCellFields P #[f0, f1, f2, f3] = true && (f0.type == ti && f1.type == ti && f2.type == ti && f3.type == ti) && P.cellsOf t == 4)
    (hi : P.underlying ti = some (.int .i64)) (h : DataW.trod enc P w base sp held fuel t cs = some x) : ∃ a b c d, cs = [.int .i64 a, .int .i64 b, .int .i64 c, .int .i64 d] := by
  simp only [Bool.and_eq_true, beq_iff_eq, decide_eq_true_eq] at hone
  obtain ⟨⟨ho, ⟨⟨e0, e1⟩, e2⟩, e3⟩, hC⟩ := hone
  obtain ⟨xs, n, _, hx, hlen, hxl, hg⟩ := DataW.trod_struct ht h
  obtain ⟨o0, k0⟩ := hone_of ho 0 f0 rfl
  obtain ⟨o1, k1⟩ := hone_of ho 1 f1 rfl
  obtain ⟨o2, k2⟩ := hone_of ho 2 f2 rfl
  obtain ⟨o3, k3⟩ := hone_of ho 3 f3 rfl
  match cs, hlen.trans hC, xs, hxl with
  | [c0, c1, c2, c3], _, [y0, y1, y2, y3], _ =>
    have g0 := hg 0 f0 rfl
    have g1 := hg 1 f1 rfl
    have g2 := hg 2 f2 rfl
    have g3 := hg 3 f3 rfl
    rw [o0, k0, e0] at g0
    rw [o1, k1, e1] at g1
    rw [o2, k2, e2] at g2
    rw [o3, k3, e3] at g3
    simp only [List.drop_zero, List.take_succ_cons, List.take_zero, List.drop_succ_cons, List.getElem?_cons_zero, List.getElem?_cons_succ] at g0 g1 g2 g3
    obtain ⟨a, h0, _⟩ := DataW.trod_int hi g0
    obtain ⟨b, h1, _⟩ := DataW.trod_int hi g1
    obtain ⟨c, h2, _⟩ := DataW.trod_int hi g2
    obtain ⟨d, h3, _⟩ := DataW.trod_int hi g3
    injection h0 with h0
    injection h1 with h1
    injection h2 with h2
    injection h3 with h3
    subst h0 h1 h2 h3
    exact ⟨a, b, c, d, rfl⟩
theorem rocks_fit {t e ti : TypeId} {f0 f1 f2 f3 : Field} {fuel : Nat} {cs : List Value} {x : DataW H × List MemPlace} (ht : P.underlying t = some (.slice e)) (he : P.underlying e = some (.struct #[f0, f1, f2, f3])) (hone : oneCellFields P #[f0, f1, f2, f3] = true && (f0.type == ti && f1.type == ti && f2.type == ti && f3.type == ti) && P.cellsOf e == 4)
    (hi : P.underlying ti = some (.int .i64)) (hbe : P.bytesOf e = 32) (hf : Fit P t x.1) (h : DataW.trod enc P w base sp held fuel t cs = some x) : ∃ A n c f, cs = [.slice A n c] ∧ RocksAt w A n f ∧ n * 32 ≤ 140737488351232 ∧ SliceIn A n c := by
  have hC : P.cellsOf e = 4 := by
    simp only [Bool.and_eq_true, beq_iff_eq] at hone
    exact hone.2
  rcases open_slice ht h with ⟨h0, _⟩ | ⟨a, len, cap, m, n, D, Pl, hcs, hb, hl, hm, hmm, hx, hel⟩
  · exact ⟨none, 0, 0, fun _ => default, h0, .inl rfl, by decide, Nat.le_refl _, by omega, fun _ => ⟨rfl, rfl⟩⟩
  · have hlm : len ≤ m := by rw [hmm]; split <;> omega
    have hin : SliceIn (some a) len cap := ⟨hl, by unfold maxLen at hm; exact hm, fun h => by cases h⟩
    have hf' : Fit P t (.slice ((List.range len).map D) ((List.range (m - len)).map fun j => D (len + j))) := by rw [hx] at hf; exact hf
    obtain ⟨g1, _⟩ := fit_slice ht hf'
    rw [hbe] at g1
    rw [hC] at hel
    rcases Nat.eq_zero_or_pos len with h0 | h0
    · subst h0; exact ⟨_, 0, cap, fun _ => default, hcs, .inl rfl, by decide, hin⟩
    · have each : ∀ i, i < m → ∃ k0 k1 k2 k3 : Int, w.cell? ((a.add (i * 4)).add 0) = some (.int .i64 k0) ∧ w.cell? ((a.add (i * 4)).add 1) = some (.int .i64 k1) ∧ w.cell? ((a.add (i * 4)).add 2) = some (.int .i64 k2) ∧ w.cell? ((a.add (i * 4)).add 3) = some (.int .i64 k3) := fun i him => by
        obtain ⟨cs', h1, h2⟩ := hel i him
        obtain ⟨_, hlen, hcell⟩ := World.cells?_some h1
        obtain ⟨k0, k1, k2, k3, rfl⟩ := four_ints he hone hi h2
        exact ⟨k0, k1, k2, k3, hcell 0 (by omega), hcell 1 (by omega), hcell 2 (by omega), hcell 3 (by omega)⟩
      obtain ⟨_, _, _, _, h1, _⟩ := each 0 (by omega)
      have hs : a.spot = none := by simpa [Addr.add] using World.cell?_spot h1
      obtain ⟨b, o, s⟩ := a
      simp only at hs
      subst hs
      refine ⟨_, len, cap, fun i => ⟨intAt w ⟨b, o + i * 4, none⟩, intAt w ⟨b, o + i * 4 + 1, none⟩, intAt w ⟨b, o + i * 4 + 2, none⟩, intAt w ⟨b, o + i * 4 + 3, none⟩⟩, hcs, .inr ⟨b, o, rfl, World.block_lt_of_cell? w _ (by simpa [Addr.add] using h1), fun i hi' => ?_⟩, g1, hin⟩
      obtain ⟨k0, k1, k2, k3, c0, c1, c2, c3⟩ := each i (by omega)
      rw [add_none, add_none] at c0 c1 c2 c3
      simp only [Nat.add_zero] at c0
      simp only [intAt, c0, c1, c2, c3]
      exact ⟨trivial, trivial, trivial, trivial⟩
/-- a shaft, cell by cell -/
theorem sh_fit {t tr ti tI : TypeId} {f0 f1 f2 f3 f4 : Field} {fuel : Nat} {cs : List Value} {x : DataW H × List MemPlace}
    (ht : P.underlying t = some (.struct #[f0, f1, f2, f3, f4])) (hone : oneCellFields P #[f0, f1, f2, f3, f4] = true && (f0.type == tr && f1.type == ti && f2.type == tI && f3.type == tI && f4.type == tI) && P.cellsOf t == 5) (hi : P.underlying tI = some (.int .i64))
    (hR : ∀ (fuel : Nat) (cs : List Value) (x : DataW H × List MemPlace), Fit P tr x.1 → DataW.trod enc P w base sp held fuel tr cs = some x → ∃ A n c f, cs = [.slice A n c] ∧ RocksAt w A n f ∧ n * 32 ≤ 140737488351232 ∧ SliceIn A n c)
    (hF : ∀ (fuel : Nat) (cs : List Value) (x : DataW H × List MemPlace), Fit P ti x.1 → DataW.trod enc P w base sp held fuel ti cs = some x → ∃ A n c g, cs = [.slice A n c] ∧ IntsAt w A n g ∧ SliceIn A n c ∧ n * 8 ≤ 140737488351232)
    (hf : Fit P t x.1) (h : DataW.trod enc P w base sp held fuel t cs = some x) :
    ∃ (Ar Af : Option Addr) (cr cf : Nat) (S : Sh), cs = [.slice Ar S.nr cr, .slice Af S.nf cf, .int .i64 S.deep, .int .i64 S.haul, .int .i64 S.rest] ∧ ShAt w Ar Af S ∧ S.nr * 32 ≤ 140737488351232 ∧ S.nf * 8 ≤ 140737488351232 := by
  simp only [Bool.and_eq_true, beq_iff_eq, decide_eq_true_eq] at hone
  obtain ⟨⟨ho, ⟨⟨⟨e0, e1⟩, e2⟩, e3⟩, e4⟩, hC⟩ := hone
  obtain ⟨xs, n, _, hx, hlen, hxl, hg⟩ := DataW.trod_struct ht h
  obtain ⟨o0, k0⟩ := hone_of ho 0 f0 rfl
  obtain ⟨o1, k1⟩ := hone_of ho 1 f1 rfl
  obtain ⟨o2, k2⟩ := hone_of ho 2 f2 rfl
  obtain ⟨o3, k3⟩ := hone_of ho 3 f3 rfl
  obtain ⟨o4, k4⟩ := hone_of ho 4 f4 rfl
  match cs, hlen.trans hC, xs, hxl with
  | [c0, c1, c2, c3, c4], _, [y0, y1, y2, y3, y4], _ =>
    have g0 := hg 0 f0 rfl
    have g1 := hg 1 f1 rfl
    have g2 := hg 2 f2 rfl
    have g3 := hg 3 f3 rfl
    have g4 := hg 4 f4 rfl
    rw [o0, k0, e0] at g0
    rw [o1, k1, e1] at g1
    rw [o2, k2, e2] at g2
    rw [o3, k3, e3] at g3
    rw [o4, k4, e4] at g4
    simp only [List.drop_zero, List.take_succ_cons, List.take_zero, List.drop_succ_cons, List.getElem?_cons_zero, List.getElem?_cons_succ] at g0 g1 g2 g3 g4
    rw [hx] at hf
    have q0 := fit_part ht hf (j := 0) (f := f0) (d := y0.1) rfl rfl
    have q1 := fit_part ht hf (j := 1) (f := f1) (d := y1.1) rfl rfl
    rw [e0] at q0
    rw [e1] at q1
    obtain ⟨A, nr, cr, rock, h0, hr, hr2, _⟩ := hR _ _ _ q0 g0
    obtain ⟨B, nf, cf, foot, h1, hft, _, hf2⟩ := hF _ _ _ q1 g1
    obtain ⟨a, h2, _⟩ := DataW.trod_int hi g2
    obtain ⟨b, h3, _⟩ := DataW.trod_int hi g3
    obtain ⟨c, h4, _⟩ := DataW.trod_int hi g4
    injection h0 with h0
    injection h1 with h1
    injection h2 with h2
    injection h3 with h3
    injection h4 with h4
    subst h0 h1 h2 h3 h4
    exact ⟨A, B, cr, cf, ⟨nr, rock, nf, foot, a, b, c⟩, rfl, ⟨hr, hft⟩, hr2, hf2⟩
/-- a spot, cell by cell -/
theorem spot_fit {t ts tl tI : TypeId} {f0 f1 f2 : Field} {fuel : Nat} {cs : List Value} {x : DataW H × List MemPlace}
    (ht : P.underlying t = some (.struct #[f0, f1, f2])) (hone : (f0.offset == 0 && P.cellsOf f0.type == 1 && f0.type == tI && f1.offset == 1 && P.cellsOf f1.type == 5 && f1.type == ts && f2.offset == 6 && P.cellsOf f2.type == 1 && f2.type == tl && P.cellsOf t == 7) = true) (hi : P.underlying tI = some (.int .i64))
    (hS : ∀ (fuel : Nat) (cs : List Value) (x : DataW H × List MemPlace), Fit P ts x.1 → DataW.trod enc P w base sp held fuel ts cs = some x → ∃ (Ar Af : Option Addr) (cr cf : Nat) (S : Sh), cs = [.slice Ar S.nr cr, .slice Af S.nf cf, .int .i64 S.deep, .int .i64 S.haul, .int .i64 S.rest] ∧ ShAt w Ar Af S ∧ S.nr * 32 ≤ 140737488351232 ∧ S.nf * 8 ≤ 140737488351232)
    (hF : ∀ (fuel : Nat) (cs : List Value) (x : DataW H × List MemPlace), Fit P tl x.1 → DataW.trod enc P w base sp held fuel tl cs = some x → ∃ A c y, cs = [.slice A (Wd.n y) c] ∧ RowsAt w A y ∧ y.Fits ∧ SliceIn A y.n c)
    (hf : Fit P t x.1) (h : DataW.trod enc P w base sp held fuel t cs = some x) :
    ∃ (Ar Af Aw : Option Addr) (cr cf cw : Nat) (y : Spot), cs = [.int .i64 y.at_, .slice Ar y.sh.nr cr, .slice Af y.sh.nf cf, .int .i64 y.sh.deep, .int .i64 y.sh.haul, .int .i64 y.sh.rest, .slice Aw y.fl.n cw] ∧ ShAt w Ar Af y.sh ∧ RowsAt w Aw y.fl ∧ y.Fits := by
  simp only [Bool.and_eq_true, beq_iff_eq] at hone
  obtain ⟨⟨⟨⟨⟨⟨⟨⟨⟨o0, k0⟩, e0⟩, o1⟩, k1⟩, e1⟩, o2⟩, k2⟩, e2⟩, hC⟩ := hone
  obtain ⟨xs, n, _, hx, hlen, hxl, hg⟩ := DataW.trod_struct ht h
  match cs, hlen.trans hC, xs, hxl with
  | [c0, c1, c2, c3, c4, c5, c6], _, [y0, y1, y2], _ =>
    have g0 := hg 0 f0 rfl
    have g1 := hg 1 f1 rfl
    have g2 := hg 2 f2 rfl
    rw [o0, k0, e0] at g0
    rw [o1, k1, e1] at g1
    rw [o2, k2, e2] at g2
    simp only [List.drop_zero, List.take_succ_cons, List.take_zero, List.drop_succ_cons, List.getElem?_cons_zero, List.getElem?_cons_succ] at g0 g1 g2
    rw [hx] at hf
    have q1 := fit_part ht hf (j := 1) (f := f1) (d := y1.1) rfl rfl
    have q2 := fit_part ht hf (j := 2) (f := f2) (d := y2.1) rfl rfl
    rw [e1] at q1
    rw [e2] at q2
    obtain ⟨a, h0, _⟩ := DataW.trod_int hi g0
    obtain ⟨Ar, Af, cr, cf, S, h1, hs, hs1, hs2⟩ := hS _ _ _ q1 g1
    obtain ⟨A, c, y, h2, hr, hr2, _⟩ := hF _ _ _ q2 g2
    simp only [List.cons.injEq, and_true] at h0 h1 h2
    obtain ⟨rfl, rfl, rfl, rfl, rfl⟩ := h1
    subst h0 h2
    exact ⟨Ar, Af, A, cr, cf, c, ⟨a, S, y⟩, rfl, hs, hr, ⟨hs1, hs2, hr2⟩⟩
theorem spots_fit {t e : TypeId} {fuel : Nat} {cs : List Value} {x : DataW H × List MemPlace} (ht : P.underlying t = some (.slice e)) (hC : P.cellsOf e = 7) (hbe : P.bytesOf e = 104)
    (hS : ∀ (fuel : Nat) (cs : List Value) (x : DataW H × List MemPlace), Fit P e x.1 → DataW.trod enc P w base sp held fuel e cs = some x → ∃ (Ar Af Aw : Option Addr) (cr cf cw : Nat) (y : Spot), cs = [.int .i64 y.at_, .slice Ar y.sh.nr cr, .slice Af y.sh.nf cf, .int .i64 y.sh.deep, .int .i64 y.sh.haul, .int .i64 y.sh.rest, .slice Aw y.fl.n cw] ∧ ShAt w Ar Af y.sh ∧ RowsAt w Aw y.fl ∧ y.Fits)
    (hf : Fit P t x.1) (h : DataW.trod enc P w base sp held fuel t cs = some x) : ∃ A n c f, cs = [.slice A n c] ∧ SpotsAt w A n f ∧ (∀ i, i < n → (f i).Fits) ∧ n * 104 ≤ 140737488351232 ∧ SliceIn A n c := by
  haveI : Inhabited Spot := ⟨⟨0, ⟨0, fun _ => default, 0, fun _ => 0, 0, 0, 0⟩, ⟨0, fun _ => 0, fun _ _ => 0⟩⟩⟩
  rcases open_slice ht h with ⟨h0, _⟩ | ⟨a, len, cap, m, n, D, Pl, hcs, hb, hl, hm, hmm, hx, hel⟩
  · exact ⟨none, 0, 0, fun _ => default, h0, .inl rfl, (fun i hi => absurd hi (Nat.not_lt_zero _)), by decide, Nat.le_refl _, by omega, fun _ => ⟨rfl, rfl⟩⟩
  · have hlm : len ≤ m := by rw [hmm]; split <;> omega
    have hin : SliceIn (some a) len cap := ⟨hl, by unfold maxLen at hm; exact hm, fun h => by cases h⟩
    have hf' : Fit P t (.slice ((List.range len).map D) ((List.range (m - len)).map fun j => D (len + j))) := by rw [hx] at hf; exact hf
    obtain ⟨g1, g2⟩ := fit_slice ht hf'
    rw [hbe] at g1
    rw [hC] at hel
    rcases Nat.eq_zero_or_pos len with h0 | h0
    · subst h0; exact ⟨_, 0, cap, fun _ => default, hcs, .inl rfl, (fun i hi => absurd hi (Nat.not_lt_zero _)), by decide, hin⟩
    · have each : ∀ i, i < len → ∃ (y : Spot), (∃ (Ar Af Aw : Option Addr) (cr cf cw : Nat), ShAt w Ar Af y.sh ∧ RowsAt w Aw y.fl ∧ w.cell? ((a.add (i * 7)).add 0) = some (.int .i64 y.at_) ∧ w.cell? ((a.add (i * 7)).add 1) = some (.slice Ar y.sh.nr cr) ∧ w.cell? ((a.add (i * 7)).add 2) = some (.slice Af y.sh.nf cf) ∧ w.cell? ((a.add (i * 7)).add 3) = some (.int .i64 y.sh.deep) ∧ w.cell? ((a.add (i * 7)).add 4) = some (.int .i64 y.sh.haul) ∧ w.cell? ((a.add (i * 7)).add 5) = some (.int .i64 y.sh.rest) ∧ w.cell? ((a.add (i * 7)).add 6) = some (.slice Aw y.fl.n cw)) ∧ y.Fits := fun i him => by
        obtain ⟨cs', h1, h2⟩ := hel i (by omega)
        obtain ⟨_, hlen, hcell⟩ := World.cells?_some h1
        obtain ⟨Ar, Af, Aw, cr, cf, cw, y, rfl, hs, hr, hy⟩ := hS _ _ _ (g2 i him) h2
        exact ⟨y, ⟨Ar, Af, Aw, cr, cf, cw, hs, hr, hcell 0 (by omega), hcell 1 (by omega), hcell 2 (by omega), hcell 3 (by omega), hcell 4 (by omega), hcell 5 (by omega), hcell 6 (by omega)⟩, hy⟩
      obtain ⟨_, ⟨_, _, _, _, _, _, _, _, h1, _⟩, _⟩ := each 0 h0
      have hs : a.spot = none := by simpa [Addr.add] using World.cell?_spot h1
      obtain ⟨b, o, s⟩ := a
      simp only at hs
      subst hs
      obtain ⟨G, hG⟩ := choose_lt each
      refine ⟨_, len, cap, G, hcs, .inr ⟨b, o, rfl, World.block_lt_of_cell? w _ (by simpa [Addr.add] using h1), fun i hi' => ?_⟩, fun i hi' => (hG i hi').2, g1, hin⟩
      obtain ⟨⟨Ar, Af, Aw, cr, cf, cw, hs, hr, c0, c1, c2, c3, c4, c5, c6⟩, _⟩ := hG i hi'
      rw [add_none, add_none] at c0 c1 c2 c3 c4 c5 c6
      exact ⟨Ar, Af, Aw, cr, cf, cw, hs, hr, c0, c1, c2, c3, c4, c5, c6⟩
/-- a town, cell by cell -/
theorem qtown_fit {t ts tl tI : TypeId} {f0 f1 f2 : Field} {fuel : Nat} {cs : List Value} {x : DataW H × List MemPlace}
    (ht : P.underlying t = some (.struct #[f0, f1, f2])) (hone : oneCellFields P #[f0, f1, f2] = true && (f0.type == tI && f1.type == ts && f2.type == tl) && P.cellsOf t == 3) (hi : P.underlying tI = some (.int .i64))
    (hR : ∀ (fuel : Nat) (cs : List Value) (x : DataW H × List MemPlace), Fit P ts x.1 → DataW.trod enc P w base sp held fuel ts cs = some x → ∃ A n c f, cs = [.slice A n c] ∧ WorldsAt w A n f ∧ (∀ i, i < n → (f i).Fits) ∧ n * 24 ≤ 140737488351232 ∧ SliceIn A n c)
    (hF : ∀ (fuel : Nat) (cs : List Value) (x : DataW H × List MemPlace), Fit P tl x.1 → DataW.trod enc P w base sp held fuel tl cs = some x → ∃ A n c f, cs = [.slice A n c] ∧ FactsAt w A n f ∧ n * 40 ≤ 140737488351232 ∧ SliceIn A n c)
    (hf : Fit P t x.1) (h : DataW.trod enc P w base sp held fuel t cs = some x) :
    ∃ (Aw Af : Option Addr) (cw cf : Nat) (q : Qt), cs = [.int .i64 q.wells, .slice Aw q.nw cw, .slice Af q.nf cf] ∧ QAt w Aw Af q ∧ q.Fits := by
  simp only [Bool.and_eq_true, beq_iff_eq, decide_eq_true_eq] at hone
  obtain ⟨⟨ho, ⟨e0, e1⟩, e2⟩, hC⟩ := hone
  obtain ⟨xs, n, _, hx, hlen, hxl, hg⟩ := DataW.trod_struct ht h
  obtain ⟨o0, k0⟩ := hone_of ho 0 f0 rfl
  obtain ⟨o1, k1⟩ := hone_of ho 1 f1 rfl
  obtain ⟨o2, k2⟩ := hone_of ho 2 f2 rfl
  match cs, hlen.trans hC, xs, hxl with
  | [c0, c1, c2], _, [y0, y1, y2], _ =>
    have g0 := hg 0 f0 rfl
    have g1 := hg 1 f1 rfl
    have g2 := hg 2 f2 rfl
    rw [o0, k0, e0] at g0
    rw [o1, k1, e1] at g1
    rw [o2, k2, e2] at g2
    simp only [List.drop_zero, List.take_succ_cons, List.take_zero, List.drop_succ_cons, List.getElem?_cons_zero, List.getElem?_cons_succ] at g0 g1 g2
    rw [hx] at hf
    have q1 := fit_part ht hf (j := 1) (f := f1) (d := y1.1) rfl rfl
    have q2 := fit_part ht hf (j := 2) (f := f2) (d := y2.1) rfl rfl
    rw [e1] at q1
    rw [e2] at q2
    obtain ⟨a, h0, _⟩ := DataW.trod_int hi g0
    obtain ⟨A, nw, kw, fw, h1, hs, hs2, hs3, _⟩ := hR _ _ _ q1 g1
    obtain ⟨B, nf, kf, ff, h2, hl, hl2, _⟩ := hF _ _ _ q2 g2
    injection h0 with h0
    injection h1 with h1
    injection h2 with h2
    subst h0 h1 h2
    exact ⟨A, B, kw, kf, ⟨a, nw, fw, nf, ff⟩, rfl, ⟨hs, hl⟩, ⟨hs3, hl2, hs2⟩⟩
theorem place_in' {v : Value} {d : DataW H} {p : List MemPlace} {t tq tn ts tI : TypeId} {f0 f1 f2 f3 f4 f5 f6 : Field}
    (ht : P.underlying t = some (.struct #[f0, f1, f2, f3, f4, f5, f6])) (hone : (f0.offset == 0 && P.cellsOf f0.type == 3 && f0.type == tq && f1.offset == 3 && P.cellsOf f1.type == 1 && f1.type == tn && f2.offset == 4 && P.cellsOf f2.type == 1 && f2.type == tn && f3.offset == 5 && P.cellsOf f3.type == 1 && f3.type == ts && f4.offset == 6 && P.cellsOf f4.type == 1 && f4.type == tI && f5.offset == 7 && P.cellsOf f5.type == 1 && f5.type == tI && f6.offset == 8 && P.cellsOf f6.type == 1 && f6.type == tI && P.cellsOf t == 9) = true) (hi : P.underlying tI = some (.int .i64))
    (hQ : ∀ (fuel : Nat) (cs : List Value) (x : DataW H × List MemPlace), Fit P tq x.1 → DataW.trod enc P w base sp held fuel tq cs = some x → ∃ (Aw Af : Option Addr) (cw cf : Nat) (q : Qt), cs = [.int .i64 q.wells, .slice Aw q.nw cw, .slice Af q.nf cf] ∧ QAt w Aw Af q ∧ q.Fits)
    (hI : ∀ (fuel : Nat) (cs : List Value) (x : DataW H × List MemPlace), Fit P tn x.1 → DataW.trod enc P w base sp held fuel tn cs = some x → ∃ A n c g, cs = [.slice A n c] ∧ IntsAt w A n g ∧ SliceIn A n c ∧ n * 8 ≤ 140737488351232)
    (hS : ∀ (fuel : Nat) (cs : List Value) (x : DataW H × List MemPlace), Fit P ts x.1 → DataW.trod enc P w base sp held fuel ts cs = some x → ∃ A n c f, cs = [.slice A n c] ∧ SpotsAt w A n f ∧ (∀ i, i < n → (f i).Fits) ∧ n * 104 ≤ 140737488351232 ∧ SliceIn A n c)
    (hv : Value.okWide P w r b0 t v) (hf : Fit P t d) (h : DataW.Trod enc P w base sp held t v d p) :
    ∃ (Aw Af Ao Ap As : Option Addr) (cw cf co cp cs : Nat) (t : Pt), v = .agg #[.int .i64 t.q.wells, .slice Aw t.q.nw cw, .slice Af t.q.nf cf, .slice Ao t.no co, .slice Ap t.np cp, .slice As t.ns cs, .int .i64 t.far, .int .i64 t.harm, .int .i64 t.many] ∧ PAt w Aw Af Ao Ap As t ∧ t.Fits := by
  simp only [Bool.and_eq_true, beq_iff_eq] at hone
  obtain ⟨⟨⟨⟨⟨⟨⟨⟨⟨⟨⟨⟨⟨⟨⟨⟨⟨⟨⟨⟨⟨o0, k0⟩, e0⟩, o1⟩, k1⟩, e1⟩, o2⟩, k2⟩, e2⟩, o3⟩, k3⟩, e3⟩, o4⟩, k4⟩, e4⟩, o5⟩, k5⟩, e5⟩, o6⟩, k6⟩, e6⟩, hC⟩ := hone
  obtain ⟨cs, rfl, hsz⟩ := okWide_struct ht hv
  obtain ⟨l⟩ := cs
  obtain ⟨fuel, hf'⟩ := h
  obtain ⟨xs, n, _, hx, hlen, hxl, hg⟩ := DataW.trod_struct ht hf'
  match l, hsz.trans hC, xs, hxl with
  | [c0, c1, c2, c3, c4, c5, c6, c7, c8], _, [y0, y1, y2, y3, y4, y5, y6], _ =>
    have g0 := hg 0 f0 rfl
    have g1 := hg 1 f1 rfl
    have g2 := hg 2 f2 rfl
    have g3 := hg 3 f3 rfl
    have g4 := hg 4 f4 rfl
    have g5 := hg 5 f5 rfl
    have g6 := hg 6 f6 rfl
    rw [o0, k0, e0] at g0
    rw [o1, k1, e1] at g1
    rw [o2, k2, e2] at g2
    rw [o3, k3, e3] at g3
    rw [o4, k4, e4] at g4
    rw [o5, k5, e5] at g5
    rw [o6, k6, e6] at g6
    simp only [Value.cells, List.drop_zero, List.take_succ_cons, List.take_zero, List.drop_succ_cons, List.getElem?_cons_zero, List.getElem?_cons_succ] at g0 g1 g2 g3 g4 g5 g6
    have hd : d = .agg [y0.1, y1.1, y2.1, y3.1, y4.1, y5.1, y6.1] := congrArg Prod.fst hx
    rw [hd] at hf
    have q0 := fit_part ht hf (j := 0) (f := f0) (d := y0.1) rfl rfl
    have q1 := fit_part ht hf (j := 1) (f := f1) (d := y1.1) rfl rfl
    have q2 := fit_part ht hf (j := 2) (f := f2) (d := y2.1) rfl rfl
    have q3 := fit_part ht hf (j := 3) (f := f3) (d := y3.1) rfl rfl
    rw [e0] at q0
    rw [e1] at q1
    rw [e2] at q2
    rw [e3] at q3
    obtain ⟨Aw, Af, cw, cf, q, h0, hq, hq2⟩ := hQ _ _ _ q0 g0
    obtain ⟨Ao, no, co, old, h1, ho, _, ho2⟩ := hI _ _ _ q1 g1
    obtain ⟨Ap, np, cp, pence, h2, hp, _, hp2⟩ := hI _ _ _ q2 g2
    obtain ⟨As, ns, cs, spot, h3, hs, hs2, hs3, _⟩ := hS _ _ _ q3 g3
    obtain ⟨a, h4, _⟩ := DataW.trod_int hi g4
    obtain ⟨b, h5, _⟩ := DataW.trod_int hi g5
    obtain ⟨c, h6, _⟩ := DataW.trod_int hi g6
    simp only [List.cons.injEq, and_true] at h0 h1 h2 h3 h4 h5 h6
    obtain ⟨rfl, rfl, rfl⟩ := h0
    subst h1 h2 h3 h4 h5 h6
    exact ⟨Aw, Af, Ao, Ap, As, cw, cf, co, cp, cs, ⟨q, no, old, np, pence, ns, spot, a, b, c⟩, rfl, ⟨hq, ho, hp, hs⟩, ⟨hq2, ho2, hp2, hs3, hs2⟩⟩
end
section
variable {H : Type} {enc : TypeId × Value → H} {W : World} {base b0 : Nat} {r : Reach} {sp : Nat → Bool} {held : Bool}
set_option maxRecDepth 100000 in
theorem spotP_fit {fuel : Nat} {cs : List Value} {x : DataW H × List MemPlace} (hf : Fit Tryz.prog 60 x.1) (h : DataW.trod enc Tryz.prog W base sp held fuel 60 cs = some x) :
    ∃ (Ar Af Aw : Option Addr) (cr cf cw : Nat) (y : Spot), cs = [.int .i64 y.at_, .slice Ar y.sh.nr cr, .slice Af y.sh.nf cf, .int .i64 y.sh.deep, .int .i64 y.sh.haul, .int .i64 y.sh.rest, .slice Aw y.fl.n cw] ∧ ShAt W Ar Af y.sh ∧ RowsAt W Aw y.fl ∧ y.Fits :=
  spot_fit Tryz.underlying60 (by kernel_rfl) Tryz.underlying3 (fun _ _ _ hf h => sh_fit Tryz.underlying57 (by kernel_rfl) Tryz.underlying3 (fun _ _ _ hf h => rocks_fit Tryz.underlying55 Tryz.underlying146 (by kernel_rfl) Tryz.underlying3 (by kernel_rfl) hf h) (fun _ _ _ hf h => ints_fit Tryz.underlying26 Tryz.underlying3 (by kernel_rfl) (by kernel_rfl) hf h) hf h) (fun _ _ _ hf h => rows_fit Tryz.underlying58 Tryz.underlying26 Tryz.underlying3 (by kernel_rfl) hf h) hf h
set_option maxRecDepth 100000 in
theorem place_in {v : Value} {d : DataW H} {p : List MemPlace} (hv : Value.okWide Tryz.prog W r b0 29 v) (hf : Fit Tryz.prog 29 d) (h : DataW.Trod enc Tryz.prog W base sp held 29 v d p) :
    ∃ (Aw Af Ao Ap As : Option Addr) (cw cf co cp cs : Nat) (t : Pt), v = .agg #[.int .i64 t.q.wells, .slice Aw t.q.nw cw, .slice Af t.q.nf cf, .slice Ao t.no co, .slice Ap t.np cp, .slice As t.ns cs, .int .i64 t.far, .int .i64 t.harm, .int .i64 t.many] ∧ PAt W Aw Af Ao Ap As t ∧ t.Fits :=
  place_in' Tryz.underlying29 (by kernel_rfl) Tryz.underlying3 (fun _ _ _ hf h => qtown_fit Tryz.underlying25 (by kernel_rfl) Tryz.underlying3 (fun _ _ _ hf h => worlds_fit Tryz.underlying22 Tryz.underlying128 Tryz.underlying58 Tryz.underlying26 Tryz.underlying3 (by kernel_rfl) hf h) (fun _ _ _ hf h => facts_fit Tryz.underlying23 Tryz.underlying64 (by kernel_rfl) Tryz.underlying3 (by kernel_rfl) hf h) hf h)
    (fun _ _ _ hf h => ints_fit Tryz.underlying26 Tryz.underlying3 (by kernel_rfl) (by kernel_rfl) hf h) (fun _ _ _ hf h => spots_fit Tryz.underlying27 (by kernel_rfl) (by kernel_rfl) (fun _ _ _ hf h => spotP_fit hf h) hf h) hv hf h
end
theorem gNone : Tryz.prog.globalNamed "steening/shafts.none" = some 0 := by kernel_rfl
theorem tNone : (Tryz.prog.globals[0]?).map (·.type) = some 161 := by kernel_rfl
theorem laid_both {W : World} (h : laidMetH Tryz.prog [("math/bits.deBruijn32tab", Rows.laid_math_bits_deBruijn32tab), ("math/bits.deBruijn64tab", Rows.laid_math_bits_deBruijn64tab), ("steening/shafts.none", Rows.laid_steening_shafts_none)] W) : TabAt W ∧ NoneAt W := by
  rw [MakeChecks.laidMetH_plain _ _ _ (by kernel_rfl)] at h
  obtain ⟨ps, ⟨g0, t0, cs0, f0, p0, q0, _, _, _, _, ⟨g1, t1, cs1, f1, p1, q1, hg1, ht1, hv1, hd1, ⟨g2, t2, cs2, f2, p2, q2, hg2, ht2, hv2, hd2, _⟩, _⟩, _⟩, _, _⟩ := h
  obtain rfl := Option.some.inj (gTab.symm.trans hg1)
  obtain rfl := Option.some.inj (tTab.symm.trans ht1)
  obtain rfl := Option.some.inj (gNone.symm.trans hg2)
  obtain rfl := Option.some.inj (tNone.symm.trans ht2)
  have hc : ∀ i, W.cell? ⟨2, i, none⟩ = cs1[i]? := fun i => World.var?_cell gTab hv1 i
  have key : ∀ (j : Nat) (v : Int), j < 64 → (match (Rows.laid_math_bits_deBruijn64tab : DataW Unit) with | .agg ds => ds[j]? | _ => none) = some (.lit (.int .u8 v)) → W.cell? ⟨2, j, none⟩ = some (.int .u8 v) := fun j v hj hd => by
    rw [hc j, ← Array.getElem?_toList]
    exact bytes_in Tryz.underlying223 Tryz.underlying5 (by kernel_rfl) hd1 rfl hj hd
  obtain ⟨a, b, c, e, hx⟩ := three_ints Tryz.underlying161 (by kernel_rfl) Tryz.underlying3 hd2
  have hx1 := congrArg Prod.fst hx
  unfold Rows.laid_steening_shafts_none at hx1
  simp only [DataW.agg.injEq, List.cons.injEq, DataW.lit.injEq, Lit.int.injEq, true_and, and_true] at hx1
  obtain ⟨rfl, rfl, rfl⟩ := hx1
  have hc2 : ∀ i, W.cell? ⟨0, i, none⟩ = cs2[i]? := fun i => World.var?_cell gNone hv2 i
  have hl : cs2 = #[.int .i64 (-1), .int .i64 0, .int .i64 0] := by
    cases cs2
    simp only at e
    rw [e]
  rw [hl] at hc2
  refine ⟨⟨World.block_lt_of_cell? W ⟨2, 0, none⟩ (key 0 0 (by decide) rfl), fun j hj => ?_⟩, ⟨World.block_lt_of_cell? W ⟨0, 0, none⟩ (hc2 0), hc2 0, hc2 1, hc2 2⟩⟩
  match j, hj with
  | 0, _ => exact key 0 0 (by decide) rfl
  | 1, _ => exact key 1 1 (by decide) rfl
  | 2, _ => exact key 3 2 (by decide) rfl
  | 3, _ => exact key 7 3 (by decide) rfl
  | 4, _ => exact key 15 4 (by decide) rfl
  | 5, _ => exact key 31 5 (by decide) rfl
theorem door_metP (os : Os) (args : Array Value) : laidMetH Tryz.prog [("math/bits.deBruijn32tab", Rows.laid_math_bits_deBruijn32tab), ("math/bits.deBruijn64tab", Rows.laid_math_bits_deBruijn64tab), ("steening/shafts.none", Rows.laid_steening_shafts_none)] ((World.doorLaid Tryz.prog 400 os).forCall (fun _ _ => 0) ⟨#[], args, []⟩).memory :=
  laidMetH_of_parts3 (fuel := 8) (laidMet_of_run' 8 (by kernel_rfl) (by kernel_rfl)) (by kernel_rfl) (by kernel_rfl)
end Go.Proofs.YtjpfdhhiofjpbaaGreatDoor
/- Facts of the program alone that the cards ask for, each apart: together they outgrow the lid on memory. No condition. -/
namespace Go.Proofs.YtjpfdhhiofjpbaaGreatDoor
open Go.RowKit
theorem bandP {a b : Bool} (h : a = true) (k : b = true) : (a && b) = true := by rw [h, k]; rfl
theorem mayP : Tryz.pinned.checked.prog.mayEnter = true := by kernel_rfl
theorem liftsP : (false == Tryz.pinned.checked.prog.liftsFinal) = true := by kernel_rfl
theorem makeP : (Tryz.pinned.checked.prog.make == some .cut) = true := by kernel_rfl
theorem mainP : Tryz.pinned.checked.prog.mainIs = some (true, "69048db090a3b34bcb19ed5fa0d07e2e54e2c7327e62030076f747f695d83a78".toList) := by kernel_rfl
theorem looksP : false = Tryz.pinned.checked.prog.looks [] := by kernel_rfl
end Go.Proofs.YtjpfdhhiofjpbaaGreatDoor
/- Walks of slices.IndexFunc and ContainsFunc over spots, whatever function they are handed, by its contract (printed by mkPB.py). -/
namespace Go.Proofs.YtjpfdhhiofjpbaaGreatDoor
open Go.RowKit Go.Sort
set_option maxHeartbeats 4000000 in
set_option maxRecDepth 100000 in
theorem index_spot (A : Option Addr) (n c f : Nat) (cs : Array Value) (g : Nat → Spot) (p : Nat → Bool) (w : World) (hn : n ≤ 9223372036854775807) (hr : SpotsAt w A n g) (hcf : Enters f)
    (hf : ∀ i, i < n → ∀ w', Below w.heap.size w w' → ∀ (Ar Af Aw : Option Addr) (cr cf cw : Nat), ShAt w' Ar Af (g i).sh → RowsAt w' Aw (g i).fl → Calls Tryz.prog f (#[.agg #[.int .i64 (g i).at_, .slice Ar (g i).sh.nr cr, .slice Af (g i).sh.nf cf, .int .i64 (g i).sh.deep, .int .i64 (g i).sh.haul, .int .i64 (g i).sh.rest, .slice Aw (g i).fl.n cw]] ++ cs) w' fun e w'' => e = .returned (.bool (p i)) ∧ Below w'.heap.size w' w'') :
    Calls Tryz.prog 145 #[.slice A n c, .func (.func f) #[] cs] w (Found (anyB p n) w) := by
  have HC := Lib.hid hr
  have HF := Lib.hid hf
  unfold Enters at hcf
  clear hr hf
  go_enter Tryz.func145, Tryz.ntmps145
  go_wp2_with fail
  go_loopw [5, 8] (fun _ i wr => ∃ k : Nat, k ≤ n ∧ i = .int .i64 k ∧ anyB p k = false ∧ Below w.heap.size w wr) (fun _ i _ => n - (intOf i).toNat)
  case atStart => exact ⟨0, Nat.zero_le _, rfl, rfl, Below.refl _ _⟩
  case round =>
    obtain ⟨k, hk, rfl, hno, hbel⟩ := hrel
    have HN := Lib.hid hno
    have HL := Lib.hid hbel
    clear hno
    by_cases hlt : k < n
    · rcases HC.out with h0 | ⟨b, o, hA, hb, hcell⟩
      · omega
      obtain ⟨Ar, Af, Aw, cr, cf, cw, hsh, hfl, c0, c1, c2, c3, c4, c5, c6⟩ := hcell k hlt
      have HK := Lib.hid hlt
      obtain ⟨bk, hbk⟩ : ∃ bk, p k = bk := ⟨_, rfl⟩
      have HCC := Lib.hid (hbk ▸ HF.out k HK.out _ hbel Ar Af Aw cr cf cw (hsh.mono hbel) (hfl.mono hbel) : Calls Tryz.prog f (#[.agg #[.int .i64 (g k).at_, .slice Ar (g k).sh.nr cr, .slice Af (g k).sh.nf cf, .int .i64 (g k).sh.deep, .int .i64 (g k).sh.haul, .int .i64 (g k).sh.rest, .slice Aw (g k).fl.n cw]] ++ cs) wr fun e w'' => e = .returned (.bool bk) ∧ Below wr.heap.size wr w'')
      have HBK := Lib.hid hbk
      clear hbk hcell hsh hfl
      subst hA
      obtain ⟨bc, bf⟩ := bcell hbel
      go_wp2_with fail
      refine HCC.out.mono ?_
      rintro e w4 ⟨rfl, hb4⟩
      have HL4 := Lib.hid (bTrans HL.out hb4)
      clear hb4 hbel
      cases bk
      · go_wp2_with fail
        go_roundw
        case rel => exact ⟨k + 1, by omega, by go_num, anyB_step HN.out HBK.out, HL4.out⟩
        case measure => simp [intOf]; omega
      · go_wp2_with fail
        go_ret
        exact ⟨k, rfl, by rw [anyB_hit HK.out HBK.out]; simp, HL4.out⟩
    · obtain rfl : k = n := by omega
      go_wp2_with fail
      go_ret
      exact ⟨-1, rfl, by simp [HN.out], hbel⟩
theorem contains_spot (A : Option Addr) (n c f : Nat) (cs : Array Value) (g : Nat → Spot) (p : Nat → Bool) (w : World) (hn : n ≤ 9223372036854775807) (hr : SpotsAt w A n g) (hcf : Enters f)
    (hf : ∀ i, i < n → ∀ w', Below w.heap.size w w' → ∀ (Ar Af Aw : Option Addr) (cr cf cw : Nat), ShAt w' Ar Af (g i).sh → RowsAt w' Aw (g i).fl → Calls Tryz.prog f (#[.agg #[.int .i64 (g i).at_, .slice Ar (g i).sh.nr cr, .slice Af (g i).sh.nf cf, .int .i64 (g i).sh.deep, .int .i64 (g i).sh.haul, .int .i64 (g i).sh.rest, .slice Aw (g i).fl.n cw]] ++ cs) w' fun e w'' => e = .returned (.bool (p i)) ∧ Below w'.heap.size w' w'') :
    Calls Tryz.prog 81 #[.slice A n c, .func (.func f) #[] cs] w fun e w' => e = .returned (.bool (anyB p n)) ∧ Below w.heap.size w w' := by
  go_enter Tryz.func81, Tryz.ntmps81
  go_wp2_with (go_at_call 145; refine (index_spot A n c f cs g p _ hn hr hcf hf).mono ?_; rintro e w' ⟨k, rfl, hk, hb⟩; have HK := Lib.hid hk; clear hk)
  all_goals
    go_ret
    exact ⟨ret_bool (by rw [← HK.out]), hb⟩
end Go.Proofs.YtjpfdhhiofjpbaaGreatDoor
/- Walks of the reference 05: Copy. Conditions: what is read fits into memory. -/
namespace Go.Proofs.YtjpfdhhiofjpbaaGreatDoor
open Go.RowKit Go.Sort
theorem WdK.one {w : World} {u : Value} {x : Wd} (h : WdK w u x) : u.oneCell' = true := by
  obtain ⟨A, c, vs, rfl, _⟩ := h
  rfl
end Go.Proofs.YtjpfdhhiofjpbaaGreatDoor
/- Boxes of the call's own, read cell by cell. No program in sight. -/
namespace Go.Proofs.YtjpfdhhiofjpbaaGreatDoor
open Go.RowKit Go.Sort
section
variable {w : World} {b : Nat} {t : TypeId}
theorem TBox.c1 {x : Value} (h : TBox w b t #[x]) : w.cell? ⟨b, 0, none⟩ = some x ∧ b < w.heap.size := ⟨h.cell 0, h.lt⟩
theorem TBox.c2 {x y : Value} (h : TBox w b t #[x, y]) : w.cell? ⟨b, 0, none⟩ = some x ∧ w.cell? ⟨b, 1, none⟩ = some y ∧ b < w.heap.size := ⟨h.cell 0, h.cell 1, h.lt⟩
theorem TBox.c3 {x y z : Value} (h : TBox w b t #[x, y, z]) : w.cell? ⟨b, 0, none⟩ = some x ∧ w.cell? ⟨b, 1, none⟩ = some y ∧ w.cell? ⟨b, 2, none⟩ = some z ∧ b < w.heap.size := ⟨h.cell 0, h.cell 1, h.cell 2, h.lt⟩
end
def Upto (w0 w : World) : Prop := Below w0.heap.size w0 w
theorem Upto.mono {w0 w w' : World} (h : Upto w0 w) (hb : Below w.heap.size w w') : Upto w0 w' := bTrans h hb
end Go.Proofs.YtjpfdhhiofjpbaaGreatDoor
/- Boxes of six to ten cells, read cell by cell. No program in sight. -/
namespace Go.Proofs.YtjpfdhhiofjpbaaGreatDoor
open Go.RowKit Go.Sort
section
variable {w : World} {b : Nat} {t : TypeId}
theorem TBox.c7 {x0 x1 x2 x3 x4 x5 x6 : Value} (h : TBox w b t #[x0, x1, x2, x3, x4, x5, x6]) : w.cell? ⟨b, 0, none⟩ = some x0 ∧ w.cell? ⟨b, 1, none⟩ = some x1 ∧ w.cell? ⟨b, 2, none⟩ = some x2 ∧ w.cell? ⟨b, 3, none⟩ = some x3 ∧ w.cell? ⟨b, 4, none⟩ = some x4 ∧ w.cell? ⟨b, 5, none⟩ = some x5 ∧ w.cell? ⟨b, 6, none⟩ = some x6 ∧ b < w.heap.size := ⟨h.cell 0, h.cell 1, h.cell 2, h.cell 3, h.cell 4, h.cell 5, h.cell 6, h.lt⟩
theorem TBox.c9 {x0 x1 x2 x3 x4 x5 x6 x7 x8 : Value} (h : TBox w b t #[x0, x1, x2, x3, x4, x5, x6, x7, x8]) : w.cell? ⟨b, 0, none⟩ = some x0 ∧ w.cell? ⟨b, 1, none⟩ = some x1 ∧ w.cell? ⟨b, 2, none⟩ = some x2 ∧ w.cell? ⟨b, 3, none⟩ = some x3 ∧ w.cell? ⟨b, 4, none⟩ = some x4 ∧ w.cell? ⟨b, 5, none⟩ = some x5 ∧ w.cell? ⟨b, 6, none⟩ = some x6 ∧ w.cell? ⟨b, 7, none⟩ = some x7 ∧ w.cell? ⟨b, 8, none⟩ = some x8 ∧ b < w.heap.size := ⟨h.cell 0, h.cell 1, h.cell 2, h.cell 3, h.cell 4, h.cell 5, h.cell 6, h.cell 7, h.cell 8, h.lt⟩
theorem TBox.c10 {x0 x1 x2 x3 x4 x5 x6 x7 x8 x9 : Value} (h : TBox w b t #[x0, x1, x2, x3, x4, x5, x6, x7, x8, x9]) : w.cell? ⟨b, 0, none⟩ = some x0 ∧ w.cell? ⟨b, 1, none⟩ = some x1 ∧ w.cell? ⟨b, 2, none⟩ = some x2 ∧ w.cell? ⟨b, 3, none⟩ = some x3 ∧ w.cell? ⟨b, 4, none⟩ = some x4 ∧ w.cell? ⟨b, 5, none⟩ = some x5 ∧ w.cell? ⟨b, 6, none⟩ = some x6 ∧ w.cell? ⟨b, 7, none⟩ = some x7 ∧ w.cell? ⟨b, 8, none⟩ = some x8 ∧ w.cell? ⟨b, 9, none⟩ = some x9 ∧ b < w.heap.size := ⟨h.cell 0, h.cell 1, h.cell 2, h.cell 3, h.cell 4, h.cell 5, h.cell 6, h.cell 7, h.cell 8, h.cell 9, h.lt⟩
end
end Go.Proofs.YtjpfdhhiofjpbaaGreatDoor
