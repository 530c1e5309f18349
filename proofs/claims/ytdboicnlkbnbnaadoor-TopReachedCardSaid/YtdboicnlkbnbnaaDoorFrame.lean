/- The frame of the statement: how a town of levels, a shaft and a sounding that came in read; what the listed variable holds; that all reads afterwards as before. No condition. -/
import Derived.Test.YtdboicnlkbnbnaaDoorTie
import Derived.Test.YtdboicnlkbnbnaaDoorLvP
import Derived.ProofKit
import Derived.LaidMore
import Derived.OpenShut
import Derived.Deep.Slices
import Derived.Deep.Fields
import Derived.Stop.Joined
namespace Go.Proofs.YtdboicnlkbnbnaaDoor
open Go.RowKit Go.Sort Go.ChangeShapes Go.WideShapes Go.ChangeAt Go.Deep
theorem ownK : ownKnob Tryd.prog.godebug = none := by kernel_rfl
theorem laidOutP : laidOutB Tryd.prog = true := by kernel_rfl
theorem gNone : Tryd.prog.globalNamed "steening/shafts.none" = some 0 := by kernel_rfl
theorem tNone : (Tryd.prog.globals[0]?).map (·.type) = some 72 := by kernel_rfl
theorem door_met (os : Os) (args : Array Value) : laidMetH Tryd.prog [("steening/shafts.none", Rows.laid_steening_shafts_none)] ((World.doorLaid Tryd.prog 400 os).forCall (fun _ _ => 0) ⟨#[], args, []⟩).memory :=
  laidMetH_of_parts3 (fuel := 8) (laidMet_of_run' 8 (by kernel_rfl) (by kernel_rfl)) (by kernel_rfl) (by kernel_rfl)
theorem three_ints {H : Type} {enc : TypeId × Value → H} {P : Program} {w : World} {base : Nat} {sp : Nat → Bool} {held : Bool} {t ti : TypeId} {f0 f1 f2 : Field} {fuel : Nat} {cs : List Value} {x : DataW H × List MemPlace} (ht : P.underlying t = some (.struct #[f0, f1, f2])) (hone : oneCellFields P #[f0, f1, f2] = true && (f0.type == ti && f1.type == ti && f2.type == ti) && P.cellsOf t == 3)
    (hi : P.underlying ti = some (.int .i64)) (h : DataW.trod enc P w base sp held fuel t cs = some x) : ∃ a b c, cs = [.int .i64 a, .int .i64 b, .int .i64 c] ∧ x = (.agg [.lit (.int .i64 a), .lit (.int .i64 b), .lit (.int .i64 c)], []) := by
  simp only [Bool.and_eq_true, beq_iff_eq, decide_eq_true_eq] at hone
  obtain ⟨⟨ho, ⟨e0, e1⟩, e2⟩, hC⟩ := hone
  obtain ⟨xs, n, _, hx, hlen, hxl, hg⟩ := DataW.trod_struct ht h
  obtain ⟨o0, k0⟩ := hone_of ho 0 f0 rfl
  obtain ⟨o1, k1⟩ := hone_of ho 1 f1 rfl
  obtain ⟨o2, k2⟩ := hone_of ho 2 f2 rfl
  match cs, hlen.trans hC, xs, hxl with
  | [c0, c1, c2], _, [y0, y1, y2], _ =>
    have g0 := hg 0 f0 rfl
    have g1 := hg 1 f1 rfl
    have g2 := hg 2 f2 rfl
    rw [o0, k0] at g0
    rw [o1, k1] at g1
    rw [o2, k2] at g2
    rw [e0] at g0
    rw [e1] at g1
    rw [e2] at g2
    simp only [List.drop_zero, List.take_succ_cons, List.take_zero, List.drop_succ_cons, List.getElem?_cons_zero, List.getElem?_cons_succ] at g0 g1 g2
    obtain ⟨a, h0, h0', _⟩ := DataW.trod_int hi g0
    obtain ⟨b, h1, h1', _⟩ := DataW.trod_int hi g1
    obtain ⟨c, h2, h2', _⟩ := DataW.trod_int hi g2
    injection h0 with h0
    injection h1 with h1
    injection h2 with h2
    subst h0 h1 h2 h0' h1' h2'
    exact ⟨a, b, c, rfl, hx⟩
theorem none_of_laid {W : World} (h : laidMetH Tryd.prog [("steening/shafts.none", Rows.laid_steening_shafts_none)] W) : NoneAt W := by
  rw [MakeChecks.laidMetH_plain _ _ _ (by kernel_rfl)] at h
  obtain ⟨ps, ⟨g0, t0, cs0, f0, p0, q0, hg0, ht0, hv0, hd0, _⟩, _, _⟩ := h
  obtain rfl := Option.some.inj (gNone.symm.trans hg0)
  obtain rfl := Option.some.inj (tNone.symm.trans ht0)
  obtain ⟨a, b, c, e, hx⟩ := three_ints Tryd.underlying72 (by kernel_rfl) Tryd.underlying3 hd0
  have hx1 := congrArg Prod.fst hx
  unfold Rows.laid_steening_shafts_none at hx1
  simp only [DataW.agg.injEq, List.cons.injEq, DataW.lit.injEq, Lit.int.injEq, true_and, and_true] at hx1
  obtain ⟨rfl, rfl, rfl⟩ := hx1
  have hc : ∀ i, W.cell? ⟨0, i, none⟩ = cs0[i]? := fun i => World.var?_cell gNone hv0 i
  have hl : cs0 = #[.int .i64 (-1), .int .i64 0, .int .i64 0] := by
    cases cs0
    simp only at e
    rw [e]
  rw [hl] at hc
  exact ⟨World.block_lt_of_cell? W ⟨0, 0, none⟩ (hc 0), hc 0, hc 1, hc 2⟩
section
variable {H : Type} {enc : TypeId × Value → H} {P : Program}
/-- what came in reads as before, if nothing of it has turned -/
theorem trodAll_stays (hl : laidOutB P = true) {W W' : World} {sp : Nat → Bool} (hb : Below W.heap.size W W') : ∀ {ts : List TypeId} {vs : List Value} {ds : List (DataW H)} {ps : List MemPlace},
    (∀ t ∈ ts, P.readableRec t = true ∧ t < P.types.size) → DataW.TrodAll enc P W 0 (fun _ => true) true ts vs ds ps → (∀ p ∈ ps, p.block < W.heap.size) → (∀ p ∈ ps, sp p.block = true) → DataW.TrodAll enc P W' 0 sp true ts vs ds ps
  | [], [], [], ps, _, h, _, _ => h
  | t :: ts, v :: vs, d :: ds, ps, ht, h, hlt, hsp => by
    obtain ⟨p, q, h1, h2, rfl⟩ := h
    exact ⟨p, q, WideElems.Trod_stays hl (ht t (by simp)).1 (ht t (by simp)).2 h1 (fun x hx => hb.same (hlt x (by simp [hx]))) (fun x hx => hsp x (by simp [hx])),
      trodAll_stays hl hb (fun u hu => ht u (by simp [hu])) h2 (fun x hx => hlt x (by simp [hx])) (fun x hx => hsp x (by simp [hx])), rfl⟩
  | [], [], _ :: _, _, _, h, _, _ => h.elim
  | [], _ :: _, _, _, _, h, _, _ => h.elim
  | _ :: _, [], _, _, _, h, _, _ => h.elim
  | _ :: _, _ :: _, [], _, _, h, _, _ => h.elim
/-- a law that has returned true, and has left all as it was -/
theorem post_law {f : Func} {s : ChangeSpec} {W W' : World} {args : Array Value} {ds : List (DataW H)} {before : List MemPlace} (hl : laidOutB P = true) (hv : s.vars = []) {tb : TypeId} (hbool : P.underlying tb = some .bool) (hres : f.resultTypes = #[tb])
    (hts : ∀ t ∈ f.params.toList, P.readableRec t = true ∧ t < P.types.size) (hfn : s.fn H (ds ++ []) = { results := [.lit (.bool true)], args := ds })
    (hW : DataW.Whole enc P f.params.toList s.vars false W args.toList ds [] before) (hb : Below W.heap.size W W') : s.post enc P f false true false false W args (.bool true) W' := by
  have hlt : ∀ p ∈ before, p.block < W.heap.size := fun p hp => hW.lt p hp
  obtain ⟨p, q, hA, hV, hpq, hz, hn⟩ := id hW
  rw [hv] at hV
  have hq : q = [] := hV
  subst hq
  rw [List.append_nil] at hpq
  subst hpq
  have hok : ∀ (j : Nat) (t : TypeId) (r : Value), f.resultTypes[j]? = some t → ((Value.bool true).resultList f.resultTypes.size)[j]? = some r → Value.okWide P W' .any 0 t r := ok_one hres rfl (okWide_bool_mk hbool _)
  have hbt : ∀ (b : Nat) (sp : Nat → Bool) (hd : Bool), DataW.TrodAll enc P W' b sp hd f.resultTypes.toList ((Value.bool true).resultList f.resultTypes.size) (s.fn H (ds ++ [])).results [] := fun b sp hd => by
    rw [hres, hfn]; exact trodAll_mk1 (shut_bool hbool _)
  have harg : ∀ sp : Nat → Bool, (∀ x ∈ before, sp x.block = true) → DataW.TrodAll enc P W' 0 sp true f.params.toList args.toList (s.fn H (ds ++ [])).args before := fun sp hsp => by
    rw [hfn]; exact trodAll_stays hl hb hts hA hlt hsp
  have hvar : ∀ sp : Nat → Bool, DataW.TrodVars enc P W' sp s.vars (s.fn H (ds ++ [])).vars [] := fun sp => by
    rw [hv, hfn]; exact rfl
  refine ⟨ds, [], before, [], before, [], hW, hbt _ _ _, harg _ (fun x hx => by simpa using hlt x hx), hvar _, World.keptBut_mono (fun x hx => ⟨hx, .inr (by simpa using hx)⟩) (hb.frame (· ∈ before)), fun _ => ?_⟩
  refine ⟨hok, _, _, [] ++ before, ⟨[] ++ before, [], trodAll_append (harg _ (fun _ _ => rfl)) (hbt _ _ _), hvar _, by simp, ?_, fun h => by cases h⟩, fun x hx _ => by simpa using hx⟩
  intro b off hp
  have hp' : MemPlace.cell b off ∈ before := by simpa using hp
  rw [hb.frozen (p := ⟨b, off, none⟩) (hlt _ hp')]
  exact hz b off hp'
end
/-! ### A shaft that came in -/
def intAt (w : World) (p : Addr) : Int := match w.cell? p with | some (.int _ n) => n | _ => 0
theorem add_none (b o j : Nat) : (⟨b, o, none⟩ : Addr).add j = ⟨b, o + j, none⟩ := by unfold Addr.add; split <;> simp_all
section
variable {H : Type} {enc : TypeId × Value → H} {P : Program} {w : World} {base : Nat} {sp : Nat → Bool} {held : Bool}
theorem four_ints {t ti : TypeId} {f0 f1 f2 f3 : Field} {fuel : Nat} {cs : List Value} {x : DataW H × List MemPlace} (ht : P.underlying t = some (.struct #[f0, f1, f2, f3])) (hone : oneCellFields P #[f0, f1, f2, f3] = true && (f0.type == ti && f1.type == ti && f2.type == ti && f3.type == ti) && P.cellsOf t == 4)
    (hi : P.underlying ti = some (.int .i64)) (h : DataW.trod enc P w base sp held fuel t cs = some x) : ∃ a b c d, cs = [.int .i64 a, .int .i64 b, .int .i64 c, .int .i64 d] := by
  simp only [Bool.and_eq_true, beq_iff_eq, decide_eq_true_eq] at hone
  obtain ⟨⟨ho, ⟨⟨e0, e1⟩, e2⟩, e3⟩, hC⟩ := hone
  obtain ⟨xs, n, _, hx, hlen, hxl, hg⟩ := DataW.trod_struct ht h
  obtain ⟨o0, k0⟩ := hone_of ho 0 f0 rfl
  obtain ⟨o1, k1⟩ := hone_of ho 1 f1 rfl
  obtain ⟨o2, k2⟩ := hone_of ho 2 f2 rfl
  obtain ⟨o3, k3⟩ := hone_of ho 3 f3 rfl
  match cs, hlen.trans hC, xs, hxl with
  | [c0, c1, c2, c3], _, [y0, y1, y2, y3], _ =>
    have g0 := hg 0 f0 rfl
    have g1 := hg 1 f1 rfl
    have g2 := hg 2 f2 rfl
    have g3 := hg 3 f3 rfl
    rw [o0, k0, e0] at g0
    rw [o1, k1, e1] at g1
    rw [o2, k2, e2] at g2
    rw [o3, k3, e3] at g3
    simp only [List.drop_zero, List.take_succ_cons, List.take_zero, List.drop_succ_cons, List.getElem?_cons_zero, List.getElem?_cons_succ] at g0 g1 g2 g3
    obtain ⟨a, h0, _⟩ := DataW.trod_int hi g0
    obtain ⟨b, h1, _⟩ := DataW.trod_int hi g1
    obtain ⟨c, h2, _⟩ := DataW.trod_int hi g2
    obtain ⟨d, h3, _⟩ := DataW.trod_int hi g3
    injection h0 with h0
    injection h1 with h1
    injection h2 with h2
    injection h3 with h3
    subst h0 h1 h2 h3
    exact ⟨a, b, c, d, rfl⟩
/-- a slice that came in: its length, its capacity, its address -/
def SliceIn (A : Option Addr) (n c : Nat) : Prop := n ≤ c ∧ c ≤ 9223372036854775807 ∧ (A = none → n = 0 ∧ c = 0)
theorem ints_in {t e : TypeId} {fuel : Nat} {cs : List Value} {x : DataW H × List MemPlace} (ht : P.underlying t = some (.slice e)) (hi : P.underlying e = some (.int .i64)) (hc : P.cellsOf e = 1) (h : DataW.trod enc P w base sp held fuel t cs = some x) :
    ∃ A n c g, cs = [.slice A n c] ∧ IntsAt w A n g ∧ SliceIn A n c := by
  rcases open_slice1 ht hc h with ⟨h0, _⟩ | ⟨a, len, cap, m, n, V, D, Pl, hcs, hb, hl, hm, hmm, hx, hel⟩
  · exact ⟨none, 0, 0, fun _ => 0, h0, .inl rfl, Nat.le_refl _, by omega, fun _ => ⟨rfl, rfl⟩⟩
  · have hlm : len ≤ m := by rw [hmm]; split <;> omega
    have hin : SliceIn (some a) len cap := ⟨hl, by unfold maxLen at hm; exact hm, fun h => by cases h⟩
    rcases Nat.eq_zero_or_pos len with h0 | h0
    · subst h0; exact ⟨_, 0, cap, fun _ => 0, hcs, .inl rfl, hin⟩
    · have h1 := (hel 0 (by omega)).1
      have hs : a.spot = none := by simpa [Addr.add] using World.cell?_spot h1
      obtain ⟨b, o, s⟩ := a
      simp only at hs
      subst hs
      refine ⟨_, len, cap, fun i => intAt w ⟨b, o + i, none⟩, hcs, .inr ⟨b, o, rfl, World.block_lt_of_cell? w _ (by simpa [Addr.add] using h1), fun i hi' => ?_⟩, hin⟩
      obtain ⟨g1, g2⟩ := hel i (by omega)
      obtain ⟨k, hk, _⟩ := DataW.trod_int hi g2
      injection hk with hk
      rw [add_none, hk] at g1
      simp only [intAt, g1]
theorem rocks_in {t e ti : TypeId} {f0 f1 f2 f3 : Field} {fuel : Nat} {cs : List Value} {x : DataW H × List MemPlace} (ht : P.underlying t = some (.slice e)) (he : P.underlying e = some (.struct #[f0, f1, f2, f3])) (hone : oneCellFields P #[f0, f1, f2, f3] = true && (f0.type == ti && f1.type == ti && f2.type == ti && f3.type == ti) && P.cellsOf e == 4)
    (hi : P.underlying ti = some (.int .i64)) (h : DataW.trod enc P w base sp held fuel t cs = some x) : ∃ A n c f, cs = [.slice A n c] ∧ RocksAt w A n f ∧ SliceIn A n c := by
  have hC : P.cellsOf e = 4 := by
    simp only [Bool.and_eq_true, beq_iff_eq] at hone
    exact hone.2
  rcases open_slice ht h with ⟨h0, _⟩ | ⟨a, len, cap, m, n, D, Pl, hcs, hb, hl, hm, hmm, hx, hel⟩
  · exact ⟨none, 0, 0, fun _ => default, h0, .inl rfl, Nat.le_refl _, by omega, fun _ => ⟨rfl, rfl⟩⟩
  · have hlm : len ≤ m := by rw [hmm]; split <;> omega
    have hin : SliceIn (some a) len cap := ⟨hl, by unfold maxLen at hm; exact hm, fun h => by cases h⟩
    rw [hC] at hel
    rcases Nat.eq_zero_or_pos len with h0 | h0
    · subst h0; exact ⟨_, 0, cap, fun _ => default, hcs, .inl rfl, hin⟩
    · have each : ∀ i, i < m → ∃ k0 k1 k2 k3 : Int, w.cell? ((a.add (i * 4)).add 0) = some (.int .i64 k0) ∧ w.cell? ((a.add (i * 4)).add 1) = some (.int .i64 k1) ∧ w.cell? ((a.add (i * 4)).add 2) = some (.int .i64 k2) ∧ w.cell? ((a.add (i * 4)).add 3) = some (.int .i64 k3) := fun i him => by
        obtain ⟨cs', h1, h2⟩ := hel i him
        obtain ⟨_, hlen, hcell⟩ := World.cells?_some h1
        obtain ⟨k0, k1, k2, k3, rfl⟩ := four_ints he hone hi h2
        exact ⟨k0, k1, k2, k3, hcell 0 (by omega), hcell 1 (by omega), hcell 2 (by omega), hcell 3 (by omega)⟩
      obtain ⟨_, _, _, _, h1, _⟩ := each 0 (by omega)
      have hs : a.spot = none := by simpa [Addr.add] using World.cell?_spot h1
      obtain ⟨b, o, s⟩ := a
      simp only at hs
      subst hs
      refine ⟨_, len, cap, fun i => ⟨intAt w ⟨b, o + i * 4, none⟩, intAt w ⟨b, o + i * 4 + 1, none⟩, intAt w ⟨b, o + i * 4 + 2, none⟩, intAt w ⟨b, o + i * 4 + 3, none⟩⟩, hcs, .inr ⟨b, o, rfl, World.block_lt_of_cell? w _ (by simpa [Addr.add] using h1), fun i hi' => ?_⟩, hin⟩
      obtain ⟨k0, k1, k2, k3, c0, c1, c2, c3⟩ := each i (by omega)
      rw [add_none, add_none] at c0 c1 c2 c3
      simp only [Nat.add_zero] at c0
      simp only [intAt, c0, c1, c2, c3]
      exact ⟨trivial, trivial, trivial, trivial⟩
theorem slps_in {t e ti : TypeId} {f0 f1 f2 f3 : Field} {fuel : Nat} {cs : List Value} {x : DataW H × List MemPlace} (ht : P.underlying t = some (.slice e)) (he : P.underlying e = some (.struct #[f0, f1, f2, f3])) (hone : oneCellFields P #[f0, f1, f2, f3] = true && (f0.type == ti && f1.type == ti && f2.type == ti && f3.type == ti) && P.cellsOf e == 4)
    (hi : P.underlying ti = some (.int .i64)) (h : DataW.trod enc P w base sp held fuel t cs = some x) : ∃ A n c f, cs = [.slice A n c] ∧ SlpsAt w A n f ∧ SliceIn A n c := by
  have hC : P.cellsOf e = 4 := by
    simp only [Bool.and_eq_true, beq_iff_eq] at hone
    exact hone.2
  rcases open_slice ht h with ⟨h0, _⟩ | ⟨a, len, cap, m, n, D, Pl, hcs, hb, hl, hm, hmm, hx, hel⟩
  · exact ⟨none, 0, 0, fun _ => ⟨0, 0, 0, 0⟩, h0, .inl rfl, Nat.le_refl _, by omega, fun _ => ⟨rfl, rfl⟩⟩
  · have hlm : len ≤ m := by rw [hmm]; split <;> omega
    have hin : SliceIn (some a) len cap := ⟨hl, by unfold maxLen at hm; exact hm, fun h => by cases h⟩
    rw [hC] at hel
    rcases Nat.eq_zero_or_pos len with h0 | h0
    · subst h0; exact ⟨_, 0, cap, fun _ => ⟨0, 0, 0, 0⟩, hcs, .inl rfl, hin⟩
    · have each : ∀ i, i < m → ∃ k0 k1 k2 k3 : Int, w.cell? ((a.add (i * 4)).add 0) = some (.int .i64 k0) ∧ w.cell? ((a.add (i * 4)).add 1) = some (.int .i64 k1) ∧ w.cell? ((a.add (i * 4)).add 2) = some (.int .i64 k2) ∧ w.cell? ((a.add (i * 4)).add 3) = some (.int .i64 k3) := fun i him => by
        obtain ⟨cs', h1, h2⟩ := hel i him
        obtain ⟨_, hlen, hcell⟩ := World.cells?_some h1
        obtain ⟨k0, k1, k2, k3, rfl⟩ := four_ints he hone hi h2
        exact ⟨k0, k1, k2, k3, hcell 0 (by omega), hcell 1 (by omega), hcell 2 (by omega), hcell 3 (by omega)⟩
      obtain ⟨_, _, _, _, h1, _⟩ := each 0 (by omega)
      have hs : a.spot = none := by simpa [Addr.add] using World.cell?_spot h1
      obtain ⟨b, o, s⟩ := a
      simp only at hs
      subst hs
      refine ⟨_, len, cap, fun i => ⟨intAt w ⟨b, o + i * 4, none⟩, intAt w ⟨b, o + i * 4 + 1, none⟩, intAt w ⟨b, o + i * 4 + 2, none⟩, intAt w ⟨b, o + i * 4 + 3, none⟩⟩, hcs, .inr ⟨b, o, rfl, World.block_lt_of_cell? w _ (by simpa [Addr.add] using h1), fun i hi' => ?_⟩, hin⟩
      obtain ⟨k0, k1, k2, k3, c0, c1, c2, c3⟩ := each i (by omega)
      rw [add_none, add_none] at c0 c1 c2 c3
      simp only [Nat.add_zero] at c0
      simp only [intAt, c0, c1, c2, c3]
      exact ⟨trivial, trivial, trivial, trivial⟩
theorem snds_in {t e ti : TypeId} {f0 f1 f2 : Field} {fuel : Nat} {cs : List Value} {x : DataW H × List MemPlace} (ht : P.underlying t = some (.slice e)) (he : P.underlying e = some (.struct #[f0, f1, f2])) (hone : oneCellFields P #[f0, f1, f2] = true && (f0.type == ti && f1.type == ti && f2.type == ti) && P.cellsOf e == 3)
    (hi : P.underlying ti = some (.int .i64)) (h : DataW.trod enc P w base sp held fuel t cs = some x) : ∃ A n c f, cs = [.slice A n c] ∧ SndsAt w A n f ∧ SliceIn A n c := by
  have hC : P.cellsOf e = 3 := by
    simp only [Bool.and_eq_true, beq_iff_eq] at hone
    exact hone.2
  rcases open_slice ht h with ⟨h0, _⟩ | ⟨a, len, cap, m, n, D, Pl, hcs, hb, hl, hm, hmm, hx, hel⟩
  · exact ⟨none, 0, 0, fun _ => ⟨0, 0, 0⟩, h0, .inl rfl, Nat.le_refl _, by omega, fun _ => ⟨rfl, rfl⟩⟩
  · have hlm : len ≤ m := by rw [hmm]; split <;> omega
    have hin : SliceIn (some a) len cap := ⟨hl, by unfold maxLen at hm; exact hm, fun h => by cases h⟩
    rw [hC] at hel
    rcases Nat.eq_zero_or_pos len with h0 | h0
    · subst h0; exact ⟨_, 0, cap, fun _ => ⟨0, 0, 0⟩, hcs, .inl rfl, hin⟩
    · have each : ∀ i, i < m → ∃ k0 k1 k2 : Int, w.cell? ((a.add (i * 3)).add 0) = some (.int .i64 k0) ∧ w.cell? ((a.add (i * 3)).add 1) = some (.int .i64 k1) ∧ w.cell? ((a.add (i * 3)).add 2) = some (.int .i64 k2) := fun i him => by
        obtain ⟨cs', h1, h2⟩ := hel i him
        obtain ⟨_, hlen, hcell⟩ := World.cells?_some h1
        obtain ⟨k0, k1, k2, rfl, _⟩ := three_ints he hone hi h2
        exact ⟨k0, k1, k2, hcell 0 (by omega), hcell 1 (by omega), hcell 2 (by omega)⟩
      obtain ⟨_, _, _, h1, _⟩ := each 0 (by omega)
      have hs : a.spot = none := by simpa [Addr.add] using World.cell?_spot h1
      obtain ⟨b, o, s⟩ := a
      simp only at hs
      subst hs
      refine ⟨_, len, cap, fun i => ⟨intAt w ⟨b, o + i * 3, none⟩, intAt w ⟨b, o + i * 3 + 1, none⟩, intAt w ⟨b, o + i * 3 + 2, none⟩⟩, hcs, .inr ⟨b, o, rfl, World.block_lt_of_cell? w _ (by simpa [Addr.add] using h1), fun i hi' => ?_⟩, hin⟩
      obtain ⟨k0, k1, k2, c0, c1, c2⟩ := each i (by omega)
      rw [add_none, add_none] at c0 c1 c2
      simp only [Nat.add_zero] at c0
      simp only [intAt, c0, c1, c2]
      exact ⟨trivial, trivial, trivial⟩
end
theorem shaft_in' {H : Type} {enc : TypeId × Value → H} {P : Program} {W : World} {base b0 : Nat} {r : Reach} {sp : Nat → Bool} {held : Bool} {v : Value} {d : DataW H} {p : List MemPlace} {t tr ti tI : TypeId} {f0 f1 f2 f3 f4 : Field}
    (ht : P.underlying t = some (.struct #[f0, f1, f2, f3, f4])) (hone : oneCellFields P #[f0, f1, f2, f3, f4] = true && (f0.type == tr && f1.type == ti && f2.type == tI && f3.type == tI && f4.type == tI) && P.cellsOf t == 5) (hi : P.underlying tI = some (.int .i64))
    (hR : ∀ (fuel : Nat) (cs : List Value) (x : DataW H × List MemPlace), DataW.trod enc P W base sp held fuel tr cs = some x → ∃ A n c f, cs = [.slice A n c] ∧ RocksAt W A n f ∧ SliceIn A n c)
    (hF : ∀ (fuel : Nat) (cs : List Value) (x : DataW H × List MemPlace), DataW.trod enc P W base sp held fuel ti cs = some x → ∃ A n c g, cs = [.slice A n c] ∧ IntsAt W A n g ∧ SliceIn A n c)
    (hv : Value.okWide P W r b0 t v) (h : DataW.Trod enc P W base sp held t v d p) :
    ∃ Ar Af cr cf S, v = .agg #[.slice Ar S.nr cr, .slice Af S.nf cf, .int .i64 S.deep, .int .i64 S.haul, .int .i64 S.rest] ∧ ShAt W Ar Af S ∧ SliceIn Ar S.nr cr ∧ SliceIn Af S.nf cf := by
  simp only [Bool.and_eq_true, beq_iff_eq, decide_eq_true_eq] at hone
  obtain ⟨⟨ho, ⟨⟨⟨e0, e1⟩, e2⟩, e3⟩, e4⟩, hC⟩ := hone
  obtain ⟨cs, rfl, hsz⟩ := okWide_struct ht hv
  obtain ⟨l⟩ := cs
  obtain ⟨fuel, hf⟩ := h
  obtain ⟨xs, n, _, hx, hlen, hxl, hg⟩ := DataW.trod_struct ht hf
  obtain ⟨o0, k0⟩ := hone_of ho 0 f0 rfl
  obtain ⟨o1, k1⟩ := hone_of ho 1 f1 rfl
  obtain ⟨o2, k2⟩ := hone_of ho 2 f2 rfl
  obtain ⟨o3, k3⟩ := hone_of ho 3 f3 rfl
  obtain ⟨o4, k4⟩ := hone_of ho 4 f4 rfl
  match l, hsz.trans hC, xs, hxl with
  | [c0, c1, c2, c3, c4], _, [y0, y1, y2, y3, y4], _ =>
    have g0 := hg 0 f0 rfl
    have g1 := hg 1 f1 rfl
    have g2 := hg 2 f2 rfl
    have g3 := hg 3 f3 rfl
    have g4 := hg 4 f4 rfl
    rw [o0, k0, e0] at g0
    rw [o1, k1, e1] at g1
    rw [o2, k2, e2] at g2
    rw [o3, k3, e3] at g3
    rw [o4, k4, e4] at g4
    simp only [Value.cells, List.drop_zero, List.take_succ_cons, List.take_zero, List.drop_succ_cons, List.getElem?_cons_zero, List.getElem?_cons_succ] at g0 g1 g2 g3 g4
    obtain ⟨A, nr, cr, rock, h0, hr, hr2⟩ := hR _ _ _ g0
    obtain ⟨B, nf, cf, foot, h1, hft, hf2⟩ := hF _ _ _ g1
    obtain ⟨a, h2, _⟩ := DataW.trod_int hi g2
    obtain ⟨b, h3, _⟩ := DataW.trod_int hi g3
    obtain ⟨c, h4, _⟩ := DataW.trod_int hi g4
    injection h0 with h0
    injection h1 with h1
    injection h2 with h2
    injection h3 with h3
    injection h4 with h4
    subst h0 h1 h2 h3 h4
    exact ⟨A, B, cr, cf, ⟨nr, rock, nf, foot, a, b, c⟩, rfl, ⟨hr, hft⟩, hr2, hf2⟩
set_option maxRecDepth 100000 in
theorem shaft_in {H : Type} {enc : TypeId × Value → H} {W : World} {base b0 : Nat} {r : Reach} {sp : Nat → Bool} {held : Bool} {v : Value} {d : DataW H} {p : List MemPlace} (hv : Value.okWide Tryd.prog W r b0 29 v) (h : DataW.Trod enc Tryd.prog W base sp held 29 v d p) :
    ∃ Ar Af cr cf S, v = .agg #[.slice Ar S.nr cr, .slice Af S.nf cf, .int .i64 S.deep, .int .i64 S.haul, .int .i64 S.rest] ∧ ShAt W Ar Af S ∧ SliceIn Ar S.nr cr ∧ SliceIn Af S.nf cf :=
  shaft_in' Tryd.underlying29 (by kernel_rfl) Tryd.underlying3 (fun _ _ _ h => rocks_in Tryd.underlying26 Tryd.underlying59 (by kernel_rfl) Tryd.underlying3 h) (fun _ _ _ h => ints_in Tryd.underlying27 Tryd.underlying3 (by kernel_rfl) h) hv h
theorem int_wf {n : Int} (h : (Lit.int .i64 n).wf = true) : -9223372036854775808 ≤ n ∧ n ≤ 9223372036854775807 := by
  simp only [Lit.wf, Bool.and_eq_true, decide_eq_true_eq] at h
  exact h
theorem lv_in' {H : Type} {enc : TypeId × Value → H} {P : Program} {W : World} {base b0 : Nat} {r : Reach} {sp : Nat → Bool} {held : Bool} {v : Value} {d : DataW H} {p : List MemPlace} {t ts tl tI : TypeId} {f0 f1 f2 : Field}
    (ht : P.underlying t = some (.struct #[f0, f1, f2])) (hone : oneCellFields P #[f0, f1, f2] = true && (f0.type == tI && f1.type == ts && f2.type == tl) && P.cellsOf t == 3) (hi : P.underlying tI = some (.int .i64))
    (hR : ∀ (fuel : Nat) (cs : List Value) (x : DataW H × List MemPlace), DataW.trod enc P W base sp held fuel ts cs = some x → ∃ A n c f, cs = [.slice A n c] ∧ SndsAt W A n f ∧ SliceIn A n c)
    (hF : ∀ (fuel : Nat) (cs : List Value) (x : DataW H × List MemPlace), DataW.trod enc P W base sp held fuel tl cs = some x → ∃ A n c g, cs = [.slice A n c] ∧ SlpsAt W A n g ∧ SliceIn A n c)
    (hv : Value.okWide P W r b0 t v) (h : DataW.Trod enc P W base sp held t v d p) :
    ∃ (As Al : Option Addr) (cs cl : Nat) (t : Lt), v = .agg #[.int .i64 t.wells, .slice As t.ns cs, .slice Al t.nl cl] ∧ LtAt W As Al t ∧ SliceIn As t.ns cs ∧ SliceIn Al t.nl cl := by
  simp only [Bool.and_eq_true, beq_iff_eq, decide_eq_true_eq] at hone
  obtain ⟨⟨ho, ⟨e0, e1⟩, e2⟩, hC⟩ := hone
  obtain ⟨cs, rfl, hsz⟩ := okWide_struct ht hv
  obtain ⟨l⟩ := cs
  obtain ⟨fuel, hf⟩ := h
  obtain ⟨xs, n, _, hx, hlen, hxl, hg⟩ := DataW.trod_struct ht hf
  obtain ⟨o0, k0⟩ := hone_of ho 0 f0 rfl
  obtain ⟨o1, k1⟩ := hone_of ho 1 f1 rfl
  obtain ⟨o2, k2⟩ := hone_of ho 2 f2 rfl
  match l, hsz.trans hC, xs, hxl with
  | [c0, c1, c2], _, [y0, y1, y2], _ =>
    have g0 := hg 0 f0 rfl
    have g1 := hg 1 f1 rfl
    have g2 := hg 2 f2 rfl
    rw [o0, k0, e0] at g0
    rw [o1, k1, e1] at g1
    rw [o2, k2, e2] at g2
    simp only [Value.cells, List.drop_zero, List.take_succ_cons, List.take_zero, List.drop_succ_cons, List.getElem?_cons_zero, List.getElem?_cons_succ] at g0 g1 g2
    obtain ⟨a, h0, _⟩ := DataW.trod_int hi g0
    obtain ⟨A, ns, ks, fs, h1, hs, hs2⟩ := hR _ _ _ g1
    obtain ⟨B, nl, kl, fl, h2, hl, hl2⟩ := hF _ _ _ g2
    injection h0 with h0
    injection h1 with h1
    injection h2 with h2
    subst h0 h1 h2
    exact ⟨A, B, ks, kl, ⟨a, ns, fs, nl, fl⟩, rfl, ⟨hs, hl⟩, hs2, hl2⟩
set_option maxRecDepth 100000 in
theorem lv_in {H : Type} {enc : TypeId × Value → H} {W : World} {base b0 : Nat} {r : Reach} {sp : Nat → Bool} {held : Bool} {v : Value} {d : DataW H} {p : List MemPlace} (hv : Value.okWide Tryd.prog W r b0 25 v) (h : DataW.Trod enc Tryd.prog W base sp held 25 v d p) :
    ∃ (As Al : Option Addr) (cs cl : Nat) (t : Lt), v = .agg #[.int .i64 t.wells, .slice As t.ns cs, .slice Al t.nl cl] ∧ LtAt W As Al t ∧ SliceIn As t.ns cs ∧ SliceIn Al t.nl cl :=
  lv_in' Tryd.underlying25 (by kernel_rfl) Tryd.underlying3 (fun _ _ _ h => snds_in Tryd.underlying22 Tryd.underlying31 (by kernel_rfl) Tryd.underlying3 h) (fun _ _ _ h => slps_in Tryd.underlying23 Tryd.underlying56 (by kernel_rfl) Tryd.underlying3 h) hv h
theorem reach_in' {H : Type} {enc : TypeId × Value → H} {P : Program} {W : World} {base b0 : Nat} {r : Reach} {sp : Nat → Bool} {held : Bool} {v : Value} {d : DataW H} {p : List MemPlace} {t tL tS tI : TypeId} {f0 f1 f2 q0 q1 q2 : Field}
    (ht : P.underlying t = some (.struct #[f0, f1, f2])) (hone : (f0.type == tI && f1.type == tL && f2.type == tS) && (f0.offset == 0 && f1.offset == 1 && f2.offset == 2) && (P.cellsOf tI == 1 && P.cellsOf tL == 1 && P.cellsOf tS == 3) && P.cellsOf t == 5) (hi : P.underlying tI = some (.int .i64))
    (he : P.underlying tS = some (.struct #[q0, q1, q2])) (hq : oneCellFields P #[q0, q1, q2] = true && (q0.type == tI && q1.type == tI && q2.type == tI) && P.cellsOf tS == 3)
    (hR : ∀ (fuel : Nat) (cs : List Value) (x : DataW H × List MemPlace), DataW.trod enc P W base sp held fuel tL cs = some x → ∃ A n c g, cs = [.slice A n c] ∧ IntsAt W A n g ∧ SliceIn A n c)
    (hv : Value.okWide P W r b0 t v) (h : DataW.Trod enc P W base sp held t v d p) :
    ∃ (well : Int) (Ax : Option Addr) (nx cx : Nat) (g : Nat → Int) (sd : Snd), v = .agg #[.int .i64 well, .slice Ax nx cx, .int .i64 sd.well, .int .i64 sd.low, .int .i64 sd.high] ∧ IntsAt W Ax nx g ∧ SliceIn Ax nx cx := by
  simp only [Bool.and_eq_true, beq_iff_eq, decide_eq_true_eq] at hone
  obtain ⟨⟨⟨⟨⟨e0, e1⟩, e2⟩, ⟨o0, o1⟩, o2⟩, ⟨k0, k1⟩, k2⟩, hC⟩ := hone
  obtain ⟨cs, rfl, hsz⟩ := okWide_struct ht hv
  obtain ⟨l⟩ := cs
  obtain ⟨fuel, hf⟩ := h
  obtain ⟨xs, n, _, hx, hlen, hxl, hg⟩ := DataW.trod_struct ht hf
  match l, hsz.trans hC, xs, hxl with
  | [c0, c1, c2, c3, c4], _, [y0, y1, y2], _ =>
    have g0 := hg 0 f0 rfl
    have g1 := hg 1 f1 rfl
    have g2 := hg 2 f2 rfl
    rw [o0, e0, k0] at g0
    rw [o1, e1, k1] at g1
    rw [o2, e2, k2] at g2
    simp only [Value.cells, List.drop_zero, List.take_succ_cons, List.take_zero, List.drop_succ_cons, List.getElem?_cons_zero, List.getElem?_cons_succ] at g0 g1 g2
    obtain ⟨a, h0, _⟩ := DataW.trod_int hi g0
    obtain ⟨A, nx, cx, g, h1, hs, hs2⟩ := hR _ _ _ g1
    obtain ⟨u0, u1, u2, h2, _⟩ := three_ints he hq hi g2
    injection h0 with h0
    injection h1 with h1
    injection h2 with h2 h3
    injection h3 with h3 h4
    injection h4 with h4
    subst h0 h1 h2 h3 h4
    exact ⟨a, A, nx, cx, g, ⟨u0, u1, u2⟩, rfl, hs, hs2⟩
set_option maxRecDepth 100000 in
theorem reach_in {H : Type} {enc : TypeId × Value → H} {W : World} {base b0 : Nat} {r : Reach} {sp : Nat → Bool} {held : Bool} {v : Value} {d : DataW H} {p : List MemPlace} (hv : Value.okWide Tryd.prog W r b0 33 v) (h : DataW.Trod enc Tryd.prog W base sp held 33 v d p) :
    ∃ (well : Int) (Ax : Option Addr) (nx cx : Nat) (g : Nat → Int) (sd : Snd), v = .agg #[.int .i64 well, .slice Ax nx cx, .int .i64 sd.well, .int .i64 sd.low, .int .i64 sd.high] ∧ IntsAt W Ax nx g ∧ SliceIn Ax nx cx :=
  reach_in' Tryd.underlying33 (by kernel_rfl) Tryd.underlying3 Tryd.underlying31 (by kernel_rfl) (fun _ _ _ h => ints_in Tryd.underlying27 Tryd.underlying3 (by kernel_rfl) h) hv h
end Go.Proofs.YtdboicnlkbnbnaaDoor
