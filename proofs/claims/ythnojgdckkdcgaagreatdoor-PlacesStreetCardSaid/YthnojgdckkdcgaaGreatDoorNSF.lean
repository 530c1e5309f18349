/- Parts joined: what all claims of this seat need. -/
import Derived.Test.YthnojgdckkdcgaaGreatDoorTie
import Derived.ProofKit
import Derived.LaidMore
import Derived.OpenShut
import Derived.Deep.Slices
import Derived.Deep.Fields
import Derived.Stop.Joined
import Derived.Test.YthnojgdckkdcgaaGreatDoorNSE
import Derived.Test.YthnojgdckkdcgaaGreatDoorNSD
import Derived.Test.YthnojgdckkdcgaaGreatDoorProg
import Derived.WalkKit
import Derived.WalkSpells
import Derived.WalkLawsBesides
import Derived.BigQuiet
import Derived.Lib.Hide
import Derived.Lib.QuietBelow
import Derived.Test.YthnojgdckkdcgaaGreatDoorNSA
import Derived.Test.YthnojgdckkdcgaaGreatDoorNSC
set_option linter.unusedSimpArgs false
set_option linter.unusedVariables false
namespace Go.Proofs.YthnojgdckkdcgaaGreatDoor
open Go.RowKit Go.Sort Go.ChangeShapes Go.WideShapes Go.ChangeAt Go.Deep
theorem ownK : ownKnob Tryz.prog.godebug = none := by kernel_rfl
theorem laidOutP : laidOutB Tryz.prog = true := by kernel_rfl
theorem three_ints {H : Type} {enc : TypeId × Value → H} {P : Program} {w : World} {base : Nat} {sp : Nat → Bool} {held : Bool} {t ti : TypeId} {f0 f1 f2 : Field} {fuel : Nat} {cs : List Value} {x : DataW H × List MemPlace} (ht : P.underlying t = some (.struct #[f0, f1, f2])) (hone : oneCellFields P #[f0, f1, f2] = true && (f0.type == ti && f1.type == ti && f2.type == ti) && P.cellsOf t == 3)
    (hi : P.underlying ti = some (.int .i64)) (h : DataW.trod enc P w base sp held fuel t cs = some x) : ∃ a b c, cs = [.int .i64 a, .int .i64 b, .int .i64 c] ∧ x = (.agg [.lit (.int .i64 a), .lit (.int .i64 b), .lit (.int .i64 c)], []) := by
  simp only [Bool.and_eq_true, beq_iff_eq, decide_eq_true_eq] at hone
  obtain ⟨⟨ho, ⟨e0, e1⟩, e2⟩, hC⟩ := hone
  obtain ⟨xs, n, _, hx, hlen, hxl, hg⟩ := DataW.trod_struct ht h
  obtain ⟨o0, k0⟩ := hone_of ho 0 f0 rfl
  obtain ⟨o1, k1⟩ := hone_of ho 1 f1 rfl
  obtain ⟨o2, k2⟩ := hone_of ho 2 f2 rfl
  match cs, hlen.trans hC, xs, hxl with
  | [c0, c1, c2], _, [y0, y1, y2], _ =>
    have g0 := hg 0 f0 rfl
    have g1 := hg 1 f1 rfl
    have g2 := hg 2 f2 rfl
    rw [o0, k0] at g0
    rw [o1, k1] at g1
    rw [o2, k2] at g2
    rw [e0] at g0
    rw [e1] at g1
    rw [e2] at g2
    simp only [List.drop_zero, List.take_succ_cons, List.take_zero, List.drop_succ_cons, List.getElem?_cons_zero, List.getElem?_cons_succ] at g0 g1 g2
    obtain ⟨a, h0, h0', _⟩ := DataW.trod_int hi g0
    obtain ⟨b, h1, h1', _⟩ := DataW.trod_int hi g1
    obtain ⟨c, h2, h2', _⟩ := DataW.trod_int hi g2
    injection h0 with h0
    injection h1 with h1
    injection h2 with h2
    subst h0 h1 h2 h0' h1' h2'
    exact ⟨a, b, c, rfl, hx⟩
section
variable {H : Type} {enc : TypeId × Value → H} {P : Program}
/-- what came in reads as before, if nothing of it has turned -/
theorem trodAll_stays (hl : laidOutB P = true) {W W' : World} {sp : Nat → Bool} (hb : Below W.heap.size W W') : ∀ {ts : List TypeId} {vs : List Value} {ds : List (DataW H)} {ps : List MemPlace},
    (∀ t ∈ ts, P.readableRec t = true ∧ t < P.types.size) → DataW.TrodAll enc P W 0 (fun _ => true) true ts vs ds ps → (∀ p ∈ ps, p.block < W.heap.size) → (∀ p ∈ ps, sp p.block = true) → DataW.TrodAll enc P W' 0 sp true ts vs ds ps
  | [], [], [], ps, _, h, _, _ => h
  | t :: ts, v :: vs, d :: ds, ps, ht, h, hlt, hsp => by
    obtain ⟨p, q, h1, h2, rfl⟩ := h
    exact ⟨p, q, WideElems.Trod_stays hl (ht t (by simp)).1 (ht t (by simp)).2 h1 (fun x hx => hb.same (hlt x (by simp [hx]))) (fun x hx => hsp x (by simp [hx])),
      trodAll_stays hl hb (fun u hu => ht u (by simp [hu])) h2 (fun x hx => hlt x (by simp [hx])) (fun x hx => hsp x (by simp [hx])), rfl⟩
  | [], [], _ :: _, _, _, h, _, _ => h.elim
  | [], _ :: _, _, _, _, h, _, _ => h.elim
  | _ :: _, [], _, _, _, h, _, _ => h.elim
  | _ :: _, _ :: _, [], _, _, h, _, _ => h.elim
/-- a law that has returned true, and has left all as it was -/
theorem post_law {f : Func} {s : ChangeSpec} {W W' : World} {args : Array Value} {ds : List (DataW H)} {before : List MemPlace} (hl : laidOutB P = true) (hv : s.vars = []) {tb : TypeId} (hbool : P.underlying tb = some .bool) (hres : f.resultTypes = #[tb])
    (hts : ∀ t ∈ f.params.toList, P.readableRec t = true ∧ t < P.types.size) (hfn : s.fn H (ds ++ []) = { results := [.lit (.bool true)], args := ds })
    (hW : DataW.Whole enc P f.params.toList s.vars false W args.toList ds [] before) (hb : Below W.heap.size W W') : s.post enc P f false true false false W args (.bool true) W' := by
  have hlt : ∀ p ∈ before, p.block < W.heap.size := fun p hp => hW.lt p hp
  obtain ⟨p, q, hA, hV, hpq, hz, hn⟩ := id hW
  rw [hv] at hV
  have hq : q = [] := hV
  subst hq
  rw [List.append_nil] at hpq
  subst hpq
  have hok : ∀ (j : Nat) (t : TypeId) (r : Value), f.resultTypes[j]? = some t → ((Value.bool true).resultList f.resultTypes.size)[j]? = some r → Value.okWide P W' .any 0 t r := ok_one hres rfl (okWide_bool_mk hbool _)
  have hbt : ∀ (b : Nat) (sp : Nat → Bool) (hd : Bool), DataW.TrodAll enc P W' b sp hd f.resultTypes.toList ((Value.bool true).resultList f.resultTypes.size) (s.fn H (ds ++ [])).results [] := fun b sp hd => by
    rw [hres, hfn]; exact trodAll_mk1 (shut_bool hbool _)
  have harg : ∀ sp : Nat → Bool, (∀ x ∈ before, sp x.block = true) → DataW.TrodAll enc P W' 0 sp true f.params.toList args.toList (s.fn H (ds ++ [])).args before := fun sp hsp => by
    rw [hfn]; exact trodAll_stays hl hb hts hA hlt hsp
  have hvar : ∀ sp : Nat → Bool, DataW.TrodVars enc P W' sp s.vars (s.fn H (ds ++ [])).vars [] := fun sp => by
    rw [hv, hfn]; exact rfl
  refine ⟨ds, [], before, [], before, [], hW, hbt _ _ _, harg _ (fun x hx => by simpa using hlt x hx), hvar _, World.keptBut_mono (fun x hx => ⟨hx, .inr (by simpa using hx)⟩) (hb.frame (· ∈ before)), fun _ => ?_⟩
  refine ⟨hok, _, _, [] ++ before, ⟨[] ++ before, [], trodAll_append (harg _ (fun _ _ => rfl)) (hbt _ _ _), hvar _, by simp, ?_, fun h => by cases h⟩, fun x hx _ => by simpa using hx⟩
  intro b off hp
  have hp' : MemPlace.cell b off ∈ before := by simpa using hp
  rw [hb.frozen (p := ⟨b, off, none⟩) (hlt _ hp')]
  exact hz b off hp'
end
def intAt (w : World) (p : Addr) : Int := match w.cell? p with | some (.int _ n) => n | _ => 0
theorem add_none (b o j : Nat) : (⟨b, o, none⟩ : Addr).add j = ⟨b, o + j, none⟩ := by unfold Addr.add; split <;> simp_all
section
variable {H : Type} {enc : TypeId × Value → H} {P : Program} {w : World} {base : Nat} {sp : Nat → Bool} {held : Bool}
/-- a slice that came in: its length, its capacity, its address -/
def SliceIn (A : Option Addr) (n c : Nat) : Prop := n ≤ c ∧ c ≤ 9223372036854775807 ∧ (A = none → n = 0 ∧ c = 0)
theorem ints_in {t e : TypeId} {fuel : Nat} {cs : List Value} {x : DataW H × List MemPlace} (ht : P.underlying t = some (.slice e)) (hi : P.underlying e = some (.int .i64)) (hc : P.cellsOf e = 1) (h : DataW.trod enc P w base sp held fuel t cs = some x) :
    ∃ A n c g, cs = [.slice A n c] ∧ IntsAt w A n g ∧ SliceIn A n c := by
  rcases open_slice1 ht hc h with ⟨h0, _⟩ | ⟨a, len, cap, m, n, V, D, Pl, hcs, hb, hl, hm, hmm, hx, hel⟩
  · exact ⟨none, 0, 0, fun _ => 0, h0, .inl rfl, Nat.le_refl _, by omega, fun _ => ⟨rfl, rfl⟩⟩
  · have hlm : len ≤ m := by rw [hmm]; split <;> omega
    have hin : SliceIn (some a) len cap := ⟨hl, by unfold maxLen at hm; exact hm, fun h => by cases h⟩
    rcases Nat.eq_zero_or_pos len with h0 | h0
    · subst h0; exact ⟨_, 0, cap, fun _ => 0, hcs, .inl rfl, hin⟩
    · have h1 := (hel 0 (by omega)).1
      have hs : a.spot = none := by simpa [Addr.add] using World.cell?_spot h1
      obtain ⟨b, o, s⟩ := a
      simp only at hs
      subst hs
      refine ⟨_, len, cap, fun i => intAt w ⟨b, o + i, none⟩, hcs, .inr ⟨b, o, rfl, World.block_lt_of_cell? w _ (by simpa [Addr.add] using h1), fun i hi' => ?_⟩, hin⟩
      obtain ⟨g1, g2⟩ := hel i (by omega)
      obtain ⟨k, hk, _⟩ := DataW.trod_int hi g2
      injection hk with hk
      rw [add_none, hk] at g1
      simp only [intAt, g1]

/-! ### What fits into memory -/
theorem wAll_mem {e : TypeId} {d : DataW H} {y : Nat} (hy : y ∈ d.weights P e) : ∀ {l : List (DataW H)}, d ∈ l → y ∈ DataW.weightsAll P e l
  | [], h => by cases h
  | x :: l, h => by
    unfold DataW.weightsAll
    rcases List.mem_cons.1 h with rfl | h
    · exact List.mem_append_left _ hy
    · exact List.mem_append_right _ (wAll_mem hy h)
theorem wEach_mem {y : Nat} : ∀ {ts : List TypeId} {ds : List (DataW H)} {j : Nat} {t : TypeId} {d : DataW H}, ts[j]? = some t → ds[j]? = some d → y ∈ d.weights P t → y ∈ DataW.weightsEach P ts ds
  | [], _, _, _, _, h, _, _ => by simp at h
  | _ :: _, [], _, _, _, _, h, _ => by simp at h
  | u :: ts, x :: ds, 0, t, d, h1, h2, hy => by
    obtain rfl : u = t := by simpa using h1
    obtain rfl : x = d := by simpa using h2
    unfold DataW.weightsEach
    exact List.mem_append_left _ hy
  | u :: ts, x :: ds, j + 1, t, d, h1, h2, hy => by
    unfold DataW.weightsEach
    exact List.mem_append_right _ (wEach_mem (j := j) (by simpa using h1) (by simpa using h2) hy)
/-- each slice of it takes at most so much -/
def Fit (P : Program) (t : TypeId) (d : DataW H) : Prop := ∀ y, y ∈ d.weights P t → y ≤ 140737488351232
theorem fit_arg {ts : List TypeId} {ds : List (DataW H)} (h : (DataW.weightsEach P ts ds).all (· ≤ reachBytes) = true) {j : Nat} {t : TypeId} {d : DataW H} (h1 : ts[j]? = some t) (h2 : ds[j]? = some d) : Fit P t d := fun y hy => by
  have := List.all_eq_true.1 h y (wEach_mem h1 h2 hy)
  exact (of_decide_eq_true this : y ≤ reachBytes)
theorem fit_slice {t e : TypeId} {len : Nat} {D : Nat → DataW H} {sp : List (DataW H)} (ht : P.underlying t = some (.slice e)) (h : Fit P t (.slice ((List.range len).map D) sp)) : len * P.bytesOf e ≤ 140737488351232 ∧ ∀ i, i < len → Fit P e (D i) := by
  have e1 : (DataW.slice ((List.range len).map D) sp).weights P t = (((List.range len).map D).length + sp.length) * P.bytesOf e :: (DataW.weightsAll P e ((List.range len).map D) ++ DataW.weightsAll P e sp) := by
    unfold DataW.weights
    rw [ht]
  unfold Fit at h
  rw [e1] at h
  constructor
  · have := h _ (List.mem_cons_self ..)
    rw [List.length_map, List.length_range, Nat.add_mul] at this
    omega
  · exact fun i hi y hy => h y (List.mem_cons_of_mem _ (List.mem_append_left _ (wAll_mem hy (List.mem_map.2 ⟨i, List.mem_range.2 hi, rfl⟩))))
theorem fit_part {t : TypeId} {fs : Array Field} {parts : List (DataW H)} (ht : P.underlying t = some (.struct fs)) (h : Fit P t (.agg parts)) {j : Nat} {f : Field} {d : DataW H} (h1 : fs[j]? = some f) (h2 : parts[j]? = some d) : Fit P f.type d := fun y hy => by
  refine h y ?_
  have e1 : (DataW.agg parts).weights P t = DataW.weightsEach P (fs.toList.map (·.type)) parts := by
    unfold DataW.weights
    rw [ht]
  rw [e1]
  exact wEach_mem (by simp [h1]) h2 hy
/-- numbers that came in -/
theorem ints_fit {t e : TypeId} {fuel : Nat} {cs : List Value} {x : DataW H × List MemPlace} (ht : P.underlying t = some (.slice e)) (hi : P.underlying e = some (.int .i64)) (hc : P.cellsOf e = 1) (hb : P.bytesOf e = 8) (hf : Fit P t x.1) (h : DataW.trod enc P w base sp held fuel t cs = some x) :
    ∃ A n c g, cs = [.slice A n c] ∧ IntsAt w A n g ∧ SliceIn A n c ∧ n * 8 ≤ 140737488351232 := by
  obtain ⟨A, n, c, g, h1, h2, h3⟩ := ints_in ht hi hc h
  refine ⟨A, n, c, g, h1, h2, h3, ?_⟩
  rcases open_slice ht h with ⟨h0, _⟩ | ⟨a, len, cap, m, n', D, Pl, hcs, _, _, _, _, hx, _⟩
  · rw [h0] at h1
    injection h1 with h1
    injection h1 with _ h1
    subst h1
    omega
  · rw [hcs] at h1
    injection h1 with h1
    injection h1 with _ h1
    subst h1
    rw [hx] at hf
    have := (fit_slice ht hf).1
    rwa [hb] at this
/-- the rows of a world -/
theorem rows_fit {t e i : TypeId} {fuel : Nat} {cs : List Value} {x : DataW H × List MemPlace} (ht : P.underlying t = some (.slice e)) (he : P.underlying e = some (.slice i)) (hi : P.underlying i = some (.int .i64)) (hq : (P.cellsOf e == 1 && P.cellsOf i == 1 && P.bytesOf e == 24 && P.bytesOf i == 8) = true) (hf : Fit P t x.1) (h : DataW.trod enc P w base sp held fuel t cs = some x) :
    ∃ A c y, cs = [.slice A (Wd.n y) c] ∧ RowsAt w A y ∧ y.Fits ∧ SliceIn A y.n c := by
  simp only [Bool.and_eq_true, beq_iff_eq] at hq
  obtain ⟨⟨⟨q0, q1⟩, q2⟩, q3⟩ := hq
  rcases open_slice1 ht q0 h with ⟨h0, _⟩ | ⟨a, len, cap, m, n, V, D, Pl, hcs, hb, hl, hm, hmm, hx, hel⟩
  · exact ⟨none, 0, ⟨0, fun _ => 0, fun _ _ => 0⟩, h0, .inl rfl, ⟨by decide, fun k hk => absurd hk (Nat.not_lt_zero _)⟩, Nat.le_refl _, by omega, fun _ => ⟨rfl, rfl⟩⟩
  · have hlm : len ≤ m := by rw [hmm]; split <;> omega
    have hin : SliceIn (some a) len cap := ⟨hl, by unfold maxLen at hm; exact hm, fun h => by cases h⟩
    have hf' : Fit P t (.slice ((List.range len).map D) ((List.range (m - len)).map fun j => D (len + j))) := by rw [hx] at hf; exact hf
    obtain ⟨f1, f2⟩ := fit_slice ht hf'
    rw [q2] at f1
    rcases Nat.eq_zero_or_pos len with h0 | h0
    · subst h0
      exact ⟨_, cap, ⟨0, fun _ => 0, fun _ _ => 0⟩, hcs, .inl rfl, ⟨by decide, fun k hk => absurd hk (Nat.not_lt_zero _)⟩, hin⟩
    · have h1 := (hel 0 (by omega)).1
      have hs : a.spot = none := by simpa [Addr.add] using World.cell?_spot h1
      obtain ⟨b, o, s⟩ := a
      simp only at hs
      subst hs
      obtain ⟨G, hG⟩ := choose_lt (α := Nat × (Nat → Int)) (n := len) (p := fun k y => ∃ A' c', w.cell? ⟨b, o + k, none⟩ = some (.slice A' y.1 c') ∧ IntsAt w A' y.1 y.2 ∧ y.1 ≤ 9223372036854775807 ∧ y.1 * 8 ≤ 140737488351232) fun k hk => by
        obtain ⟨g1, g2⟩ := hel k (by omega)
        obtain ⟨A', n', c', g, e1, e2, e3, e4⟩ := ints_fit he hi q1 q3 (f2 k hk) g2
        injection e1 with e1
        rw [add_none, e1] at g1
        exact ⟨(n', g), A', c', g1, e2, Nat.le_trans e3.1 e3.2.1, e4⟩
      refine ⟨_, cap, ⟨len, fun k => (G k).1, fun k => (G k).2⟩, hcs, .inr ⟨b, o, rfl, World.block_lt_of_cell? w _ (by simpa [Addr.add] using h1), fun k hk => ?_⟩, ⟨f1, fun k hk => ?_⟩, hin⟩
      · obtain ⟨A', c', e1, e2, e3, _⟩ := hG k hk
        exact ⟨A', c', e1, e2, e3⟩
      · obtain ⟨A', c', _, _, _, e4⟩ := hG k hk
        exact e4
/-- the worlds of a town -/
theorem worlds_fit {t e r l i : TypeId} {f0 : Field} {fuel : Nat} {cs : List Value} {x : DataW H × List MemPlace} (ht : P.underlying t = some (.slice e)) (he : P.underlying e = some (.struct #[f0])) (hr : P.underlying r = some (.slice l)) (hl' : P.underlying l = some (.slice i)) (hi : P.underlying i = some (.int .i64))
    (hq : (oneCellFields P #[f0] && f0.type == r && P.cellsOf e == 1 && P.cellsOf l == 1 && P.cellsOf i == 1 && P.bytesOf e == 24 && P.bytesOf l == 24 && P.bytesOf i == 8) = true) (hf : Fit P t x.1) (h : DataW.trod enc P w base sp held fuel t cs = some x) :
    ∃ A n c f, cs = [.slice A n c] ∧ WorldsAt w A n f ∧ (∀ i, i < n → (f i).Fits) ∧ n * 24 ≤ 140737488351232 ∧ SliceIn A n c := by
  simp only [Bool.and_eq_true, beq_iff_eq] at hq
  obtain ⟨⟨⟨⟨⟨⟨⟨ho, hr0⟩, q0⟩, q1⟩, q2⟩, q3⟩, q4⟩, q5⟩ := hq
  obtain ⟨o0, k0⟩ := hone_of ho 0 f0 rfl
  rcases open_slice1 ht q0 h with ⟨h0, _⟩ | ⟨a, len, cap, m, n, V, D, Pl, hcs, hb, hl, hm, hmm, hx, hel⟩
  · exact ⟨none, 0, 0, fun _ => ⟨0, fun _ => 0, fun _ _ => 0⟩, h0, .inl rfl, (fun i hi => absurd hi (Nat.not_lt_zero _)), by decide, Nat.le_refl _, by omega, fun _ => ⟨rfl, rfl⟩⟩
  · have hlm : len ≤ m := by rw [hmm]; split <;> omega
    have hin : SliceIn (some a) len cap := ⟨hl, by unfold maxLen at hm; exact hm, fun h => by cases h⟩
    have hf' : Fit P t (.slice ((List.range len).map D) ((List.range (m - len)).map fun j => D (len + j))) := by rw [hx] at hf; exact hf
    obtain ⟨f1, f2⟩ := fit_slice ht hf'
    rw [q3] at f1
    rcases Nat.eq_zero_or_pos len with h0 | h0
    · subst h0
      exact ⟨_, 0, cap, fun _ => ⟨0, fun _ => 0, fun _ _ => 0⟩, hcs, .inl rfl, (fun i hi => absurd hi (Nat.not_lt_zero _)), by decide, hin⟩
    · have h1 := (hel 0 (by omega)).1
      have hs : a.spot = none := by simpa [Addr.add] using World.cell?_spot h1
      obtain ⟨b, o, s⟩ := a
      simp only at hs
      subst hs
      haveI : Inhabited Wd := ⟨⟨0, fun _ => 0, fun _ _ => 0⟩⟩
      obtain ⟨G, hG⟩ := choose_lt (α := Wd) (n := len) (p := fun k y => (∃ A' c', w.cell? ⟨b, o + k, none⟩ = some (.slice A' y.n c') ∧ RowsAt w A' y ∧ y.n ≤ 9223372036854775807) ∧ y.Fits) fun k hk => by
        obtain ⟨g1, g2⟩ := hel k (by omega)
        obtain ⟨y0, n', e1, e2, e3⟩ := trod_struct1 he g2
        rw [o0, k0, hr0] at e3
        have hfk := f2 k hk
        rw [show D k = .agg [y0.1] from congrArg Prod.fst e1] at hfk
        have hfk := fit_part he hfk (j := 0) (f := f0) (d := y0.1) rfl rfl
        rw [hr0] at hfk
        obtain ⟨A', c', y, u1, u2, u3, u4⟩ := rows_fit hr hl' hi (by simp [q1, q2, q4, q5]) hfk e3
        simp only [List.drop_zero, List.take_succ_cons, List.take_zero] at u1
        injection u1 with u1
        rw [add_none, u1] at g1
        exact ⟨y, ⟨A', c', g1, u2, Nat.le_trans u4.1 u4.2.1⟩, u3⟩
      exact ⟨_, len, cap, G, hcs, .inr ⟨b, o, rfl, World.block_lt_of_cell? w _ (by simpa [Addr.add] using h1), fun k hk => (hG k hk).1⟩, (fun k hk => (hG k hk).2), f1, hin⟩
theorem five_ints {t ti : TypeId} {f0 f1 f2 f3 f4 : Field} {fuel : Nat} {cs : List Value} {x : DataW H × List MemPlace} (ht : P.underlying t = some (.struct #[f0, f1, f2, f3, f4])) (hone : oneCellFields P #[f0, f1, f2, f3, f4] = true && (f0.type == ti && f1.type == ti && f2.type == ti && f3.type == ti && f4.type == ti) && P.cellsOf t == 5)
    (hi : P.underlying ti = some (.int .i64)) (h : DataW.trod enc P w base sp held fuel t cs = some x) : ∃ a b c d e, cs = [.int .i64 a, .int .i64 b, .int .i64 c, .int .i64 d, .int .i64 e] ∧ (Lit.int .i64 a).wf = true ∧ (Lit.int .i64 b).wf = true ∧ (Lit.int .i64 c).wf = true ∧ (Lit.int .i64 d).wf = true ∧ (Lit.int .i64 e).wf = true := by
  simp only [Bool.and_eq_true, beq_iff_eq, decide_eq_true_eq] at hone
  obtain ⟨⟨ho, ⟨⟨⟨e0, e1⟩, e2⟩, e3⟩, e4⟩, hC⟩ := hone
  obtain ⟨xs, n, _, hx, hlen, hxl, hg⟩ := DataW.trod_struct ht h
  obtain ⟨o0, k0⟩ := hone_of ho 0 f0 rfl
  obtain ⟨o1, k1⟩ := hone_of ho 1 f1 rfl
  obtain ⟨o2, k2⟩ := hone_of ho 2 f2 rfl
  obtain ⟨o3, k3⟩ := hone_of ho 3 f3 rfl
  obtain ⟨o4, k4⟩ := hone_of ho 4 f4 rfl
  match cs, hlen.trans hC, xs, hxl with
  | [c0, c1, c2, c3, c4], _, [y0, y1, y2, y3, y4], _ =>
    have g0 := hg 0 f0 rfl
    have g1 := hg 1 f1 rfl
    have g2 := hg 2 f2 rfl
    have g3 := hg 3 f3 rfl
    have g4 := hg 4 f4 rfl
    rw [o0, k0, e0] at g0
    rw [o1, k1, e1] at g1
    rw [o2, k2, e2] at g2
    rw [o3, k3, e3] at g3
    rw [o4, k4, e4] at g4
    simp only [List.drop_zero, List.take_succ_cons, List.take_zero, List.drop_succ_cons, List.getElem?_cons_zero, List.getElem?_cons_succ] at g0 g1 g2 g3 g4
    obtain ⟨a, h0, _, w0⟩ := DataW.trod_int hi g0
    obtain ⟨b, h1, _, w1⟩ := DataW.trod_int hi g1
    obtain ⟨c, h2, _, w2⟩ := DataW.trod_int hi g2
    obtain ⟨d, h3, _, w3⟩ := DataW.trod_int hi g3
    obtain ⟨e, h4, _, w4⟩ := DataW.trod_int hi g4
    injection h0 with h0
    injection h1 with h1
    injection h2 with h2
    injection h3 with h3
    injection h4 with h4
    subst h0 h1 h2 h3 h4
    exact ⟨a, b, c, d, e, rfl, w0, w1, w2, w3, w4⟩
theorem facts_fit {t e ti : TypeId} {f0 f1 f2 f3 f4 : Field} {fuel : Nat} {cs : List Value} {x : DataW H × List MemPlace} (ht : P.underlying t = some (.slice e)) (he : P.underlying e = some (.struct #[f0, f1, f2, f3, f4])) (hone : oneCellFields P #[f0, f1, f2, f3, f4] = true && (f0.type == ti && f1.type == ti && f2.type == ti && f3.type == ti && f4.type == ti) && P.cellsOf e == 5)
    (hi : P.underlying ti = some (.int .i64)) (hbe : P.bytesOf e = 40) (hf : Fit P t x.1) (h : DataW.trod enc P w base sp held fuel t cs = some x) : ∃ A n c f, cs = [.slice A n c] ∧ FactsAt w A n f ∧ n * 40 ≤ 140737488351232 ∧ SliceIn A n c := by
  have hC : P.cellsOf e = 5 := by
    simp only [Bool.and_eq_true, beq_iff_eq] at hone
    exact hone.2
  rcases open_slice ht h with ⟨h0, _⟩ | ⟨a, len, cap, m, n, D, Pl, hcs, hb, hl, hm, hmm, hx, hel⟩
  · exact ⟨none, 0, 0, fun _ => ⟨0, 0, 0, 0, 0⟩, h0, .inl rfl, by decide, Nat.le_refl _, by omega, fun _ => ⟨rfl, rfl⟩⟩
  · have hlm : len ≤ m := by rw [hmm]; split <;> omega
    have hin : SliceIn (some a) len cap := ⟨hl, by unfold maxLen at hm; exact hm, fun h => by cases h⟩
    have hf' : Fit P t (.slice ((List.range len).map D) ((List.range (m - len)).map fun j => D (len + j))) := by rw [hx] at hf; exact hf
    obtain ⟨f1, _⟩ := fit_slice ht hf'
    rw [hbe] at f1
    rw [hC] at hel
    rcases Nat.eq_zero_or_pos len with h0 | h0
    · subst h0; exact ⟨_, 0, cap, fun _ => ⟨0, 0, 0, 0, 0⟩, hcs, .inl rfl, by decide, hin⟩
    · have each : ∀ i, i < m → ∃ k0 k1 k2 k3 k4 : Int, w.cell? ((a.add (i * 5)).add 0) = some (.int .i64 k0) ∧ w.cell? ((a.add (i * 5)).add 1) = some (.int .i64 k1) ∧ w.cell? ((a.add (i * 5)).add 2) = some (.int .i64 k2) ∧ w.cell? ((a.add (i * 5)).add 3) = some (.int .i64 k3) ∧ w.cell? ((a.add (i * 5)).add 4) = some (.int .i64 k4) := fun i him => by
        obtain ⟨cs', h1, h2⟩ := hel i him
        obtain ⟨_, hlen, hcell⟩ := World.cells?_some h1
        obtain ⟨k0, k1, k2, k3, k4, rfl, _⟩ := five_ints he hone hi h2
        exact ⟨k0, k1, k2, k3, k4, hcell 0 (by omega), hcell 1 (by omega), hcell 2 (by omega), hcell 3 (by omega), hcell 4 (by omega)⟩
      obtain ⟨_, _, _, _, _, h1, _⟩ := each 0 (by omega)
      have hs : a.spot = none := by simpa [Addr.add] using World.cell?_spot h1
      obtain ⟨b, o, s⟩ := a
      simp only at hs
      subst hs
      refine ⟨_, len, cap, fun i => ⟨intAt w ⟨b, o + i * 5, none⟩, intAt w ⟨b, o + i * 5 + 1, none⟩, intAt w ⟨b, o + i * 5 + 2, none⟩, intAt w ⟨b, o + i * 5 + 3, none⟩, intAt w ⟨b, o + i * 5 + 4, none⟩⟩, hcs, .inr ⟨b, o, rfl, World.block_lt_of_cell? w _ (by simpa [Addr.add] using h1), fun i hi' => ?_⟩, f1, hin⟩
      obtain ⟨k0, k1, k2, k3, k4, c0, c1, c2, c3, c4⟩ := each i (by omega)
      rw [add_none, add_none] at c0 c1 c2 c3 c4
      simp only [Nat.add_zero] at c0
      simp only [intAt, c0, c1, c2, c3, c4]
      exact ⟨trivial, trivial, trivial, trivial, trivial⟩
end
theorem int_wf {n : Int} (h : (Lit.int .i64 n).wf = true) : -9223372036854775808 ≤ n ∧ n ≤ 9223372036854775807 := by
  simp only [Lit.wf, Bool.and_eq_true, decide_eq_true_eq] at h
  exact h
section
variable {H : Type} {enc : TypeId × Value → H} {P : Program} {w : World} {base b0 : Nat} {r : Reach} {sp : Nat → Bool} {held : Bool}
end

/-! ### The table of math/bits that is listed -/
theorem gTab : Tryz.prog.globalNamed "math/bits.deBruijn64tab" = some 2 := by kernel_rfl
theorem tTab : (Tryz.prog.globals[2]?).map (·.type) = some 259 := by kernel_rfl
theorem bytes_in {H : Type} {enc : TypeId × Value → H} {P : Program} {w : World} {base : Nat} {sp : Nat → Bool} {held : Bool} {t e : TypeId} {n fuel : Nat} {cs : List Value} {x : DataW H × List MemPlace} (ht : P.underlying t = some (.array n e)) (he : P.underlying e = some (.int .u8)) (hc : P.cellsOf e = 1) (h : DataW.trod enc P w base sp held fuel t cs = some x) {ds : List (DataW H)} (hx : x.1 = .agg ds) {j : Nat} {v : Int} (hj : j < n) (hd : ds[j]? = some (.lit (.int .u8 v))) : cs[j]? = some (.int .u8 v) := by
  obtain ⟨xs, m, _, rfl, hlen, hl, hg⟩ := DataW.trod_array ht h
  simp only [DataW.agg.injEq] at hx
  subst hx
  have h1 := hg j hj
  rw [hc, Nat.mul_one] at h1
  obtain ⟨y, hy⟩ : ∃ y, xs[j]? = some y := ⟨_, List.getElem?_eq_getElem (by omega)⟩
  rw [hy] at h1
  obtain ⟨k, hk, rfl, _⟩ := DataW.trod_int he h1
  rw [List.getElem?_map, hy] at hd
  simp only [Option.map_some, Option.some.injEq, DataW.lit.injEq, Lit.int.injEq, true_and] at hd
  subst hd
  have h2 := congrArg (fun l : List Value => l[0]?) hk
  simp only [List.getElem?_cons_zero, List.getElem?_take, List.getElem?_drop, Nat.add_zero, Nat.zero_lt_one, if_true] at h2
  exact h2
end Go.Proofs.YthnojgdckkdcgaaGreatDoor

namespace Go.Proofs.YthnojgdckkdcgaaGreatDoor
open Go.RowKit Go.Sort

/-! ### Worlds -/
attribute [go_sem] cell_grow frozen_grow Instr.field asAgg
section
variable {w x y : World}
end

/-! ### Endings -/
/-! ### Plain notions -/
/-! ### How slices read -/
end Go.Proofs.YthnojgdckkdcgaaGreatDoor


namespace Go.Proofs.YthnojgdckkdcgaaGreatDoor
open Go.RowKit Go.Sort

def Rock.bad (r : Rock) : Bool := !inR r.hours 0 9 || !inR r.pence 0 99 || !inR r.stand 0 12 || !inR r.seat 0 99 && r.seat != -1
theorem Rock.bad_iff {r : Rock} : r.bad = false ↔ r.Ok := by
  unfold Rock.bad
  simp only [Bool.or_eq_false_iff, Bool.not_eq_false', inR_iff, Bool.and_eq_false_iff, bne_eq_false_iff_eq]
  constructor
  · rintro ⟨⟨⟨⟨a, b⟩, ⟨c, d⟩⟩, ⟨e, f⟩⟩, g⟩
    refine ⟨a, b, c, d, e, f, ?_, ?_⟩ <;> rcases g with g | g <;> omega
  · intro h
    refine ⟨⟨⟨⟨h.h0, h.h1⟩, ⟨h.p0, h.p1⟩⟩, ⟨h.s0, h.s1⟩⟩, ?_⟩
    have := h.t0; have := h.t1
    by_cases e : r.seat = -1
    · exact .inr e
    · exact .inl ⟨by omega, by omega⟩

end Go.Proofs.YthnojgdckkdcgaaGreatDoor


namespace Go.Proofs.YthnojgdckkdcgaaGreatDoor
open Go.RowKit Go.Sort
structure Spot where
  at_ : Int
  sh : Sh
  fl : Wd
/-- a town of places, as data -/
structure Pt where
  q : Qt
  no : Nat
  old : Nat → Int
  np : Nat
  pence : Nat → Int
  ns : Nat
  spot : Nat → Spot
  far : Int
  harm : Int
  many : Int
structure Spot.Ok (nw : Nat) (m : Int) (x : Spot) : Prop where
  a0 : 0 ≤ x.at_
  a1 : x.at_ ≤ 99
  sh : x.sh.Ok
  n : x.fl.n = nw
  len : ∀ k, k < x.fl.n → (x.fl.len k : Int) = m
  fall : ∀ k, k < x.fl.n → ∀ j, j < x.fl.len k → 0 ≤ x.fl.fall k j ∧ x.fl.fall k j ≤ 9
structure Pt.Ok (t : Pt) : Prop where
  q : t.q.Ok
  no : (t.no : Int) = t.q.wells
  np : (t.np : Int) = t.q.wells
  ns : t.ns ≤ 5
  far : 0 ≤ t.far ∧ t.far ≤ 99
  harm : 0 ≤ t.harm ∧ t.harm ≤ 99
  many : 0 ≤ t.many ∧ t.many ≤ 9
  old : ∀ i, i < t.no → 0 ≤ t.old i ∧ t.old i ≤ 99
  pence : ∀ i, i < t.np → 0 ≤ t.pence i ∧ t.pence i ≤ 99
  spot : ∀ i, i < t.ns → (t.spot i).Ok t.q.nw t.q.wells
open Classical in
noncomputable def Spot.okB (nw : Nat) (m : Int) (x : Spot) : Bool := decide (x.Ok nw m)
theorem Spot.okB_t {nw : Nat} {m : Int} {x : Spot} (h : x.Ok nw m) : x.okB nw m = true := by unfold Spot.okB; simpa using h
theorem Spot.okB_f {nw : Nat} {m : Int} {x : Spot} (h : ¬ x.Ok nw m) : x.okB nw m = false := by unfold Spot.okB; simpa using h
theorem Spot.okB_iff {nw : Nat} {m : Int} {x : Spot} : x.okB nw m = true ↔ x.Ok nw m := by unfold Spot.okB; simp
open Classical in
noncomputable def Pt.err (t : Pt) : Int := if t.Ok then 0 else 90
theorem Pt.err_ok {t : Pt} (h : t.Ok) : t.err = 0 := if_pos h
theorem Pt.err_bad {t : Pt} (h : ¬ t.Ok) : t.err = 90 := if_neg h
/-! ### How they read in memory -/
def SpotsAt (w : World) (A : Option Addr) (n : Nat) (f : Nat → Spot) : Prop :=
  n = 0 ∨ ∃ b o, A = some ⟨b, o, none⟩ ∧ b < w.heap.size ∧ ∀ i, i < n → ∃ Ar Af Aw cr cf cw, ShAt w Ar Af (f i).sh ∧ RowsAt w Aw (f i).fl ∧ w.cell? ⟨b, o + i * 7, none⟩ = some (.int .i64 (f i).at_) ∧ w.cell? ⟨b, o + i * 7 + 1, none⟩ = some (.slice Ar (f i).sh.nr cr) ∧ w.cell? ⟨b, o + i * 7 + 2, none⟩ = some (.slice Af (f i).sh.nf cf) ∧ w.cell? ⟨b, o + i * 7 + 3, none⟩ = some (.int .i64 (f i).sh.deep) ∧ w.cell? ⟨b, o + i * 7 + 4, none⟩ = some (.int .i64 (f i).sh.haul) ∧ w.cell? ⟨b, o + i * 7 + 5, none⟩ = some (.int .i64 (f i).sh.rest) ∧ w.cell? ⟨b, o + i * 7 + 6, none⟩ = some (.slice Aw (f i).fl.n cw)
theorem SpotsAt.mono {w w' : World} {A : Option Addr} {n : Nat} {f : Nat → Spot} (h : SpotsAt w A n f) (hb : Below w.heap.size w w') : SpotsAt w' A n f := by
  rcases h with h | ⟨b, o, rfl, hlt, hc⟩
  · exact .inl h
  · refine .inr ⟨b, o, rfl, Nat.lt_of_lt_of_le hlt hb.size, fun i hi => ?_⟩
    obtain ⟨Ar, Af, Aw, cr, cf, cw, h0, h1, h2, h3, h4, h5, h6, h7, h8⟩ := hc i hi
    exact ⟨Ar, Af, Aw, cr, cf, cw, h0.mono hb, h1.mono hb, (hb.cell (p := ⟨b, _, none⟩) hlt).trans h2, (hb.cell (p := ⟨b, _, none⟩) hlt).trans h3, (hb.cell (p := ⟨b, _, none⟩) hlt).trans h4, (hb.cell (p := ⟨b, _, none⟩) hlt).trans h5, (hb.cell (p := ⟨b, _, none⟩) hlt).trans h6, (hb.cell (p := ⟨b, _, none⟩) hlt).trans h7, (hb.cell (p := ⟨b, _, none⟩) hlt).trans h8⟩
structure PAt (w : World) (Aw Af Ao Ap As : Option Addr) (t : Pt) : Prop where
  q : QAt w Aw Af t.q
  old : IntsAt w Ao t.no t.old
  pence : IntsAt w Ap t.np t.pence
  spots : SpotsAt w As t.ns t.spot
theorem PAt.mono {w w' : World} {Aw Af Ao Ap As : Option Addr} {t : Pt} (h : PAt w Aw Af Ao Ap As t) (hb : Below w.heap.size w w') : PAt w' Aw Af Ao Ap As t := ⟨h.q.mono hb, h.old.mono hb, h.pence.mono hb, h.spots.mono hb⟩
/-- lengths are Go's -/
structure Spot.Small (x : Spot) : Prop where
  nr : x.sh.nr ≤ 9223372036854775807
  nf : x.sh.nf ≤ 9223372036854775807
  n : x.fl.n ≤ 9223372036854775807
  len : ∀ k, k < x.fl.n → x.fl.len k ≤ 9223372036854775807
structure Pt.Small (t : Pt) : Prop where
  q : t.q.Small
  no : t.no ≤ 9223372036854775807
  np : t.np ≤ 9223372036854775807
  ns : t.ns ≤ 9223372036854775807
  spot : ∀ i, i < t.ns → (t.spot i).Small
end Go.Proofs.YthnojgdckkdcgaaGreatDoor

namespace Go.Proofs.YthnojgdckkdcgaaGreatDoor
open Go.RowKit Go.Sort

theorem within_any (n lo hi : Int) (w : World) :
    Calls Tryz.prog 95 #[.int .i64 n, .int .i64 lo, .int .i64 hi] w fun e w' => e = .returned (.bool (inR n lo hi)) ∧ w = w' := by
  go_enter Tryz.func95, Tryz.ntmps95
  by_cases h1 : lo ≤ n <;> by_cases h2 : n ≤ hi
  all_goals
    go_wp2
    go_ret
    first
      | exact ⟨ret_bool (inR_t (by omega)).symm, rfl⟩
      | exact ⟨ret_bool (inR_f (by omega)).symm, rfl⟩
theorem within02_any (n lo hi : Int) (w : World) :
    Calls Tryz.prog 90 #[.int .i64 n, .int .i64 lo, .int .i64 hi] w fun e w' => e = .returned (.bool (inR n lo hi)) ∧ w = w' := by
  go_enter Tryz.func90, Tryz.ntmps90
  go_wp2_with (go_at_call 12; refine (Within01_any _ _ _ _).mono ?_; rintro e w' ⟨rfl, rfl⟩)
  go_ret
  exact ⟨rfl, rfl⟩

theorem bad_cases (r : Rock) : (inR r.hours 0 9 = false ∧ r.bad = true) ∨ (inR r.hours 0 9 = true ∧ inR r.pence 0 99 = false ∧ r.bad = true) ∨
    (inR r.hours 0 9 = true ∧ inR r.pence 0 99 = true ∧ inR r.stand 0 12 = false ∧ r.bad = true) ∨
    (inR r.hours 0 9 = true ∧ inR r.pence 0 99 = true ∧ inR r.stand 0 12 = true ∧ inR r.seat 0 99 = true ∧ r.bad = false) ∨
    (inR r.hours 0 9 = true ∧ inR r.pence 0 99 = true ∧ inR r.stand 0 12 = true ∧ inR r.seat 0 99 = false ∧ ∃ b, (r.seat != -1) = b ∧ r.bad = b) := by
  unfold Rock.bad
  cases inR r.hours 0 9 <;> cases inR r.pence 0 99 <;> cases inR r.stand 0 12 <;> cases inR r.seat 0 99 <;> cases (r.seat != -1) <;> simp
theorem sh_check1_any (r : Rock) (w : World) :
    Calls Tryz.prog 170 #[.agg #[.int .i64 r.hours, .int .i64 r.pence, .int .i64 r.stand, .int .i64 r.seat]] w fun e w' => e = .returned (.bool r.bad) ∧ Below w.heap.size w w' := by
  rcases bad_cases r with ⟨h1, hr⟩ | ⟨h1, h2, hr⟩ | ⟨h1, h2, h3, hr⟩ | ⟨h1, h2, h3, h4, hr⟩ | ⟨h1, h2, h3, h4, b, h5, hr⟩
  case inr.inr.inr.inr =>
    cases b
    all_goals
      have HR := Lib.hid hr
      clear hr
      go_enter Tryz.func170, Tryz.ntmps170
      go_wp2_with (go_at_call 95; refine (within_any _ _ _ _).mono ?_; rintro e w' ⟨rfl, rfl⟩)
      go_ret
      exact ⟨ret_bool HR.out.symm, (Below.refl _ _).alloc (Nat.le_refl _) _⟩
  all_goals
    have HR := Lib.hid hr
    clear hr
    go_enter Tryz.func170, Tryz.ntmps170
    go_wp2_with (go_at_call 95; refine (within_any _ _ _ _).mono ?_; rintro e w' ⟨rfl, rfl⟩)
    go_ret
    exact ⟨ret_bool HR.out.symm, (Below.refl _ _).alloc (Nat.le_refl _) _⟩

set_option maxHeartbeats 400000 in
theorem indexRocks (A : Option Addr) (n c : Nat) (f : Nat → Rock) (w : World) (hn : n ≤ 9223372036854775807) (hr : RocksAt w A n f) :
    Calls Tryz.prog 196 #[.slice A n c, .func (.func 170) #[] #[]] w (Found (anyB (fun i => (f i).bad) n) w) := by
  have HC := Lib.hid hr
  clear hr
  go_enter Tryz.func196, Tryz.ntmps196
  go_wp2_with fail
  go_loopw [5, 8] (fun _ i wr => ∃ k : Nat, k ≤ n ∧ i = .int .i64 k ∧ anyB (fun i => (f i).bad) k = false ∧ Below w.heap.size w wr) (fun _ i _ => n - (intOf i).toNat)
  case atStart => exact ⟨0, Nat.zero_le _, rfl, rfl, Below.refl _ _⟩
  case round =>
    obtain ⟨k, hk, rfl, hno, hbel⟩ := hrel
    have HN := Lib.hid hno
    clear hno
    by_cases hlt : k < n
    · rcases HC.out with h0 | ⟨b, o, hA, hb, hcell⟩
      · omega
      obtain ⟨c0, c1, c2, c3⟩ := hcell k hlt
      clear hcell
      subst hA
      obtain ⟨bc, bf⟩ := bcell hbel
      cases hbad : (f k).bad
      · go_wp2_with (go_at_call 170; refine (sh_check1_any (f k) _).mono ?_; rintro e w' ⟨rfl, hb2⟩)
        go_roundw
        case rel => exact ⟨k + 1, by omega, by go_num, anyB_step HN.out hbad, bTrans hbel hb2⟩
        case measure => simp [intOf]; omega
      · go_wp2_with (go_at_call 170; refine (sh_check1_any (f k) _).mono ?_; rintro e w' ⟨rfl, hb2⟩)
        go_ret
        exact ⟨k, rfl, by rw [anyB_hit hlt hbad]; simp, bTrans hbel hb2⟩
    · obtain rfl : k = n := by omega
      go_wp2_with fail
      go_ret
      exact ⟨-1, rfl, by simp [HN.out], hbel⟩
theorem containsRocks (A : Option Addr) (n c : Nat) (f : Nat → Rock) (w : World) (hn : n ≤ 9223372036854775807) (hr : RocksAt w A n f) :
    Calls Tryz.prog 172 #[.slice A n c, .func (.func 170) #[] #[]] w fun e w' => e = .returned (.bool (anyB (fun i => (f i).bad) n)) ∧ Below w.heap.size w w' := by
  go_enter Tryz.func172, Tryz.ntmps172
  go_wp2_with (go_at_call 196; refine (indexRocks _ _ _ f _ hn hr).mono ?_; rintro e w' ⟨k, rfl, hk, hb⟩; have HK := Lib.hid hk; clear hk)
  all_goals
    go_ret
    exact ⟨ret_bool (by rw [← HK.out]), hb⟩

theorem sh_check2_any (n : Int) (a : Addr) (A : Option Addr) (k c : Nat) (w : World) (hk : k ≤ 9223372036854775807) (hc : w.cell? a = some (.slice A k c)) :
    Calls Tryz.prog 171 #[.int .i64 n, .pointer (some a)] w fun e w' => e = .returned (.bool (!inR n 0 (k - 1))) ∧ w = w' := by
  go_enter Tryz.func171, Tryz.ntmps171
  go_wp2_with (go_at_call 95; refine (within_any _ _ _ _).mono ?_; rintro e w' ⟨rfl, rfl⟩)
  go_ret
  exact ⟨rfl, rfl⟩
set_option maxHeartbeats 400000 in
theorem indexInts (A : Option Addr) (n c : Nat) (f : Nat → Int) (a : Addr) (A' : Option Addr) (k' c' : Nat) (w : World) (hn : n ≤ 9223372036854775807) (hk' : k' ≤ 9223372036854775807) (hr : IntsAt w A n f)
    (ha : a.block < w.heap.size) (hca : w.cell? a = some (.slice A' k' c')) :
    Calls Tryz.prog 197 #[.slice A n c, .func (.func 171) #[] #[.pointer (some a)]] w (Found (anyB (fun i => !inR (f i) 0 (k' - 1)) n) w) := by
  have HC := Lib.hid hr
  clear hr
  go_enter Tryz.func197, Tryz.ntmps197
  go_wp2_with fail
  go_loopw [5, 8] (fun _ i wr => ∃ k : Nat, k ≤ n ∧ i = .int .i64 k ∧ anyB (fun i => !inR (f i) 0 (k' - 1)) k = false ∧ Below w.heap.size w wr) (fun _ i _ => n - (intOf i).toNat)
  case atStart => exact ⟨0, Nat.zero_le _, rfl, rfl, Below.refl _ _⟩
  case round =>
    obtain ⟨k, hk, rfl, hno, hbel⟩ := hrel
    have HN := Lib.hid hno
    clear hno
    by_cases hlt : k < n
    · rcases HC.out with h0 | ⟨b, o, hA, hb, hcell⟩
      · omega
      have c0 := hcell k hlt
      clear hcell
      subst hA
      have hca' : wr.cell? a = some (.slice A' k' c') := (hbel.cell ha).trans hca
      obtain ⟨bc, bf⟩ := bcell hbel
      cases hbad : inR (f k) 0 (k' - 1)
      · go_wp2_with (go_at_call 171; refine (sh_check2_any (f k) a A' k' c' _ hk' hca').mono ?_; rintro e w' ⟨rfl, rfl⟩)
        go_ret
        exact ⟨k, rfl, by rw [anyB_hit hlt (by simp [hbad])]; simp, hbel⟩
      · go_wp2_with (go_at_call 171; refine (sh_check2_any (f k) a A' k' c' _ hk' hca').mono ?_; rintro e w' ⟨rfl, rfl⟩)
        go_roundw
        case rel => exact ⟨k + 1, by omega, by go_num, anyB_step HN.out (by simp [hbad]), hbel⟩
        case measure => simp [intOf]; omega
    · obtain rfl : k = n := by omega
      go_wp2_with fail
      go_ret
      exact ⟨-1, rfl, by simp [HN.out], hbel⟩
theorem containsInts (A : Option Addr) (n c : Nat) (f : Nat → Int) (a : Addr) (A' : Option Addr) (k' c' : Nat) (w : World) (hn : n ≤ 9223372036854775807) (hk' : k' ≤ 9223372036854775807) (hr : IntsAt w A n f)
    (ha : a.block < w.heap.size) (hca : w.cell? a = some (.slice A' k' c')) :
    Calls Tryz.prog 173 #[.slice A n c, .func (.func 171) #[] #[.pointer (some a)]] w
      fun e w' => e = .returned (.bool (anyB (fun i => !inR (f i) 0 (k' - 1)) n)) ∧ Below w.heap.size w w' := by
  go_enter Tryz.func173, Tryz.ntmps173
  go_wp2_with (go_at_call 197; refine (indexInts _ _ _ f a A' k' c' _ hn hk' hr ha hca).mono ?_; rintro e w' ⟨k, rfl, hk, hb⟩; have HK := Lib.hid hk; clear hk)
  all_goals
    go_ret
    exact ⟨ret_bool (by rw [← HK.out]), hb⟩
end Go.Proofs.YthnojgdckkdcgaaGreatDoor


namespace Go.Proofs.YthnojgdckkdcgaaGreatDoor
open Go.RowKit Go.Sort

open Classical in
noncomputable def Sh.err (S : Sh) : Int := if S.Ok then 0 else 20
theorem Sh.err_ok {S : Sh} (h : S.Ok) : S.err = 0 := if_pos h
theorem Sh.err_bad {S : Sh} (h : ¬ S.Ok) : S.err = 20 := if_neg h
theorem foot_in {S : Sh} {i : Nat} : inR (S.foot i) 0 ((S.nr : Int) - 1) = true ↔ 0 ≤ S.foot i ∧ S.foot i < S.nr := by rw [inR_iff]; omega
/-- the tests of shafts.Check, in the order of the text -/
theorem check_cases (S : Sh) : ((4 : Int) < (S.nr : Int) ∧ S.err = 20) ∨ (¬ (4 : Int) < (S.nr : Int) ∧ anyB (fun i => (S.rock i).bad) S.nr = true ∧ S.err = 20) ∨
    (¬ (4 : Int) < (S.nr : Int) ∧ anyB (fun i => (S.rock i).bad) S.nr = false ∧ (12 : Int) < (S.nf : Int) ∧ S.err = 20) ∨
    (¬ (4 : Int) < (S.nr : Int) ∧ anyB (fun i => (S.rock i).bad) S.nr = false ∧ ¬ (12 : Int) < (S.nf : Int) ∧ anyB (fun i => !inR (S.foot i) 0 (S.nr - 1)) S.nf = true ∧ S.err = 20) ∨
    (¬ (4 : Int) < (S.nr : Int) ∧ anyB (fun i => (S.rock i).bad) S.nr = false ∧ ¬ (12 : Int) < (S.nf : Int) ∧ anyB (fun i => !inR (S.foot i) 0 (S.nr - 1)) S.nf = false ∧ inR S.deep 0 9 = false ∧ S.err = 20) ∨
    (¬ (4 : Int) < (S.nr : Int) ∧ anyB (fun i => (S.rock i).bad) S.nr = false ∧ ¬ (12 : Int) < (S.nf : Int) ∧ anyB (fun i => !inR (S.foot i) 0 (S.nr - 1)) S.nf = false ∧ inR S.deep 0 9 = true ∧ inR S.haul 0 9 = false ∧ S.err = 20) ∨
    (¬ (4 : Int) < (S.nr : Int) ∧ anyB (fun i => (S.rock i).bad) S.nr = false ∧ ¬ (12 : Int) < (S.nf : Int) ∧ anyB (fun i => !inR (S.foot i) 0 (S.nr - 1)) S.nf = false ∧ inR S.deep 0 9 = true ∧ inR S.haul 0 9 = true ∧ inR S.rest 0 9 = false ∧ S.err = 20) ∨
    (¬ (4 : Int) < (S.nr : Int) ∧ anyB (fun i => (S.rock i).bad) S.nr = false ∧ ¬ (12 : Int) < (S.nf : Int) ∧ anyB (fun i => !inR (S.foot i) 0 (S.nr - 1)) S.nf = false ∧ inR S.deep 0 9 = true ∧ inR S.haul 0 9 = true ∧ inR S.rest 0 9 = true ∧ S.err = 0) := by
  by_cases h1 : (4 : Int) < (S.nr : Int)
  · exact .inl ⟨h1, Sh.err_bad fun h => by have := h.nr; omega⟩
  refine .inr ?_
  cases h2 : anyB (fun i => (S.rock i).bad) S.nr
  case true =>
    obtain ⟨i, hi, hb⟩ := anyB_true.1 h2
    exact .inl ⟨h1, rfl, Sh.err_bad fun h => by have := Rock.bad_iff.2 (h.rock i hi); rw [hb] at this; cases this⟩
  refine .inr ?_
  by_cases h3 : (12 : Int) < (S.nf : Int)
  · exact .inl ⟨h1, rfl, h3, Sh.err_bad fun h => by have := h.nf; omega⟩
  refine .inr ?_
  cases h4 : anyB (fun i => !inR (S.foot i) 0 (S.nr - 1)) S.nf
  case true =>
    obtain ⟨i, hi, hb⟩ := anyB_true.1 h4
    exact .inl ⟨h1, rfl, h3, rfl, Sh.err_bad fun h => by simp only [foot_in.2 ⟨h.f0 i hi, h.f1 i hi⟩] at hb; cases hb⟩
  refine .inr ?_
  cases h5 : inR S.deep 0 9
  · exact .inl ⟨h1, rfl, h3, rfl, rfl, Sh.err_bad fun h => by rw [inR_t ⟨h.d0, h.d1⟩] at h5; cases h5⟩
  refine .inr ?_
  cases h6 : inR S.haul 0 9
  · exact .inl ⟨h1, rfl, h3, rfl, rfl, rfl, Sh.err_bad fun h => by rw [inR_t ⟨h.l0, h.l1⟩] at h6; cases h6⟩
  refine .inr ?_
  cases h7 : inR S.rest 0 9
  · exact .inl ⟨h1, rfl, h3, rfl, rfl, rfl, rfl, Sh.err_bad fun h => by rw [inR_t ⟨h.r0, h.r1⟩] at h7; cases h7⟩
  refine .inr ⟨h1, rfl, h3, rfl, rfl, rfl, rfl, Sh.err_ok ⟨by omega, by omega, fun i hi => Rock.bad_iff.1 (anyB_false.1 h2 i hi), fun i hi => ?_, fun i hi => ?_, (inR_iff.1 h5).1, (inR_iff.1 h5).2, (inR_iff.1 h6).1, (inR_iff.1 h6).2, (inR_iff.1 h7).1, (inR_iff.1 h7).2⟩⟩
  · have := anyB_false.1 h4 i hi; simp only [Bool.not_eq_false'] at this; exact (foot_in.1 this).1
  · have := anyB_false.1 h4 i hi; simp only [Bool.not_eq_false'] at this; exact (foot_in.1 this).2

set_option maxHeartbeats 1000000 in
theorem check_any (Ar Af : Option Addr) (cr cf : Nat) (S : Sh) (w : World) (hr : S.nr ≤ 9223372036854775807) (hf : S.nf ≤ 9223372036854775807) (hS : ShAt w Ar Af S) :
    Calls Tryz.prog 138 #[.agg #[.slice Ar S.nr cr, .slice Af S.nf cf, .int .i64 S.deep, .int .i64 S.haul, .int .i64 S.rest]] w fun e w' => e = .returned (.int .i64 S.err) ∧ Below w.heap.size w w' := by
  have hb0 := bAlloc (Below.refl w.heap.size w) (.cells #[.slice Ar S.nr cr, .slice Af S.nf cf, .int .i64 S.deep, .int .i64 S.haul, .int .i64 S.rest] 68)
  have HS := Lib.hid (hS.mono hb0)
  have HB := Lib.hid hb0
  clear hS hb0
  rcases check_cases S with ⟨h1, he⟩ | ⟨h1, h2, he⟩ | ⟨h1, h2, h3, he⟩ | ⟨h1, h2, h3, h4, he⟩ | ⟨h1, h2, h3, h4, h5, he⟩ | ⟨h1, h2, h3, h4, h5, h6, he⟩ | ⟨h1, h2, h3, h4, h5, h6, h7, he⟩ | ⟨h1, h2, h3, h4, h5, h6, h7, he⟩
  all_goals
    have HE := Lib.hid he
    clear he
    go_enter Tryz.func138, Tryz.ntmps138
    go_wp2_with (first | (go_at_call 172; refine (containsRocks _ _ _ S.rock _ hr HS.out.rocks).mono ?_; rintro e w1 ⟨rfl, hb1⟩; obtain ⟨bc1, bf1⟩ := bcell hb1; have hz1 := hb1.size; simp only [World.size_alloc] at hz1; have hy1 : w.heap.size < w1.heap.size := hz1; have HI := Lib.hid (HS.out.feet.mono hb1)) | (go_at_call 173; refine (containsInts _ _ _ S.foot ⟨w.heap.size, 0, none⟩ Ar S.nr cr _ hf hr HI.out (show w.heap.size < w1.heap.size from by omega) (by rw [bc1 _ _ (by simp)]; simp [go_sem])).mono ?_; rintro e w2 ⟨rfl, hb2⟩; obtain ⟨bc2, bf2⟩ := bcell hb2; have hz2 := hb2.size; have hy2 : w.heap.size < w2.heap.size := by omega) | (go_at_call 95; refine (within_any _ _ _ _).mono ?_; rintro e w' ⟨rfl, rfl⟩))
    go_ret
    refine ⟨ret_int HE.out.symm, ?_⟩
    first
      | exact HB.out
      | exact bTrans HB.out (by assumption)
      | exact bTrans (bTrans HB.out hb1) (by assumption)
end Go.Proofs.YthnojgdckkdcgaaGreatDoor


namespace Go.Proofs.YthnojgdckkdcgaaGreatDoor
open Go.RowKit Go.Sort

theorem isRock_any (Ar Af : Option Addr) (cr cf : Nat) (S : Sh) (n : Int) (w : World) (hr : S.nr ≤ 9223372036854775807) :
    Calls Tryz.prog 35 #[.agg #[.slice Ar S.nr cr, .slice Af S.nf cf, .int .i64 S.deep, .int .i64 S.haul, .int .i64 S.rest], .int .i64 n] w fun e w' => e = .returned (.bool (inR n 0 (S.nr - 1))) ∧ Below w.heap.size w w' := by
  go_enter Tryz.func35, Tryz.ntmps35
  go_wp2_with (go_at_call 90; refine (within02_any _ _ _ _).mono ?_; rintro e w' ⟨rfl, rfl⟩)
  go_ret
  exact ⟨rfl, bAlloc (Below.refl _ _) _⟩
theorem rock_cases (r : Rock) : (inR r.hours 0 9 = false ∧ ¬ r.Ok) ∨ (inR r.hours 0 9 = true ∧ inR r.pence 0 99 = false ∧ ¬ r.Ok) ∨
    (inR r.hours 0 9 = true ∧ inR r.pence 0 99 = true ∧ inR r.stand 0 12 = false ∧ ¬ r.Ok) ∨
    (inR r.hours 0 9 = true ∧ inR r.pence 0 99 = true ∧ inR r.stand 0 12 = true ∧ inR r.seat (-1) 99 = false ∧ ¬ r.Ok) ∨
    (inR r.hours 0 9 = true ∧ inR r.pence 0 99 = true ∧ inR r.stand 0 12 = true ∧ inR r.seat (-1) 99 = true ∧ r.Ok) := by
  cases h1 : inR r.hours 0 9
  · exact .inl ⟨rfl, fun h => by rw [inR_t ⟨h.h0, h.h1⟩] at h1; cases h1⟩
  cases h2 : inR r.pence 0 99
  · exact .inr (.inl ⟨rfl, rfl, fun h => by rw [inR_t ⟨h.p0, h.p1⟩] at h2; cases h2⟩)
  cases h3 : inR r.stand 0 12
  · exact .inr (.inr (.inl ⟨rfl, rfl, rfl, fun h => by rw [inR_t ⟨h.s0, h.s1⟩] at h3; cases h3⟩))
  cases h4 : inR r.seat (-1) 99
  · exact .inr (.inr (.inr (.inl ⟨rfl, rfl, rfl, rfl, fun h => by rw [inR_t ⟨h.t0, h.t1⟩] at h4; cases h4⟩)))
  · exact .inr (.inr (.inr (.inr ⟨rfl, rfl, rfl, rfl, ⟨(inR_iff.1 h1).1, (inR_iff.1 h1).2, (inR_iff.1 h2).1, (inR_iff.1 h2).2, (inR_iff.1 h3).1, (inR_iff.1 h3).2, (inR_iff.1 h4).1, (inR_iff.1 h4).2⟩⟩)))
theorem err_foot {S : Sh} {k : Nat} (hk : k < S.nf) (h : inR (S.foot k) 0 (S.nr - 1) = false) : ¬ S.Ok := fun ok => by
  rw [foot_in.2 ⟨ok.f0 k hk, ok.f1 k hk⟩] at h; cases h
/-- the first test of steeningref02.Check -/
theorem head_cases (S : Sh) : ((4 : Int) < (S.nr : Int) ∧ ¬ S.Ok) ∨ (¬ (4 : Int) < (S.nr : Int) ∧ (12 : Int) < (S.nf : Int) ∧ ¬ S.Ok) ∨
    (¬ (4 : Int) < (S.nr : Int) ∧ ¬ (12 : Int) < (S.nf : Int) ∧ inR S.deep 0 9 = false ∧ ¬ S.Ok) ∨
    (¬ (4 : Int) < (S.nr : Int) ∧ ¬ (12 : Int) < (S.nf : Int) ∧ inR S.deep 0 9 = true ∧ inR S.haul 0 9 = false ∧ ¬ S.Ok) ∨
    (¬ (4 : Int) < (S.nr : Int) ∧ ¬ (12 : Int) < (S.nf : Int) ∧ inR S.deep 0 9 = true ∧ inR S.haul 0 9 = true ∧ inR S.rest 0 9 = false ∧ ¬ S.Ok) ∨
    (¬ (4 : Int) < (S.nr : Int) ∧ ¬ (12 : Int) < (S.nf : Int) ∧ inR S.deep 0 9 = true ∧ inR S.haul 0 9 = true ∧ inR S.rest 0 9 = true) := by
  by_cases h1 : (4 : Int) < (S.nr : Int)
  · exact .inl ⟨h1, fun h => by have := h.nr; omega⟩
  refine .inr ?_
  by_cases h3 : (12 : Int) < (S.nf : Int)
  · exact .inl ⟨h1, h3, fun h => by have := h.nf; omega⟩
  refine .inr ?_
  cases h5 : inR S.deep 0 9
  · exact .inl ⟨h1, h3, rfl, fun h => by rw [inR_t ⟨h.d0, h.d1⟩] at h5; cases h5⟩
  refine .inr ?_
  cases h6 : inR S.haul 0 9
  · exact .inl ⟨h1, h3, rfl, rfl, fun h => by rw [inR_t ⟨h.l0, h.l1⟩] at h6; cases h6⟩
  refine .inr ?_
  cases h7 : inR S.rest 0 9
  · exact .inl ⟨h1, h3, rfl, rfl, rfl, fun h => by rw [inR_t ⟨h.r0, h.r1⟩] at h7; cases h7⟩
  exact .inr ⟨h1, h3, rfl, rfl, rfl⟩

set_option maxHeartbeats 1000000 in
theorem refCheck_any (Ar Af : Option Addr) (cr cf : Nat) (S : Sh) (w : World) (hr : S.nr ≤ 9223372036854775807) (hf : S.nf ≤ 9223372036854775807) (hS : ShAt w Ar Af S) :
    Calls Tryz.prog 88 #[.agg #[.slice Ar S.nr cr, .slice Af S.nf cf, .int .i64 S.deep, .int .i64 S.haul, .int .i64 S.rest]] w fun e w' => e = .returned (.int .i64 S.err) ∧ Below w.heap.size w w' := by
  have hb0 := bAlloc (Below.refl w.heap.size w) (.cells #[.slice Ar S.nr cr, .slice Af S.nf cf, .int .i64 S.deep, .int .i64 S.haul, .int .i64 S.rest] 68)
  have HS := Lib.hid (hS.mono hb0)
  have HB := Lib.hid hb0
  clear hS hb0
  rcases head_cases S with ⟨h1, he⟩ | ⟨h1, h2, he⟩ | ⟨h1, h2, h3, he⟩ | ⟨h1, h2, h3, h4, he⟩ | ⟨h1, h2, h3, h4, h5, he⟩ | ⟨h1, h2, h3, h4, h5⟩
  case inr.inr.inr.inr.inr =>
    go_enter Tryz.func88, Tryz.ntmps88
    go_wp2_with (go_at_call 90; refine (within02_any _ _ _ _).mono ?_; rintro e w' ⟨rfl, rfl⟩)
    go_loopw [3] (fun i wr => ∃ k : Nat, k ≤ S.nr ∧ i = .int .i64 k ∧ (∀ j, j < k → (S.rock j).Ok) ∧ Below (w.alloc (.cells #[.slice Ar S.nr cr, .slice Af S.nf cf, .int .i64 S.deep, .int .i64 S.haul, .int .i64 S.rest] 68)).heap.size (w.alloc (.cells #[.slice Ar S.nr cr, .slice Af S.nf cf, .int .i64 S.deep, .int .i64 S.haul, .int .i64 S.rest] 68)) wr) (fun i _ => S.nr - (intOf i).toNat)
    case atStart => exact ⟨0, Nat.zero_le _, rfl, fun j hj => by omega, Below.refl _ _⟩
    case round =>
      obtain ⟨k, hk, rfl, hok, hbel⟩ := hrel
      have HO := Lib.hid hok
      clear hok
      obtain ⟨bc, bf⟩ := bcell hbel
      have hz := hbel.size
      simp only [World.size_alloc] at hz
      have hy : w.heap.size < wr.heap.size := hz
      by_cases hlt : k < S.nr
      · have HS1 := HS.out.mono hbel
        rcases HS1.rocks with h0 | ⟨b, o, hA, hb, hcell⟩
        · omega
        obtain ⟨c0, c1, c2, c3⟩ := hcell k hlt
        clear hcell HS1
        subst hA
        rcases rock_cases (S.rock k) with ⟨g1, he⟩ | ⟨g1, g2, he⟩ | ⟨g1, g2, g3, he⟩ | ⟨g1, g2, g3, g4, he⟩ | ⟨g1, g2, g3, g4, he⟩
        case inr.inr.inr.inr =>
          have HE := Lib.hid he
          clear he
          go_wp2_with (go_at_call 90; refine (within02_any _ _ _ _).mono ?_; rintro e w' ⟨rfl, rfl⟩)
          go_roundw
          case rel => exact ⟨k + 1, by omega, by go_num, fun j hj => by (rcases Nat.lt_or_ge j k with h | h); exact HO.out j h; (obtain rfl : j = k := by omega); exact HE.out, bAlloc hbel _⟩
          case measure => simp [intOf]; omega
        all_goals
          have HE := Lib.hid he
          clear he
          go_wp2_with (go_at_call 90; refine (within02_any _ _ _ _).mono ?_; rintro e w' ⟨rfl, rfl⟩)
          go_ret
          exact ⟨ret_int (Sh.err_bad fun h => HE.out (h.rock k hlt)).symm, bAlloc (bTrans HB.out hbel) _⟩
      · obtain rfl : k = S.nr := by omega
        go_wp2_with fail
        obtain ⟨w1, rfl⟩ : ∃ w1 : World, w1 = wr := ⟨_, rfl⟩
        have HB1 := Lib.hid (bTrans HB.out hbel)
        have HS1 := Lib.hid (HS.out.mono hbel)
        clear hbel
        go_loopw [5] (fun i wr => ∃ k : Nat, k ≤ S.nf ∧ i = .int .i64 k ∧ (∀ j, j < k → inR (S.foot j) 0 (S.nr - 1) = true) ∧ Below w1.heap.size w1 wr) (fun i _ => S.nf - (intOf i).toNat)
        case atStart => exact ⟨0, Nat.zero_le _, rfl, fun j hj => by omega, Below.refl _ _⟩
        case round =>
          obtain ⟨k, hk, rfl, hok, hbel⟩ := hrel
          have HP := Lib.hid hok
          clear hok
          obtain ⟨bc2, bf2⟩ := bcell hbel
          have hz2 := hbel.size
          have hy2 : w.heap.size < wr.heap.size := by omega
          by_cases hlt : k < S.nf
          · have HS2 := HS1.out.mono hbel
            rcases HS2.feet with h0 | ⟨b, o, hA, hb, hcell⟩
            · omega
            have c0 := hcell k hlt
            clear hcell HS2
            subst hA
            cases hin : inR (S.foot k) 0 (S.nr - 1)
            case' false => have HE := Lib.hid (err_foot hlt hin)
            all_goals
              go_wp2_with fail
              refine wp_region_quiet_below (by kernel_rfl) (by kernel_rfl) ?_
              repeat (go_big_quiet_step ((go_at_call 35; exact Calls.regrown_of (isRock_any _ _ _ _ S _ _ hr))))
              refine wpQuiet_nil ?_
              intro w3 hw3
              have hb3 := below_of_regrown hw3
              clear hw3
              go_wp2_with fail
            · go_ret
              exact ⟨ret_int (Sh.err_bad HE.out).symm, bTrans (bTrans HB1.out hbel) hb3⟩
            · go_roundw
              case rel => exact ⟨k + 1, by omega, by go_num, fun j hj => by (rcases Nat.lt_or_ge j k with h | h); exact HP.out j h; (obtain rfl : j = k := by omega); exact hin, bTrans hbel hb3⟩
              case measure => simp [intOf]; omega
          · obtain rfl : k = S.nf := by omega
            go_wp2_with fail
            go_ret
            exact ⟨ret_int (Sh.err_ok ⟨by omega, by omega, HO.out, fun i hi => (foot_in.1 (HP.out i hi)).1, fun i hi => (foot_in.1 (HP.out i hi)).2, (inR_iff.1 h3).1, (inR_iff.1 h3).2, (inR_iff.1 h4).1, (inR_iff.1 h4).2, (inR_iff.1 h5).1, (inR_iff.1 h5).2⟩).symm, bTrans HB1.out hbel⟩
  all_goals
    have HE := Lib.hid he
    clear he
    go_enter Tryz.func88, Tryz.ntmps88
    go_wp2_with (go_at_call 90; refine (within02_any _ _ _ _).mono ?_; rintro e w' ⟨rfl, rfl⟩)
    go_ret
    exact ⟨ret_int (Sh.err_bad HE.out).symm, HB.out⟩
end Go.Proofs.YthnojgdckkdcgaaGreatDoor


namespace Go.Proofs.YthnojgdckkdcgaaGreatDoor
open Go.RowKit Go.Sort

/-- the least Stand of m feet from a on (12 at the most) -/
def Sh.minSt (S : Sh) (a : Nat) : Nat → Int
  | 0 => 12
  | m + 1 => min (S.minSt a m) (S.rk (a + m)).stand
theorem Sh.minSt_bd {S : Sh} (ok : S.Ok) (a m : Nat) (h : a + m ≤ S.nf) : 0 ≤ S.minSt a m ∧ S.minSt a m ≤ 12 := by
  induction m with
  | zero => simp [Sh.minSt]
  | succ m ih =>
    have := ih (by omega)
    have h0 := (ok.rk (i := a + m) (by omega)).s0
    simp only [Sh.minSt]; omega
/-- whether the shaft falls with the foot f, if the last ring is at a -/
def Sh.fallsAt (S : Sh) (a f : Nat) : Bool := decide (S.minSt a (f + 1 - a) < (f : Int) - a + 1)
/-- the first foot from a on with which it falls, if no ring is laid below a -/
def Sh.falls (S : Sh) (a : Nat) : Nat := firstFrom (S.fallsAt a) (S.nf - a) a
theorem Sh.falls_bd (S : Sh) {a : Nat} (h : a ≤ S.nf) : a ≤ S.falls a ∧ S.falls a ≤ S.nf := by
  have := firstFrom_spec (S.fallsAt a) (S.nf - a) a
  unfold Sh.falls; omega
/-! ### Stops -/
/-- the depth from which one goes on behind k stops -/
def stopAt (g : Nat → Int) : Nat → Nat
  | 0 => 0
  | k + 1 => (g k).toNat
/-- the price of a foot, and of a ring at a depth -/
def Sh.price (S : Sh) (i : Nat) : Int := (S.rk i).pence + i * S.deep
def Sh.ringc (S : Sh) (d : Nat) : Int := (S.rk (d - 1)).seat + d * S.haul
def Sh.restsB (S : Sh) (d : Nat) : Bool := (S.rk (d - 1)).seat != -1
def Sh.hour (S : Sh) (i : Nat) : Int := (S.rk i).hours
end Go.Proofs.YthnojgdckkdcgaaGreatDoor


namespace Go.Proofs.YthnojgdckkdcgaaGreatDoor
open Go.RowKit Go.Sort

end Go.Proofs.YthnojgdckkdcgaaGreatDoor


namespace Go.Proofs.YthnojgdckkdcgaaGreatDoor
open Go.RowKit Go.Sort

theorem sh_mul_bd {a b : Int} (h0 : 0 ≤ a) (h1 : a ≤ 12) (h2 : 0 ≤ b) (h3 : b ≤ 9) : 0 ≤ a * b ∧ a * b ≤ 108 :=
  ⟨Int.mul_nonneg h0 h2, by have := Int.mul_le_mul h1 h3 h2 (by omega : (0:Int) ≤ 12); omega⟩
theorem rock_any (Ar Af : Option Addr) (cr cf : Nat) (S : Sh) (w : World) (ok : S.Ok) (hS : ShAt w Ar Af S) (n : Int) (i : Nat) (hn : n = i) (hi : i < S.nf) :
    Calls Tryz.prog 195 #[.agg #[.slice Ar S.nr cr, .slice Af S.nf cf, .int .i64 S.deep, .int .i64 S.haul, .int .i64 S.rest], .int .i64 n] w fun e w' => e = .returned (.agg #[.int .i64 (S.rk i).hours, .int .i64 (S.rk i).pence, .int .i64 (S.rk i).stand, .int .i64 (S.rk i).seat]) ∧ Below w.heap.size w w' := by
  subst hn
  obtain ⟨ba, oa, bf, of_, k, rfl, rfl, hba, hbf, hk, c0, c1, c2, c3, c4⟩ := hS.foot ok hi
  have hnr := ok.nr
  have hnf := ok.nf
  go_enter Tryz.func195, Tryz.ntmps195
  go_wp2_with fail
  go_region
  go_wp2_with fail
  exact bodyPost_ret (v := .agg #[.int .i64 (S.rk i).hours, .int .i64 (S.rk i).pence, .int .i64 (S.rk i).stand, .int .i64 (S.rk i).seat]) (by simp [results, Tryz.results195, go_sem]) rfl ⟨rfl, by (repeat (first | (with_reducible exact Below.refl _ _) | (with_reducible refine bAlloc ?_ _) | (with_reducible refine bDrew ?_) | (with_reducible refine bGrow ?_ _ _) | (with_reducible refine bSet ?_ ?_ _; (first | exact Nat.le_refl _ | exact Nat.le_add_right _ _ | (simp; omega))) | (with_reducible refine bTrans ?_ (by assumption))))⟩
theorem rests_any (Ar Af : Option Addr) (cr cf : Nat) (S : Sh) (w : World) (ok : S.Ok) (hS : ShAt w Ar Af S) (n : Int) (d : Nat) (hn : n = d) (h1 : 1 ≤ d) (hd : d ≤ S.nf) :
    Calls Tryz.prog 206 #[.agg #[.slice Ar S.nr cr, .slice Af S.nf cf, .int .i64 S.deep, .int .i64 S.haul, .int .i64 S.rest], .int .i64 n] w fun e w' => e = .returned (.bool (S.restsB d)) ∧ Below w.heap.size w w' := by
  subst hn
  have hb0 := bAlloc (Below.refl w.heap.size w) (.cells #[.slice Ar S.nr cr, .slice Af S.nf cf, .int .i64 S.deep, .int .i64 S.haul, .int .i64 S.rest] 150)
  have HS := Lib.hid (hS.mono hb0)
  have HB := Lib.hid hb0
  clear hS hb0
  have hi : d - 1 < S.nf := by omega
  have hnf := ok.nf
  go_enter Tryz.func206, Tryz.ntmps206
  go_wp2_with (go_at_call 195; refine (rock_any _ _ _ _ S _ ok HS.out _ (d - 1) (by omega) hi).mono ?_; rintro e w1 ⟨rfl, hb1⟩)
  go_ret
  exact ⟨rfl, bTrans HB.out hb1⟩
theorem plus_any (a b c d : Int) (w : World) (h : 0 ≤ a ∧ a ≤ 10000 ∧ 0 ≤ b ∧ b ≤ 10000 ∧ -1 ≤ c ∧ c ≤ 10000 ∧ 0 ≤ d ∧ d ≤ 10000) :
    Calls Tryz.prog 168 #[.agg #[.int .i64 a, .int .i64 b], .agg #[.int .i64 c, .int .i64 d]] w fun e w' => e = .returned (.agg #[.int .i64 (a + c), .int .i64 (b + d)]) ∧ Below w.heap.size w w' := by
  obtain ⟨a0, a1, b0, b1, c0, c1, d0, d1⟩ := h
  go_enter Tryz.func168, Tryz.ntmps168
  go_wp2_with fail
  exact bodyPost_ret (v := .agg #[.int .i64 (a + c), .int .i64 (b + d)]) (by simp [results, Tryz.results168, go_sem]) rfl ⟨rfl, by (repeat (first | (with_reducible exact Below.refl _ _) | (with_reducible refine bAlloc ?_ _) | (with_reducible refine bDrew ?_) | (with_reducible refine bGrow ?_ _ _) | (with_reducible refine bSet ?_ ?_ _; (first | exact Nat.le_refl _ | exact Nat.le_add_right _ _ | (simp; omega))) | (with_reducible refine bTrans ?_ (by assumption))))⟩
end Go.Proofs.YthnojgdckkdcgaaGreatDoor


