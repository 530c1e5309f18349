/- Parts joined. -/
import Derived.Test.YtchhodikgllgnaaDoorTie
import Derived.Test.YtchhodikgllgnaaDoorJM
import Derived.Test.YtchhodikgllgnaaDoorJE
import Derived.ProofKit
import Derived.LaidMore
import Derived.OpenShut
import Derived.Deep.Slices
import Derived.Deep.Fields
import Derived.Stop.Joined
set_option linter.unusedSimpArgs false
set_option linter.unusedVariables false
/- The frame of the statements of quarrels: how a town, a question, draws, a fact and a test that came in read, and that they fit into memory; what the listed variable holds; that all reads afterwards as before. No condition. -/
namespace Go.Proofs.YtchhodikgllgnaaDoor
open Go.RowKit Go.Sort Go.ChangeShapes Go.WideShapes Go.ChangeAt Go.Deep
theorem ownK : ownKnob Tryd.prog.godebug = none := by kernel_rfl
theorem laidOutP : laidOutB Tryd.prog = true := by kernel_rfl
theorem three_ints {H : Type} {enc : TypeId × Value → H} {P : Program} {w : World} {base : Nat} {sp : Nat → Bool} {held : Bool} {t ti : TypeId} {f0 f1 f2 : Field} {fuel : Nat} {cs : List Value} {x : DataW H × List MemPlace} (ht : P.underlying t = some (.struct #[f0, f1, f2])) (hone : oneCellFields P #[f0, f1, f2] = true && (f0.type == ti && f1.type == ti && f2.type == ti) && P.cellsOf t == 3)
    (hi : P.underlying ti = some (.int .i64)) (h : DataW.trod enc P w base sp held fuel t cs = some x) : ∃ a b c, cs = [.int .i64 a, .int .i64 b, .int .i64 c] ∧ x = (.agg [.lit (.int .i64 a), .lit (.int .i64 b), .lit (.int .i64 c)], []) := by
  simp only [Bool.and_eq_true, beq_iff_eq, decide_eq_true_eq] at hone
  obtain ⟨⟨ho, ⟨e0, e1⟩, e2⟩, hC⟩ := hone
  obtain ⟨xs, n, _, hx, hlen, hxl, hg⟩ := DataW.trod_struct ht h
  obtain ⟨o0, k0⟩ := hone_of ho 0 f0 rfl
  obtain ⟨o1, k1⟩ := hone_of ho 1 f1 rfl
  obtain ⟨o2, k2⟩ := hone_of ho 2 f2 rfl
  match cs, hlen.trans hC, xs, hxl with
  | [c0, c1, c2], _, [y0, y1, y2], _ =>
    have g0 := hg 0 f0 rfl
    have g1 := hg 1 f1 rfl
    have g2 := hg 2 f2 rfl
    rw [o0, k0] at g0
    rw [o1, k1] at g1
    rw [o2, k2] at g2
    rw [e0] at g0
    rw [e1] at g1
    rw [e2] at g2
    simp only [List.drop_zero, List.take_succ_cons, List.take_zero, List.drop_succ_cons, List.getElem?_cons_zero, List.getElem?_cons_succ] at g0 g1 g2
    obtain ⟨a, h0, h0', _⟩ := DataW.trod_int hi g0
    obtain ⟨b, h1, h1', _⟩ := DataW.trod_int hi g1
    obtain ⟨c, h2, h2', _⟩ := DataW.trod_int hi g2
    injection h0 with h0
    injection h1 with h1
    injection h2 with h2
    subst h0 h1 h2 h0' h1' h2'
    exact ⟨a, b, c, rfl, hx⟩
section
variable {H : Type} {enc : TypeId × Value → H} {P : Program}
/-- what came in reads as before, if nothing of it has turned -/
theorem trodAll_stays (hl : laidOutB P = true) {W W' : World} {sp : Nat → Bool} (hb : Below W.heap.size W W') : ∀ {ts : List TypeId} {vs : List Value} {ds : List (DataW H)} {ps : List MemPlace},
    (∀ t ∈ ts, P.readableRec t = true ∧ t < P.types.size) → DataW.TrodAll enc P W 0 (fun _ => true) true ts vs ds ps → (∀ p ∈ ps, p.block < W.heap.size) → (∀ p ∈ ps, sp p.block = true) → DataW.TrodAll enc P W' 0 sp true ts vs ds ps
  | [], [], [], ps, _, h, _, _ => h
  | t :: ts, v :: vs, d :: ds, ps, ht, h, hlt, hsp => by
    obtain ⟨p, q, h1, h2, rfl⟩ := h
    exact ⟨p, q, WideElems.Trod_stays hl (ht t (by simp)).1 (ht t (by simp)).2 h1 (fun x hx => hb.same (hlt x (by simp [hx]))) (fun x hx => hsp x (by simp [hx])),
      trodAll_stays hl hb (fun u hu => ht u (by simp [hu])) h2 (fun x hx => hlt x (by simp [hx])) (fun x hx => hsp x (by simp [hx])), rfl⟩
  | [], [], _ :: _, _, _, h, _, _ => h.elim
  | [], _ :: _, _, _, _, h, _, _ => h.elim
  | _ :: _, [], _, _, _, h, _, _ => h.elim
  | _ :: _, _ :: _, [], _, _, h, _, _ => h.elim
/-- a law that has returned true, and has left all as it was -/
theorem post_law {f : Func} {s : ChangeSpec} {W W' : World} {args : Array Value} {ds : List (DataW H)} {before : List MemPlace} (hl : laidOutB P = true) (hv : s.vars = []) {tb : TypeId} (hbool : P.underlying tb = some .bool) (hres : f.resultTypes = #[tb])
    (hts : ∀ t ∈ f.params.toList, P.readableRec t = true ∧ t < P.types.size) (hfn : s.fn H (ds ++ []) = { results := [.lit (.bool true)], args := ds })
    (hW : DataW.Whole enc P f.params.toList s.vars false W args.toList ds [] before) (hb : Below W.heap.size W W') : s.post enc P f false true false false W args (.bool true) W' := by
  have hlt : ∀ p ∈ before, p.block < W.heap.size := fun p hp => hW.lt p hp
  obtain ⟨p, q, hA, hV, hpq, hz, hn⟩ := id hW
  rw [hv] at hV
  have hq : q = [] := hV
  subst hq
  rw [List.append_nil] at hpq
  subst hpq
  have hok : ∀ (j : Nat) (t : TypeId) (r : Value), f.resultTypes[j]? = some t → ((Value.bool true).resultList f.resultTypes.size)[j]? = some r → Value.okWide P W' .any 0 t r := ok_one hres rfl (okWide_bool_mk hbool _)
  have hbt : ∀ (b : Nat) (sp : Nat → Bool) (hd : Bool), DataW.TrodAll enc P W' b sp hd f.resultTypes.toList ((Value.bool true).resultList f.resultTypes.size) (s.fn H (ds ++ [])).results [] := fun b sp hd => by
    rw [hres, hfn]; exact trodAll_mk1 (shut_bool hbool _)
  have harg : ∀ sp : Nat → Bool, (∀ x ∈ before, sp x.block = true) → DataW.TrodAll enc P W' 0 sp true f.params.toList args.toList (s.fn H (ds ++ [])).args before := fun sp hsp => by
    rw [hfn]; exact trodAll_stays hl hb hts hA hlt hsp
  have hvar : ∀ sp : Nat → Bool, DataW.TrodVars enc P W' sp s.vars (s.fn H (ds ++ [])).vars [] := fun sp => by
    rw [hv, hfn]; exact rfl
  refine ⟨ds, [], before, [], before, [], hW, hbt _ _ _, harg _ (fun x hx => by simpa using hlt x hx), hvar _, World.keptBut_mono (fun x hx => ⟨hx, .inr (by simpa using hx)⟩) (hb.frame (· ∈ before)), fun _ => ?_⟩
  refine ⟨hok, _, _, [] ++ before, ⟨[] ++ before, [], trodAll_append (harg _ (fun _ _ => rfl)) (hbt _ _ _), hvar _, by simp, ?_, fun h => by cases h⟩, fun x hx _ => by simpa using hx⟩
  intro b off hp
  have hp' : MemPlace.cell b off ∈ before := by simpa using hp
  rw [hb.frozen (p := ⟨b, off, none⟩) (hlt _ hp')]
  exact hz b off hp'
end
def intAt (w : World) (p : Addr) : Int := match w.cell? p with | some (.int _ n) => n | _ => 0
theorem add_none (b o j : Nat) : (⟨b, o, none⟩ : Addr).add j = ⟨b, o + j, none⟩ := by unfold Addr.add; split <;> simp_all
section
variable {H : Type} {enc : TypeId × Value → H} {P : Program} {w : World} {base : Nat} {sp : Nat → Bool} {held : Bool}
/-- a slice that came in: its length, its capacity, its address -/
def SliceIn (A : Option Addr) (n c : Nat) : Prop := n ≤ c ∧ c ≤ 9223372036854775807 ∧ (A = none → n = 0 ∧ c = 0)
theorem ints_in {t e : TypeId} {fuel : Nat} {cs : List Value} {x : DataW H × List MemPlace} (ht : P.underlying t = some (.slice e)) (hi : P.underlying e = some (.int .i64)) (hc : P.cellsOf e = 1) (h : DataW.trod enc P w base sp held fuel t cs = some x) :
    ∃ A n c g, cs = [.slice A n c] ∧ IntsAt w A n g ∧ SliceIn A n c := by
  rcases open_slice1 ht hc h with ⟨h0, _⟩ | ⟨a, len, cap, m, n, V, D, Pl, hcs, hb, hl, hm, hmm, hx, hel⟩
  · exact ⟨none, 0, 0, fun _ => 0, h0, .inl rfl, Nat.le_refl _, by omega, fun _ => ⟨rfl, rfl⟩⟩
  · have hlm : len ≤ m := by rw [hmm]; split <;> omega
    have hin : SliceIn (some a) len cap := ⟨hl, by unfold maxLen at hm; exact hm, fun h => by cases h⟩
    rcases Nat.eq_zero_or_pos len with h0 | h0
    · subst h0; exact ⟨_, 0, cap, fun _ => 0, hcs, .inl rfl, hin⟩
    · have h1 := (hel 0 (by omega)).1
      have hs : a.spot = none := by simpa [Addr.add] using World.cell?_spot h1
      obtain ⟨b, o, s⟩ := a
      simp only at hs
      subst hs
      refine ⟨_, len, cap, fun i => intAt w ⟨b, o + i, none⟩, hcs, .inr ⟨b, o, rfl, World.block_lt_of_cell? w _ (by simpa [Addr.add] using h1), fun i hi' => ?_⟩, hin⟩
      obtain ⟨g1, g2⟩ := hel i (by omega)
      obtain ⟨k, hk, _⟩ := DataW.trod_int hi g2
      injection hk with hk
      rw [add_none, hk] at g1
      simp only [intAt, g1]

/-! ### What fits into memory -/
theorem wAll_mem {e : TypeId} {d : DataW H} {y : Nat} (hy : y ∈ d.weights P e) : ∀ {l : List (DataW H)}, d ∈ l → y ∈ DataW.weightsAll P e l
  | [], h => by cases h
  | x :: l, h => by
    unfold DataW.weightsAll
    rcases List.mem_cons.1 h with rfl | h
    · exact List.mem_append_left _ hy
    · exact List.mem_append_right _ (wAll_mem hy h)
theorem wEach_mem {y : Nat} : ∀ {ts : List TypeId} {ds : List (DataW H)} {j : Nat} {t : TypeId} {d : DataW H}, ts[j]? = some t → ds[j]? = some d → y ∈ d.weights P t → y ∈ DataW.weightsEach P ts ds
  | [], _, _, _, _, h, _, _ => by simp at h
  | _ :: _, [], _, _, _, _, h, _ => by simp at h
  | u :: ts, x :: ds, 0, t, d, h1, h2, hy => by
    obtain rfl : u = t := by simpa using h1
    obtain rfl : x = d := by simpa using h2
    unfold DataW.weightsEach
    exact List.mem_append_left _ hy
  | u :: ts, x :: ds, j + 1, t, d, h1, h2, hy => by
    unfold DataW.weightsEach
    exact List.mem_append_right _ (wEach_mem (j := j) (by simpa using h1) (by simpa using h2) hy)
/-- each slice of it takes at most so much -/
def Fit (P : Program) (t : TypeId) (d : DataW H) : Prop := ∀ y, y ∈ d.weights P t → y ≤ 140737488351232
theorem fit_arg {ts : List TypeId} {ds : List (DataW H)} (h : (DataW.weightsEach P ts ds).all (· ≤ reachBytes) = true) {j : Nat} {t : TypeId} {d : DataW H} (h1 : ts[j]? = some t) (h2 : ds[j]? = some d) : Fit P t d := fun y hy => by
  have := List.all_eq_true.1 h y (wEach_mem h1 h2 hy)
  exact (of_decide_eq_true this : y ≤ reachBytes)
theorem fit_slice {t e : TypeId} {len : Nat} {D : Nat → DataW H} {sp : List (DataW H)} (ht : P.underlying t = some (.slice e)) (h : Fit P t (.slice ((List.range len).map D) sp)) : len * P.bytesOf e ≤ 140737488351232 ∧ ∀ i, i < len → Fit P e (D i) := by
  have e1 : (DataW.slice ((List.range len).map D) sp).weights P t = (((List.range len).map D).length + sp.length) * P.bytesOf e :: (DataW.weightsAll P e ((List.range len).map D) ++ DataW.weightsAll P e sp) := by
    unfold DataW.weights
    rw [ht]
  unfold Fit at h
  rw [e1] at h
  constructor
  · have := h _ (List.mem_cons_self ..)
    rw [List.length_map, List.length_range, Nat.add_mul] at this
    omega
  · exact fun i hi y hy => h y (List.mem_cons_of_mem _ (List.mem_append_left _ (wAll_mem hy (List.mem_map.2 ⟨i, List.mem_range.2 hi, rfl⟩))))
theorem fit_part {t : TypeId} {fs : Array Field} {parts : List (DataW H)} (ht : P.underlying t = some (.struct fs)) (h : Fit P t (.agg parts)) {j : Nat} {f : Field} {d : DataW H} (h1 : fs[j]? = some f) (h2 : parts[j]? = some d) : Fit P f.type d := fun y hy => by
  refine h y ?_
  have e1 : (DataW.agg parts).weights P t = DataW.weightsEach P (fs.toList.map (·.type)) parts := by
    unfold DataW.weights
    rw [ht]
  rw [e1]
  exact wEach_mem (by simp [h1]) h2 hy
/-- numbers that came in -/
theorem ints_fit {t e : TypeId} {fuel : Nat} {cs : List Value} {x : DataW H × List MemPlace} (ht : P.underlying t = some (.slice e)) (hi : P.underlying e = some (.int .i64)) (hc : P.cellsOf e = 1) (hb : P.bytesOf e = 8) (hf : Fit P t x.1) (h : DataW.trod enc P w base sp held fuel t cs = some x) :
    ∃ A n c g, cs = [.slice A n c] ∧ IntsAt w A n g ∧ SliceIn A n c ∧ n * 8 ≤ 140737488351232 := by
  obtain ⟨A, n, c, g, h1, h2, h3⟩ := ints_in ht hi hc h
  refine ⟨A, n, c, g, h1, h2, h3, ?_⟩
  rcases open_slice ht h with ⟨h0, _⟩ | ⟨a, len, cap, m, n', D, Pl, hcs, _, _, _, _, hx, _⟩
  · rw [h0] at h1
    injection h1 with h1
    injection h1 with _ h1
    subst h1
    omega
  · rw [hcs] at h1
    injection h1 with h1
    injection h1 with _ h1
    subst h1
    rw [hx] at hf
    have := (fit_slice ht hf).1
    rwa [hb] at this
/-- the rows of a world -/
theorem rows_fit {t e i : TypeId} {fuel : Nat} {cs : List Value} {x : DataW H × List MemPlace} (ht : P.underlying t = some (.slice e)) (he : P.underlying e = some (.slice i)) (hi : P.underlying i = some (.int .i64)) (hq : (P.cellsOf e == 1 && P.cellsOf i == 1 && P.bytesOf e == 24 && P.bytesOf i == 8) = true) (hf : Fit P t x.1) (h : DataW.trod enc P w base sp held fuel t cs = some x) :
    ∃ A c y, cs = [.slice A (Wd.n y) c] ∧ RowsAt w A y ∧ y.Fits ∧ SliceIn A y.n c := by
  simp only [Bool.and_eq_true, beq_iff_eq] at hq
  obtain ⟨⟨⟨q0, q1⟩, q2⟩, q3⟩ := hq
  rcases open_slice1 ht q0 h with ⟨h0, _⟩ | ⟨a, len, cap, m, n, V, D, Pl, hcs, hb, hl, hm, hmm, hx, hel⟩
  · exact ⟨none, 0, ⟨0, fun _ => 0, fun _ _ => 0⟩, h0, .inl rfl, ⟨by decide, fun k hk => absurd hk (Nat.not_lt_zero _)⟩, Nat.le_refl _, by omega, fun _ => ⟨rfl, rfl⟩⟩
  · have hlm : len ≤ m := by rw [hmm]; split <;> omega
    have hin : SliceIn (some a) len cap := ⟨hl, by unfold maxLen at hm; exact hm, fun h => by cases h⟩
    have hf' : Fit P t (.slice ((List.range len).map D) ((List.range (m - len)).map fun j => D (len + j))) := by rw [hx] at hf; exact hf
    obtain ⟨f1, f2⟩ := fit_slice ht hf'
    rw [q2] at f1
    rcases Nat.eq_zero_or_pos len with h0 | h0
    · subst h0
      exact ⟨_, cap, ⟨0, fun _ => 0, fun _ _ => 0⟩, hcs, .inl rfl, ⟨by decide, fun k hk => absurd hk (Nat.not_lt_zero _)⟩, hin⟩
    · have h1 := (hel 0 (by omega)).1
      have hs : a.spot = none := by simpa [Addr.add] using World.cell?_spot h1
      obtain ⟨b, o, s⟩ := a
      simp only at hs
      subst hs
      obtain ⟨G, hG⟩ := choose_lt (α := Nat × (Nat → Int)) (n := len) (p := fun k y => ∃ A' c', w.cell? ⟨b, o + k, none⟩ = some (.slice A' y.1 c') ∧ IntsAt w A' y.1 y.2 ∧ y.1 ≤ 9223372036854775807 ∧ y.1 * 8 ≤ 140737488351232) fun k hk => by
        obtain ⟨g1, g2⟩ := hel k (by omega)
        obtain ⟨A', n', c', g, e1, e2, e3, e4⟩ := ints_fit he hi q1 q3 (f2 k hk) g2
        injection e1 with e1
        rw [add_none, e1] at g1
        exact ⟨(n', g), A', c', g1, e2, Nat.le_trans e3.1 e3.2.1, e4⟩
      refine ⟨_, cap, ⟨len, fun k => (G k).1, fun k => (G k).2⟩, hcs, .inr ⟨b, o, rfl, World.block_lt_of_cell? w _ (by simpa [Addr.add] using h1), fun k hk => ?_⟩, ⟨f1, fun k hk => ?_⟩, hin⟩
      · obtain ⟨A', c', e1, e2, e3, _⟩ := hG k hk
        exact ⟨A', c', e1, e2, e3⟩
      · obtain ⟨A', c', _, _, _, e4⟩ := hG k hk
        exact e4
/-- the worlds of a town -/
theorem worlds_fit {t e r l i : TypeId} {f0 : Field} {fuel : Nat} {cs : List Value} {x : DataW H × List MemPlace} (ht : P.underlying t = some (.slice e)) (he : P.underlying e = some (.struct #[f0])) (hr : P.underlying r = some (.slice l)) (hl' : P.underlying l = some (.slice i)) (hi : P.underlying i = some (.int .i64))
    (hq : (oneCellFields P #[f0] && f0.type == r && P.cellsOf e == 1 && P.cellsOf l == 1 && P.cellsOf i == 1 && P.bytesOf e == 24 && P.bytesOf l == 24 && P.bytesOf i == 8) = true) (hf : Fit P t x.1) (h : DataW.trod enc P w base sp held fuel t cs = some x) :
    ∃ A n c f, cs = [.slice A n c] ∧ WorldsAt w A n f ∧ (∀ i, i < n → (f i).Fits) ∧ n * 24 ≤ 140737488351232 ∧ SliceIn A n c := by
  simp only [Bool.and_eq_true, beq_iff_eq] at hq
  obtain ⟨⟨⟨⟨⟨⟨⟨ho, hr0⟩, q0⟩, q1⟩, q2⟩, q3⟩, q4⟩, q5⟩ := hq
  obtain ⟨o0, k0⟩ := hone_of ho 0 f0 rfl
  rcases open_slice1 ht q0 h with ⟨h0, _⟩ | ⟨a, len, cap, m, n, V, D, Pl, hcs, hb, hl, hm, hmm, hx, hel⟩
  · exact ⟨none, 0, 0, fun _ => ⟨0, fun _ => 0, fun _ _ => 0⟩, h0, .inl rfl, (fun i hi => absurd hi (Nat.not_lt_zero _)), by decide, Nat.le_refl _, by omega, fun _ => ⟨rfl, rfl⟩⟩
  · have hlm : len ≤ m := by rw [hmm]; split <;> omega
    have hin : SliceIn (some a) len cap := ⟨hl, by unfold maxLen at hm; exact hm, fun h => by cases h⟩
    have hf' : Fit P t (.slice ((List.range len).map D) ((List.range (m - len)).map fun j => D (len + j))) := by rw [hx] at hf; exact hf
    obtain ⟨f1, f2⟩ := fit_slice ht hf'
    rw [q3] at f1
    rcases Nat.eq_zero_or_pos len with h0 | h0
    · subst h0
      exact ⟨_, 0, cap, fun _ => ⟨0, fun _ => 0, fun _ _ => 0⟩, hcs, .inl rfl, (fun i hi => absurd hi (Nat.not_lt_zero _)), by decide, hin⟩
    · have h1 := (hel 0 (by omega)).1
      have hs : a.spot = none := by simpa [Addr.add] using World.cell?_spot h1
      obtain ⟨b, o, s⟩ := a
      simp only at hs
      subst hs
      haveI : Inhabited Wd := ⟨⟨0, fun _ => 0, fun _ _ => 0⟩⟩
      obtain ⟨G, hG⟩ := choose_lt (α := Wd) (n := len) (p := fun k y => (∃ A' c', w.cell? ⟨b, o + k, none⟩ = some (.slice A' y.n c') ∧ RowsAt w A' y ∧ y.n ≤ 9223372036854775807) ∧ y.Fits) fun k hk => by
        obtain ⟨g1, g2⟩ := hel k (by omega)
        obtain ⟨y0, n', e1, e2, e3⟩ := trod_struct1 he g2
        rw [o0, k0, hr0] at e3
        have hfk := f2 k hk
        rw [show D k = .agg [y0.1] from congrArg Prod.fst e1] at hfk
        have hfk := fit_part he hfk (j := 0) (f := f0) (d := y0.1) rfl rfl
        rw [hr0] at hfk
        obtain ⟨A', c', y, u1, u2, u3, u4⟩ := rows_fit hr hl' hi (by simp [q1, q2, q4, q5]) hfk e3
        simp only [List.drop_zero, List.take_succ_cons, List.take_zero] at u1
        injection u1 with u1
        rw [add_none, u1] at g1
        exact ⟨y, ⟨A', c', g1, u2, Nat.le_trans u4.1 u4.2.1⟩, u3⟩
      exact ⟨_, len, cap, G, hcs, .inr ⟨b, o, rfl, World.block_lt_of_cell? w _ (by simpa [Addr.add] using h1), fun k hk => (hG k hk).1⟩, (fun k hk => (hG k hk).2), f1, hin⟩
theorem five_ints {t ti : TypeId} {f0 f1 f2 f3 f4 : Field} {fuel : Nat} {cs : List Value} {x : DataW H × List MemPlace} (ht : P.underlying t = some (.struct #[f0, f1, f2, f3, f4])) (hone : oneCellFields P #[f0, f1, f2, f3, f4] = true && (f0.type == ti && f1.type == ti && f2.type == ti && f3.type == ti && f4.type == ti) && P.cellsOf t == 5)
    (hi : P.underlying ti = some (.int .i64)) (h : DataW.trod enc P w base sp held fuel t cs = some x) : ∃ a b c d e, cs = [.int .i64 a, .int .i64 b, .int .i64 c, .int .i64 d, .int .i64 e] ∧ (Lit.int .i64 a).wf = true ∧ (Lit.int .i64 b).wf = true ∧ (Lit.int .i64 c).wf = true ∧ (Lit.int .i64 d).wf = true ∧ (Lit.int .i64 e).wf = true := by
  simp only [Bool.and_eq_true, beq_iff_eq, decide_eq_true_eq] at hone
  obtain ⟨⟨ho, ⟨⟨⟨e0, e1⟩, e2⟩, e3⟩, e4⟩, hC⟩ := hone
  obtain ⟨xs, n, _, hx, hlen, hxl, hg⟩ := DataW.trod_struct ht h
  obtain ⟨o0, k0⟩ := hone_of ho 0 f0 rfl
  obtain ⟨o1, k1⟩ := hone_of ho 1 f1 rfl
  obtain ⟨o2, k2⟩ := hone_of ho 2 f2 rfl
  obtain ⟨o3, k3⟩ := hone_of ho 3 f3 rfl
  obtain ⟨o4, k4⟩ := hone_of ho 4 f4 rfl
  match cs, hlen.trans hC, xs, hxl with
  | [c0, c1, c2, c3, c4], _, [y0, y1, y2, y3, y4], _ =>
    have g0 := hg 0 f0 rfl
    have g1 := hg 1 f1 rfl
    have g2 := hg 2 f2 rfl
    have g3 := hg 3 f3 rfl
    have g4 := hg 4 f4 rfl
    rw [o0, k0, e0] at g0
    rw [o1, k1, e1] at g1
    rw [o2, k2, e2] at g2
    rw [o3, k3, e3] at g3
    rw [o4, k4, e4] at g4
    simp only [List.drop_zero, List.take_succ_cons, List.take_zero, List.drop_succ_cons, List.getElem?_cons_zero, List.getElem?_cons_succ] at g0 g1 g2 g3 g4
    obtain ⟨a, h0, _, w0⟩ := DataW.trod_int hi g0
    obtain ⟨b, h1, _, w1⟩ := DataW.trod_int hi g1
    obtain ⟨c, h2, _, w2⟩ := DataW.trod_int hi g2
    obtain ⟨d, h3, _, w3⟩ := DataW.trod_int hi g3
    obtain ⟨e, h4, _, w4⟩ := DataW.trod_int hi g4
    injection h0 with h0
    injection h1 with h1
    injection h2 with h2
    injection h3 with h3
    injection h4 with h4
    subst h0 h1 h2 h3 h4
    exact ⟨a, b, c, d, e, rfl, w0, w1, w2, w3, w4⟩
theorem facts_fit {t e ti : TypeId} {f0 f1 f2 f3 f4 : Field} {fuel : Nat} {cs : List Value} {x : DataW H × List MemPlace} (ht : P.underlying t = some (.slice e)) (he : P.underlying e = some (.struct #[f0, f1, f2, f3, f4])) (hone : oneCellFields P #[f0, f1, f2, f3, f4] = true && (f0.type == ti && f1.type == ti && f2.type == ti && f3.type == ti && f4.type == ti) && P.cellsOf e == 5)
    (hi : P.underlying ti = some (.int .i64)) (hbe : P.bytesOf e = 40) (hf : Fit P t x.1) (h : DataW.trod enc P w base sp held fuel t cs = some x) : ∃ A n c f, cs = [.slice A n c] ∧ FactsAt w A n f ∧ n * 40 ≤ 140737488351232 ∧ SliceIn A n c := by
  have hC : P.cellsOf e = 5 := by
    simp only [Bool.and_eq_true, beq_iff_eq] at hone
    exact hone.2
  rcases open_slice ht h with ⟨h0, _⟩ | ⟨a, len, cap, m, n, D, Pl, hcs, hb, hl, hm, hmm, hx, hel⟩
  · exact ⟨none, 0, 0, fun _ => ⟨0, 0, 0, 0, 0⟩, h0, .inl rfl, by decide, Nat.le_refl _, by omega, fun _ => ⟨rfl, rfl⟩⟩
  · have hlm : len ≤ m := by rw [hmm]; split <;> omega
    have hin : SliceIn (some a) len cap := ⟨hl, by unfold maxLen at hm; exact hm, fun h => by cases h⟩
    have hf' : Fit P t (.slice ((List.range len).map D) ((List.range (m - len)).map fun j => D (len + j))) := by rw [hx] at hf; exact hf
    obtain ⟨f1, _⟩ := fit_slice ht hf'
    rw [hbe] at f1
    rw [hC] at hel
    rcases Nat.eq_zero_or_pos len with h0 | h0
    · subst h0; exact ⟨_, 0, cap, fun _ => ⟨0, 0, 0, 0, 0⟩, hcs, .inl rfl, by decide, hin⟩
    · have each : ∀ i, i < m → ∃ k0 k1 k2 k3 k4 : Int, w.cell? ((a.add (i * 5)).add 0) = some (.int .i64 k0) ∧ w.cell? ((a.add (i * 5)).add 1) = some (.int .i64 k1) ∧ w.cell? ((a.add (i * 5)).add 2) = some (.int .i64 k2) ∧ w.cell? ((a.add (i * 5)).add 3) = some (.int .i64 k3) ∧ w.cell? ((a.add (i * 5)).add 4) = some (.int .i64 k4) := fun i him => by
        obtain ⟨cs', h1, h2⟩ := hel i him
        obtain ⟨_, hlen, hcell⟩ := World.cells?_some h1
        obtain ⟨k0, k1, k2, k3, k4, rfl, _⟩ := five_ints he hone hi h2
        exact ⟨k0, k1, k2, k3, k4, hcell 0 (by omega), hcell 1 (by omega), hcell 2 (by omega), hcell 3 (by omega), hcell 4 (by omega)⟩
      obtain ⟨_, _, _, _, _, h1, _⟩ := each 0 (by omega)
      have hs : a.spot = none := by simpa [Addr.add] using World.cell?_spot h1
      obtain ⟨b, o, s⟩ := a
      simp only at hs
      subst hs
      refine ⟨_, len, cap, fun i => ⟨intAt w ⟨b, o + i * 5, none⟩, intAt w ⟨b, o + i * 5 + 1, none⟩, intAt w ⟨b, o + i * 5 + 2, none⟩, intAt w ⟨b, o + i * 5 + 3, none⟩, intAt w ⟨b, o + i * 5 + 4, none⟩⟩, hcs, .inr ⟨b, o, rfl, World.block_lt_of_cell? w _ (by simpa [Addr.add] using h1), fun i hi' => ?_⟩, f1, hin⟩
      obtain ⟨k0, k1, k2, k3, k4, c0, c1, c2, c3, c4⟩ := each i (by omega)
      rw [add_none, add_none] at c0 c1 c2 c3 c4
      simp only [Nat.add_zero] at c0
      simp only [intAt, c0, c1, c2, c3, c4]
      exact ⟨trivial, trivial, trivial, trivial, trivial⟩
end
theorem int_wf {n : Int} (h : (Lit.int .i64 n).wf = true) : -9223372036854775808 ≤ n ∧ n ≤ 9223372036854775807 := by
  simp only [Lit.wf, Bool.and_eq_true, decide_eq_true_eq] at h
  exact h
section
variable {H : Type} {enc : TypeId × Value → H} {P : Program} {w : World} {base b0 : Nat} {r : Reach} {sp : Nat → Bool} {held : Bool}
def InI (n : Int) : Prop := -9223372036854775808 ≤ n ∧ n ≤ 9223372036854775807
theorem struct2_in {t ti : TypeId} {f0 f1 : Field} {v : Value} {d : DataW H} {p : List MemPlace} (ht : P.underlying t = some (.struct #[f0, f1])) (hone : oneCellFields P #[f0, f1] = true && (f0.type == ti && f1.type == ti) && P.cellsOf t == 2)
    (hi : P.underlying ti = some (.int .i64)) (hv : Value.okWide P w r b0 t v) (h : DataW.Trod enc P w base sp held t v d p) : ∃ a b, v = .agg #[.int .i64 a, .int .i64 b] ∧ InI a ∧ InI b := by
  simp only [Bool.and_eq_true, beq_iff_eq, decide_eq_true_eq] at hone
  obtain ⟨⟨ho, e0, e1⟩, hC⟩ := hone
  obtain ⟨cs, rfl, hsz⟩ := okWide_struct ht hv
  obtain ⟨l⟩ := cs
  obtain ⟨fuel, hf⟩ := h
  obtain ⟨xs, n, _, hx, hlen, hxl, hg⟩ := DataW.trod_struct ht hf
  obtain ⟨o0, k0⟩ := hone_of ho 0 f0 rfl
  obtain ⟨o1, k1⟩ := hone_of ho 1 f1 rfl
  match l, hsz.trans hC, xs, hxl with
  | [c0, c1], _, [y0, y1], _ =>
    have g0 := hg 0 f0 rfl
    have g1 := hg 1 f1 rfl
    rw [o0, k0, e0] at g0
    rw [o1, k1, e1] at g1
    simp only [Value.cells, List.drop_zero, List.take_succ_cons, List.take_zero, List.drop_succ_cons, List.getElem?_cons_zero, List.getElem?_cons_succ] at g0 g1
    obtain ⟨a, h0, _, w0⟩ := DataW.trod_int hi g0
    obtain ⟨b, h1, _, w1⟩ := DataW.trod_int hi g1
    injection h0 with h0
    injection h1 with h1
    subst h0 h1
    exact ⟨a, b, rfl, int_wf w0, int_wf w1⟩
theorem struct3_in {t ti : TypeId} {f0 f1 f2 : Field} {v : Value} {d : DataW H} {p : List MemPlace} (ht : P.underlying t = some (.struct #[f0, f1, f2])) (hone : oneCellFields P #[f0, f1, f2] = true && (f0.type == ti && f1.type == ti && f2.type == ti) && P.cellsOf t == 3)
    (hi : P.underlying ti = some (.int .i64)) (hv : Value.okWide P w r b0 t v) (h : DataW.Trod enc P w base sp held t v d p) : ∃ a b c, v = .agg #[.int .i64 a, .int .i64 b, .int .i64 c] ∧ InI a ∧ InI b ∧ InI c := by
  simp only [Bool.and_eq_true, beq_iff_eq, decide_eq_true_eq] at hone
  obtain ⟨⟨ho, ⟨e0, e1⟩, e2⟩, hC⟩ := hone
  obtain ⟨cs, rfl, hsz⟩ := okWide_struct ht hv
  obtain ⟨l⟩ := cs
  obtain ⟨fuel, hf⟩ := h
  obtain ⟨xs, n, _, hx, hlen, hxl, hg⟩ := DataW.trod_struct ht hf
  obtain ⟨o0, k0⟩ := hone_of ho 0 f0 rfl
  obtain ⟨o1, k1⟩ := hone_of ho 1 f1 rfl
  obtain ⟨o2, k2⟩ := hone_of ho 2 f2 rfl
  match l, hsz.trans hC, xs, hxl with
  | [c0, c1, c2], _, [y0, y1, y2], _ =>
    have g0 := hg 0 f0 rfl
    have g1 := hg 1 f1 rfl
    have g2 := hg 2 f2 rfl
    rw [o0, k0, e0] at g0
    rw [o1, k1, e1] at g1
    rw [o2, k2, e2] at g2
    simp only [Value.cells, List.drop_zero, List.take_succ_cons, List.take_zero, List.drop_succ_cons, List.getElem?_cons_zero, List.getElem?_cons_succ] at g0 g1 g2
    obtain ⟨a, h0, _, w0⟩ := DataW.trod_int hi g0
    obtain ⟨b, h1, _, w1⟩ := DataW.trod_int hi g1
    obtain ⟨c, h2, _, w2⟩ := DataW.trod_int hi g2
    injection h0 with h0
    injection h1 with h1
    injection h2 with h2
    subst h0 h1 h2
    exact ⟨a, b, c, rfl, int_wf w0, int_wf w1, int_wf w2⟩
end

theorem town_in' {H : Type} {enc : TypeId × Value → H} {P : Program} {W : World} {base b0 : Nat} {r : Reach} {sp : Nat → Bool} {held : Bool} {v : Value} {d : DataW H} {p : List MemPlace} {t ts tl tI : TypeId} {f0 f1 f2 : Field}
    (ht : P.underlying t = some (.struct #[f0, f1, f2])) (hone : oneCellFields P #[f0, f1, f2] = true && (f0.type == tI && f1.type == ts && f2.type == tl) && P.cellsOf t == 3) (hi : P.underlying tI = some (.int .i64))
    (hR : ∀ (fuel : Nat) (cs : List Value) (x : DataW H × List MemPlace), Fit P ts x.1 → DataW.trod enc P W base sp held fuel ts cs = some x → ∃ A n c f, cs = [.slice A n c] ∧ WorldsAt W A n f ∧ (∀ i, i < n → (f i).Fits) ∧ n * 24 ≤ 140737488351232 ∧ SliceIn A n c)
    (hF : ∀ (fuel : Nat) (cs : List Value) (x : DataW H × List MemPlace), Fit P tl x.1 → DataW.trod enc P W base sp held fuel tl cs = some x → ∃ A n c f, cs = [.slice A n c] ∧ FactsAt W A n f ∧ n * 40 ≤ 140737488351232 ∧ SliceIn A n c)
    (hv : Value.okWide P W r b0 t v) (hf : Fit P t d) (h : DataW.Trod enc P W base sp held t v d p) :
    ∃ (Aw Af : Option Addr) (cw cf : Nat) (t : Qt), v = .agg #[.int .i64 t.wells, .slice Aw t.nw cw, .slice Af t.nf cf] ∧ QAt W Aw Af t ∧ t.Fits ∧ InI t.wells ∧ SliceIn Aw t.nw cw ∧ SliceIn Af t.nf cf := by
  simp only [Bool.and_eq_true, beq_iff_eq, decide_eq_true_eq] at hone
  obtain ⟨⟨ho, ⟨e0, e1⟩, e2⟩, hC⟩ := hone
  obtain ⟨cs, rfl, hsz⟩ := okWide_struct ht hv
  obtain ⟨l⟩ := cs
  obtain ⟨fuel, hf'⟩ := h
  obtain ⟨xs, n, _, hx, hlen, hxl, hg⟩ := DataW.trod_struct ht hf'
  obtain ⟨o0, k0⟩ := hone_of ho 0 f0 rfl
  obtain ⟨o1, k1⟩ := hone_of ho 1 f1 rfl
  obtain ⟨o2, k2⟩ := hone_of ho 2 f2 rfl
  match l, hsz.trans hC, xs, hxl with
  | [c0, c1, c2], _, [y0, y1, y2], _ =>
    have g0 := hg 0 f0 rfl
    have g1 := hg 1 f1 rfl
    have g2 := hg 2 f2 rfl
    rw [o0, k0, e0] at g0
    rw [o1, k1, e1] at g1
    rw [o2, k2, e2] at g2
    simp only [Value.cells, List.drop_zero, List.take_succ_cons, List.take_zero, List.drop_succ_cons, List.getElem?_cons_zero, List.getElem?_cons_succ] at g0 g1 g2
    have hd : d = .agg [y0.1, y1.1, y2.1] := congrArg Prod.fst hx
    rw [hd] at hf
    have q1 := fit_part ht hf (j := 1) (f := f1) (d := y1.1) rfl rfl
    have q2 := fit_part ht hf (j := 2) (f := f2) (d := y2.1) rfl rfl
    rw [e1] at q1
    rw [e2] at q2
    obtain ⟨a, h0, _, w0⟩ := DataW.trod_int hi g0
    obtain ⟨A, nw, kw, fw, h1, hs, hs2, hs3, hs4⟩ := hR _ _ _ q1 g1
    obtain ⟨B, nf, kf, ff, h2, hl, hl2, hl3⟩ := hF _ _ _ q2 g2
    injection h0 with h0
    injection h1 with h1
    injection h2 with h2
    subst h0 h1 h2
    exact ⟨A, B, kw, kf, ⟨a, nw, fw, nf, ff⟩, rfl, ⟨hs, hl⟩, ⟨hs3, hl2, hs2⟩, int_wf w0, hs4, hl3⟩
set_option maxRecDepth 100000 in
theorem town_in {H : Type} {enc : TypeId × Value → H} {W : World} {base b0 : Nat} {r : Reach} {sp : Nat → Bool} {held : Bool} {v : Value} {d : DataW H} {p : List MemPlace} (hv : Value.okWide Tryd.prog W r b0 25 v) (hf : Fit Tryd.prog 25 d) (h : DataW.Trod enc Tryd.prog W base sp held 25 v d p) :
    ∃ (Aw Af : Option Addr) (cw cf : Nat) (t : Qt), v = .agg #[.int .i64 t.wells, .slice Aw t.nw cw, .slice Af t.nf cf] ∧ QAt W Aw Af t ∧ t.Fits ∧ InI t.wells ∧ SliceIn Aw t.nw cw ∧ SliceIn Af t.nf cf :=
  town_in' Tryd.underlying25 (by kernel_rfl) Tryd.underlying3 (fun _ _ _ hf h => worlds_fit Tryd.underlying22 Tryd.underlying81 Tryd.underlying79 Tryd.underlying40 Tryd.underlying3 (by kernel_rfl) hf h) (fun _ _ _ hf h => facts_fit Tryd.underlying23 Tryd.underlying53 (by kernel_rfl) Tryd.underlying3 (by kernel_rfl) hf h) hv hf h
theorem ask_in' {H : Type} {enc : TypeId × Value → H} {P : Program} {W : World} {base b0 : Nat} {r : Reach} {sp : Nat → Bool} {held : Bool} {v : Value} {d : DataW H} {p : List MemPlace} {t tl tI : TypeId} {f0 f1 f2 f3 : Field}
    (ht : P.underlying t = some (.struct #[f0, f1, f2, f3])) (hone : oneCellFields P #[f0, f1, f2, f3] = true && (f0.type == tI && f1.type == tI && f2.type == tI && f3.type == tl) && P.cellsOf t == 4) (hi : P.underlying tI = some (.int .i64))
    (hF : ∀ (fuel : Nat) (cs : List Value) (x : DataW H × List MemPlace), Fit P tl x.1 → DataW.trod enc P W base sp held fuel tl cs = some x → ∃ A n c g, cs = [.slice A n c] ∧ IntsAt W A n g ∧ SliceIn A n c ∧ n * 8 ≤ 140737488351232)
    (hv : Value.okWide P W r b0 t v) (hf : Fit P t d) (h : DataW.Trod enc P W base sp held t v d p) :
    ∃ (a b c : Int) (A : Option Addr) (n k : Nat) (g : Nat → Int), v = .agg #[.int .i64 a, .int .i64 b, .int .i64 c, .slice A n k] ∧ InI a ∧ InI b ∧ InI c ∧ IntsAt W A n g ∧ SliceIn A n k ∧ n * 8 ≤ 140737488351232 := by
  simp only [Bool.and_eq_true, beq_iff_eq, decide_eq_true_eq] at hone
  obtain ⟨⟨ho, ⟨⟨e0, e1⟩, e2⟩, e3⟩, hC⟩ := hone
  obtain ⟨cs, rfl, hsz⟩ := okWide_struct ht hv
  obtain ⟨l⟩ := cs
  obtain ⟨fuel, hf'⟩ := h
  obtain ⟨xs, n, _, hx, hlen, hxl, hg⟩ := DataW.trod_struct ht hf'
  obtain ⟨o0, k0⟩ := hone_of ho 0 f0 rfl
  obtain ⟨o1, k1⟩ := hone_of ho 1 f1 rfl
  obtain ⟨o2, k2⟩ := hone_of ho 2 f2 rfl
  obtain ⟨o3, k3⟩ := hone_of ho 3 f3 rfl
  match l, hsz.trans hC, xs, hxl with
  | [c0, c1, c2, c3], _, [y0, y1, y2, y3], _ =>
    have g0 := hg 0 f0 rfl
    have g1 := hg 1 f1 rfl
    have g2 := hg 2 f2 rfl
    have g3 := hg 3 f3 rfl
    rw [o0, k0, e0] at g0
    rw [o1, k1, e1] at g1
    rw [o2, k2, e2] at g2
    rw [o3, k3, e3] at g3
    simp only [Value.cells, List.drop_zero, List.take_succ_cons, List.take_zero, List.drop_succ_cons, List.getElem?_cons_zero, List.getElem?_cons_succ] at g0 g1 g2 g3
    have hd : d = .agg [y0.1, y1.1, y2.1, y3.1] := congrArg Prod.fst hx
    rw [hd] at hf
    have q3 := fit_part ht hf (j := 3) (f := f3) (d := y3.1) rfl rfl
    rw [e3] at q3
    obtain ⟨a, h0, _, w0⟩ := DataW.trod_int hi g0
    obtain ⟨b, h1, _, w1⟩ := DataW.trod_int hi g1
    obtain ⟨c, h2, _, w2⟩ := DataW.trod_int hi g2
    obtain ⟨A, m, k, g, h3, hs, hs2, hs3⟩ := hF _ _ _ q3 g3
    injection h0 with h0
    injection h1 with h1
    injection h2 with h2
    injection h3 with h3
    subst h0 h1 h2 h3
    exact ⟨a, b, c, A, m, k, g, rfl, int_wf w0, int_wf w1, int_wf w2, hs, hs2, hs3⟩
set_option maxRecDepth 100000 in
theorem ask_in {H : Type} {enc : TypeId × Value → H} {W : World} {base b0 : Nat} {r : Reach} {sp : Nat → Bool} {held : Bool} {v : Value} {d : DataW H} {p : List MemPlace} (hv : Value.okWide Tryd.prog W r b0 45 v) (hf : Fit Tryd.prog 45 d) (h : DataW.Trod enc Tryd.prog W base sp held 45 v d p) :
    ∃ (a b c : Int) (A : Option Addr) (n k : Nat) (g : Nat → Int), v = .agg #[.int .i64 a, .int .i64 b, .int .i64 c, .slice A n k] ∧ InI a ∧ InI b ∧ InI c ∧ IntsAt W A n g ∧ SliceIn A n k ∧ n * 8 ≤ 140737488351232 :=
  ask_in' Tryd.underlying45 (by kernel_rfl) Tryd.underlying3 (fun _ _ _ hf h => ints_fit Tryd.underlying40 Tryd.underlying3 (by kernel_rfl) (by kernel_rfl) hf h) hv hf h
theorem fact_in {H : Type} {enc : TypeId × Value → H} {P : Program} {W : World} {base b0 : Nat} {r : Reach} {sp : Nat → Bool} {held : Bool} {v : Value} {d : DataW H} {p : List MemPlace} {t ti : TypeId} {f0 f1 f2 f3 f4 : Field} (ht : P.underlying t = some (.struct #[f0, f1, f2, f3, f4])) (hone : oneCellFields P #[f0, f1, f2, f3, f4] = true && (f0.type == ti && f1.type == ti && f2.type == ti && f3.type == ti && f4.type == ti) && P.cellsOf t == 5)
    (hi : P.underlying ti = some (.int .i64)) (hv : Value.okWide P W r b0 t v) (h : DataW.Trod enc P W base sp held t v d p) : ∃ f : Fact, v = .agg #[.int .i64 f.from_, .int .i64 f.many, .int .i64 f.to_, .int .i64 f.low, .int .i64 f.high] ∧ InI f.from_ ∧ InI f.many ∧ InI f.to_ ∧ InI f.low ∧ InI f.high := by
  obtain ⟨cs, rfl, hsz⟩ := okWide_struct ht hv
  obtain ⟨fuel, hf⟩ := h
  obtain ⟨a, b, c, d, e, h1, w0, w1, w2, w3, w4⟩ := five_ints ht hone hi hf
  refine ⟨⟨a, b, c, d, e⟩, ?_, int_wf w0, int_wf w1, int_wf w2, int_wf w3, int_wf w4⟩
  obtain ⟨l⟩ := cs
  simp only [Value.cells] at h1
  rw [h1]
/-- the draws that came in -/
theorem draws_in {H : Type} {enc : TypeId × Value → H} {P : Program} {W : World} {base b0 : Nat} {r : Reach} {sp : Nat → Bool} {held : Bool} {v : Value} {d : DataW H} {p : List MemPlace} {t e : TypeId} (ht : P.underlying t = some (.slice e)) (hi : P.underlying e = some (.int .i64)) (hc : P.cellsOf e = 1) (hb : P.bytesOf e = 8) (hv : Value.okWide P W r b0 t v) (hf : Fit P t d) (h : DataW.Trod enc P W base sp held t v d p) :
    ∃ A m c g, v = .slice A m c ∧ IntsAt W A m g ∧ SliceIn A m c ∧ m * 8 ≤ 140737488351232 := by
  obtain ⟨a, len, cap, rfl⟩ := okWide_slice ht hv
  obtain ⟨fuel, hf'⟩ := h
  obtain ⟨A, n, c, g, hc', hg, hs, hs2⟩ := ints_fit ht hi hc hb hf hf'
  simp only [Value.cells, List.cons.injEq, and_true] at hc'
  exact ⟨A, n, c, g, hc', hg, hs, hs2⟩
/-! ### The table of math/bits that is listed -/
theorem gTab : Tryd.prog.globalNamed "math/bits.deBruijn64tab" = some 1 := by kernel_rfl
theorem tTab : (Tryd.prog.globals[1]?).map (·.type) = some 156 := by kernel_rfl
theorem bytes_in {H : Type} {enc : TypeId × Value → H} {P : Program} {w : World} {base : Nat} {sp : Nat → Bool} {held : Bool} {t e : TypeId} {n fuel : Nat} {cs : List Value} {x : DataW H × List MemPlace} (ht : P.underlying t = some (.array n e)) (he : P.underlying e = some (.int .u8)) (hc : P.cellsOf e = 1) (h : DataW.trod enc P w base sp held fuel t cs = some x) {ds : List (DataW H)} (hx : x.1 = .agg ds) {j : Nat} {v : Int} (hj : j < n) (hd : ds[j]? = some (.lit (.int .u8 v))) : cs[j]? = some (.int .u8 v) := by
  obtain ⟨xs, m, _, rfl, hlen, hl, hg⟩ := DataW.trod_array ht h
  simp only [DataW.agg.injEq] at hx
  subst hx
  have h1 := hg j hj
  rw [hc, Nat.mul_one] at h1
  obtain ⟨y, hy⟩ : ∃ y, xs[j]? = some y := ⟨_, List.getElem?_eq_getElem (by omega)⟩
  rw [hy] at h1
  obtain ⟨k, hk, rfl, _⟩ := DataW.trod_int he h1
  rw [List.getElem?_map, hy] at hd
  simp only [Option.map_some, Option.some.injEq, DataW.lit.injEq, Lit.int.injEq, true_and] at hd
  subst hd
  have h2 := congrArg (fun l : List Value => l[0]?) hk
  simp only [List.getElem?_cons_zero, List.getElem?_take, List.getElem?_drop, Nat.add_zero, Nat.zero_lt_one, if_true] at h2
  exact h2
theorem tab_of_laid {W : World} (h : laidMetH Tryd.prog [("math/bits.deBruijn32tab", Rows.laid_math_bits_deBruijn32tab), ("math/bits.deBruijn64tab", Rows.laid_math_bits_deBruijn64tab)] W) : TabAt W := by
  rw [MakeChecks.laidMetH_plain _ _ _ (by kernel_rfl)] at h
  obtain ⟨ps, ⟨g0, t0, cs0, f0, p0, q0, _, _, _, _, ⟨g1, t1, cs1, f1, p1, q1, hg1, ht1, hv1, hd1, _⟩, _⟩, _, _⟩ := h
  obtain rfl := Option.some.inj (gTab.symm.trans hg1)
  obtain rfl := Option.some.inj (tTab.symm.trans ht1)
  have hc : ∀ i, W.cell? ⟨1, i, none⟩ = cs1[i]? := fun i => World.var?_cell gTab hv1 i
  have key : ∀ (j : Nat) (v : Int), j < 64 → (match (Rows.laid_math_bits_deBruijn64tab : DataW Unit) with | .agg ds => ds[j]? | _ => none) = some (.lit (.int .u8 v)) → W.cell? ⟨1, j, none⟩ = some (.int .u8 v) := fun j v hj hd => by
    rw [hc j, ← Array.getElem?_toList]
    exact bytes_in Tryd.underlying156 Tryd.underlying5 (by kernel_rfl) hd1 rfl hj hd
  refine ⟨World.block_lt_of_cell? W ⟨1, 0, none⟩ (key 0 0 (by decide) rfl), fun j hj => ?_⟩
  match j, hj with
  | 0, _ => exact key 0 0 (by decide) rfl
  | 1, _ => exact key 1 1 (by decide) rfl
  | 2, _ => exact key 3 2 (by decide) rfl
  | 3, _ => exact key 7 3 (by decide) rfl
  | 4, _ => exact key 15 4 (by decide) rfl
  | 5, _ => exact key 31 5 (by decide) rfl
theorem door_met (os : Os) (args : Array Value) : laidMetH Tryd.prog [("math/bits.deBruijn32tab", Rows.laid_math_bits_deBruijn32tab), ("math/bits.deBruijn64tab", Rows.laid_math_bits_deBruijn64tab)] ((World.doorLaid Tryd.prog 400 os).forCall (fun _ _ => 0) ⟨#[], args, []⟩).memory :=
  laidMetH_of_parts3 (fuel := 8) (laidMet_of_run' 8 (by kernel_rfl) (by kernel_rfl)) (by kernel_rfl) (by kernel_rfl)
end Go.Proofs.YtchhodikgllgnaaDoor
