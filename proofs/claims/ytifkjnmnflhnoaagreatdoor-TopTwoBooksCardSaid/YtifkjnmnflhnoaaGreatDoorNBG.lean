/- Parts joined: what all claims of this seat need. -/
import Derived.Test.YtifkjnmnflhnoaaGreatDoorTie
import Derived.ProofKit
import Derived.LaidMore
import Derived.OpenShut
import Derived.Deep.Slices
import Derived.Deep.Fields
import Derived.Stop.Joined
import Derived.Test.YtifkjnmnflhnoaaGreatDoorNBF
import Derived.Test.YtifkjnmnflhnoaaGreatDoorNBD
import Derived.Test.YtifkjnmnflhnoaaGreatDoorCards
import Derived.Test.YtifkjnmnflhnoaaGreatDoorNBA
import Derived.Test.YtifkjnmnflhnoaaGreatDoorNBE
set_option linter.unusedSimpArgs false
set_option linter.unusedVariables false
namespace Go.Proofs.YtifkjnmnflhnoaaGreatDoor
open Go.RowKit Go.Sort Go.ChangeShapes Go.WideShapes Go.ChangeAt Go.Deep
theorem ownK : ownKnob Tryz.prog.godebug = none := by kernel_rfl
theorem laidOutP : laidOutB Tryz.prog = true := by kernel_rfl
section
variable {H : Type} {enc : TypeId × Value → H} {P : Program}
/-- what came in reads as before, if nothing of it has turned -/
theorem trodAll_stays (hl : laidOutB P = true) {W W' : World} {sp : Nat → Bool} (hb : Below W.heap.size W W') : ∀ {ts : List TypeId} {vs : List Value} {ds : List (DataW H)} {ps : List MemPlace},
    (∀ t ∈ ts, P.readableRec t = true ∧ t < P.types.size) → DataW.TrodAll enc P W 0 (fun _ => true) true ts vs ds ps → (∀ p ∈ ps, p.block < W.heap.size) → (∀ p ∈ ps, sp p.block = true) → DataW.TrodAll enc P W' 0 sp true ts vs ds ps
  | [], [], [], ps, _, h, _, _ => h
  | t :: ts, v :: vs, d :: ds, ps, ht, h, hlt, hsp => by
    obtain ⟨p, q, h1, h2, rfl⟩ := h
    exact ⟨p, q, WideElems.Trod_stays hl (ht t (by simp)).1 (ht t (by simp)).2 h1 (fun x hx => hb.same (hlt x (by simp [hx]))) (fun x hx => hsp x (by simp [hx])),
      trodAll_stays hl hb (fun u hu => ht u (by simp [hu])) h2 (fun x hx => hlt x (by simp [hx])) (fun x hx => hsp x (by simp [hx])), rfl⟩
  | [], [], _ :: _, _, _, h, _, _ => h.elim
  | [], _ :: _, _, _, _, h, _, _ => h.elim
  | _ :: _, [], _, _, _, h, _, _ => h.elim
  | _ :: _, _ :: _, [], _, _, h, _, _ => h.elim
/-- a law that has returned true, and has left all as it was -/
theorem post_law {f : Func} {s : ChangeSpec} {W W' : World} {args : Array Value} {ds : List (DataW H)} {before : List MemPlace} (hl : laidOutB P = true) (hv : s.vars = []) {tb : TypeId} (hbool : P.underlying tb = some .bool) (hres : f.resultTypes = #[tb])
    (hts : ∀ t ∈ f.params.toList, P.readableRec t = true ∧ t < P.types.size) (hfn : s.fn H (ds ++ []) = { results := [.lit (.bool true)], args := ds })
    (hW : DataW.Whole enc P f.params.toList s.vars false W args.toList ds [] before) (hb : Below W.heap.size W W') : s.post enc P f false true false false W args (.bool true) W' := by
  have hlt : ∀ p ∈ before, p.block < W.heap.size := fun p hp => hW.lt p hp
  obtain ⟨p, q, hA, hV, hpq, hz, hn⟩ := id hW
  rw [hv] at hV
  have hq : q = [] := hV
  subst hq
  rw [List.append_nil] at hpq
  subst hpq
  have hok : ∀ (j : Nat) (t : TypeId) (r : Value), f.resultTypes[j]? = some t → ((Value.bool true).resultList f.resultTypes.size)[j]? = some r → Value.okWide P W' .any 0 t r := ok_one hres rfl (okWide_bool_mk hbool _)
  have hbt : ∀ (b : Nat) (sp : Nat → Bool) (hd : Bool), DataW.TrodAll enc P W' b sp hd f.resultTypes.toList ((Value.bool true).resultList f.resultTypes.size) (s.fn H (ds ++ [])).results [] := fun b sp hd => by
    rw [hres, hfn]; exact trodAll_mk1 (shut_bool hbool _)
  have harg : ∀ sp : Nat → Bool, (∀ x ∈ before, sp x.block = true) → DataW.TrodAll enc P W' 0 sp true f.params.toList args.toList (s.fn H (ds ++ [])).args before := fun sp hsp => by
    rw [hfn]; exact trodAll_stays hl hb hts hA hlt hsp
  have hvar : ∀ sp : Nat → Bool, DataW.TrodVars enc P W' sp s.vars (s.fn H (ds ++ [])).vars [] := fun sp => by
    rw [hv, hfn]; exact rfl
  refine ⟨ds, [], before, [], before, [], hW, hbt _ _ _, harg _ (fun x hx => by simpa using hlt x hx), hvar _, World.keptBut_mono (fun x hx => ⟨hx, .inr (by simpa using hx)⟩) (hb.frame (· ∈ before)), fun _ => ?_⟩
  refine ⟨hok, _, _, [] ++ before, ⟨[] ++ before, [], trodAll_append (harg _ (fun _ _ => rfl)) (hbt _ _ _), hvar _, by simp, ?_, fun h => by cases h⟩, fun x hx _ => by simpa using hx⟩
  intro b off hp
  have hp' : MemPlace.cell b off ∈ before := by simpa using hp
  rw [hb.frozen (p := ⟨b, off, none⟩) (hlt _ hp')]
  exact hz b off hp'
end
def intAt (w : World) (p : Addr) : Int := match w.cell? p with | some (.int _ n) => n | _ => 0
theorem add_none (b o j : Nat) : (⟨b, o, none⟩ : Addr).add j = ⟨b, o + j, none⟩ := by unfold Addr.add; split <;> simp_all
section
variable {H : Type} {enc : TypeId × Value → H} {P : Program} {w : World} {base : Nat} {sp : Nat → Bool} {held : Bool}
/-- a slice that came in: its length, its capacity, its address -/
def SliceIn (A : Option Addr) (n c : Nat) : Prop := n ≤ c ∧ c ≤ 9223372036854775807 ∧ (A = none → n = 0 ∧ c = 0)
theorem ints_in {t e : TypeId} {fuel : Nat} {cs : List Value} {x : DataW H × List MemPlace} (ht : P.underlying t = some (.slice e)) (hi : P.underlying e = some (.int .i64)) (hc : P.cellsOf e = 1) (h : DataW.trod enc P w base sp held fuel t cs = some x) :
    ∃ A n c g, cs = [.slice A n c] ∧ IntsAt w A n g ∧ SliceIn A n c := by
  rcases open_slice1 ht hc h with ⟨h0, _⟩ | ⟨a, len, cap, m, n, V, D, Pl, hcs, hb, hl, hm, hmm, hx, hel⟩
  · exact ⟨none, 0, 0, fun _ => 0, h0, .inl rfl, Nat.le_refl _, by omega, fun _ => ⟨rfl, rfl⟩⟩
  · have hlm : len ≤ m := by rw [hmm]; split <;> omega
    have hin : SliceIn (some a) len cap := ⟨hl, by unfold maxLen at hm; exact hm, fun h => by cases h⟩
    rcases Nat.eq_zero_or_pos len with h0 | h0
    · subst h0; exact ⟨_, 0, cap, fun _ => 0, hcs, .inl rfl, hin⟩
    · have h1 := (hel 0 (by omega)).1
      have hs : a.spot = none := by simpa [Addr.add] using World.cell?_spot h1
      obtain ⟨b, o, s⟩ := a
      simp only at hs
      subst hs
      refine ⟨_, len, cap, fun i => intAt w ⟨b, o + i, none⟩, hcs, .inr ⟨b, o, rfl, World.block_lt_of_cell? w _ (by simpa [Addr.add] using h1), fun i hi' => ?_⟩, hin⟩
      obtain ⟨g1, g2⟩ := hel i (by omega)
      obtain ⟨k, hk, _⟩ := DataW.trod_int hi g2
      injection hk with hk
      rw [add_none, hk] at g1
      simp only [intAt, g1]

/-! ### What fits into memory -/
theorem wAll_mem {e : TypeId} {d : DataW H} {y : Nat} (hy : y ∈ d.weights P e) : ∀ {l : List (DataW H)}, d ∈ l → y ∈ DataW.weightsAll P e l
  | [], h => by cases h
  | x :: l, h => by
    unfold DataW.weightsAll
    rcases List.mem_cons.1 h with rfl | h
    · exact List.mem_append_left _ hy
    · exact List.mem_append_right _ (wAll_mem hy h)
theorem wEach_mem {y : Nat} : ∀ {ts : List TypeId} {ds : List (DataW H)} {j : Nat} {t : TypeId} {d : DataW H}, ts[j]? = some t → ds[j]? = some d → y ∈ d.weights P t → y ∈ DataW.weightsEach P ts ds
  | [], _, _, _, _, h, _, _ => by simp at h
  | _ :: _, [], _, _, _, _, h, _ => by simp at h
  | u :: ts, x :: ds, 0, t, d, h1, h2, hy => by
    obtain rfl : u = t := by simpa using h1
    obtain rfl : x = d := by simpa using h2
    unfold DataW.weightsEach
    exact List.mem_append_left _ hy
  | u :: ts, x :: ds, j + 1, t, d, h1, h2, hy => by
    unfold DataW.weightsEach
    exact List.mem_append_right _ (wEach_mem (j := j) (by simpa using h1) (by simpa using h2) hy)
/-- each slice of it takes at most so much -/
def Fit (P : Program) (t : TypeId) (d : DataW H) : Prop := ∀ y, y ∈ d.weights P t → y ≤ 140737488351232
theorem fit_arg {ts : List TypeId} {ds : List (DataW H)} (h : (DataW.weightsEach P ts ds).all (· ≤ reachBytes) = true) {j : Nat} {t : TypeId} {d : DataW H} (h1 : ts[j]? = some t) (h2 : ds[j]? = some d) : Fit P t d := fun y hy => by
  have := List.all_eq_true.1 h y (wEach_mem h1 h2 hy)
  exact (of_decide_eq_true this : y ≤ reachBytes)
theorem fit_slice {t e : TypeId} {len : Nat} {D : Nat → DataW H} {sp : List (DataW H)} (ht : P.underlying t = some (.slice e)) (h : Fit P t (.slice ((List.range len).map D) sp)) : len * P.bytesOf e ≤ 140737488351232 ∧ ∀ i, i < len → Fit P e (D i) := by
  have e1 : (DataW.slice ((List.range len).map D) sp).weights P t = (((List.range len).map D).length + sp.length) * P.bytesOf e :: (DataW.weightsAll P e ((List.range len).map D) ++ DataW.weightsAll P e sp) := by
    unfold DataW.weights
    rw [ht]
  unfold Fit at h
  rw [e1] at h
  constructor
  · have := h _ (List.mem_cons_self ..)
    rw [List.length_map, List.length_range, Nat.add_mul] at this
    omega
  · exact fun i hi y hy => h y (List.mem_cons_of_mem _ (List.mem_append_left _ (wAll_mem hy (List.mem_map.2 ⟨i, List.mem_range.2 hi, rfl⟩))))
theorem fit_part {t : TypeId} {fs : Array Field} {parts : List (DataW H)} (ht : P.underlying t = some (.struct fs)) (h : Fit P t (.agg parts)) {j : Nat} {f : Field} {d : DataW H} (h1 : fs[j]? = some f) (h2 : parts[j]? = some d) : Fit P f.type d := fun y hy => by
  refine h y ?_
  have e1 : (DataW.agg parts).weights P t = DataW.weightsEach P (fs.toList.map (·.type)) parts := by
    unfold DataW.weights
    rw [ht]
  rw [e1]
  exact wEach_mem (by simp [h1]) h2 hy
/-- numbers that came in -/
theorem ints_fit {t e : TypeId} {fuel : Nat} {cs : List Value} {x : DataW H × List MemPlace} (ht : P.underlying t = some (.slice e)) (hi : P.underlying e = some (.int .i64)) (hc : P.cellsOf e = 1) (hb : P.bytesOf e = 8) (hf : Fit P t x.1) (h : DataW.trod enc P w base sp held fuel t cs = some x) :
    ∃ A n c g, cs = [.slice A n c] ∧ IntsAt w A n g ∧ SliceIn A n c ∧ n * 8 ≤ 140737488351232 := by
  obtain ⟨A, n, c, g, h1, h2, h3⟩ := ints_in ht hi hc h
  refine ⟨A, n, c, g, h1, h2, h3, ?_⟩
  rcases open_slice ht h with ⟨h0, _⟩ | ⟨a, len, cap, m, n', D, Pl, hcs, _, _, _, _, hx, _⟩
  · rw [h0] at h1
    injection h1 with h1
    injection h1 with _ h1
    subst h1
    omega
  · rw [hcs] at h1
    injection h1 with h1
    injection h1 with _ h1
    subst h1
    rw [hx] at hf
    have := (fit_slice ht hf).1
    rwa [hb] at this
/-- the rows of a world -/
theorem rows_fit {t e i : TypeId} {fuel : Nat} {cs : List Value} {x : DataW H × List MemPlace} (ht : P.underlying t = some (.slice e)) (he : P.underlying e = some (.slice i)) (hi : P.underlying i = some (.int .i64)) (hq : (P.cellsOf e == 1 && P.cellsOf i == 1 && P.bytesOf e == 24 && P.bytesOf i == 8) = true) (hf : Fit P t x.1) (h : DataW.trod enc P w base sp held fuel t cs = some x) :
    ∃ A c y, cs = [.slice A (Wd.n y) c] ∧ RowsAt w A y ∧ y.Fits ∧ SliceIn A y.n c := by
  simp only [Bool.and_eq_true, beq_iff_eq] at hq
  obtain ⟨⟨⟨q0, q1⟩, q2⟩, q3⟩ := hq
  rcases open_slice1 ht q0 h with ⟨h0, _⟩ | ⟨a, len, cap, m, n, V, D, Pl, hcs, hb, hl, hm, hmm, hx, hel⟩
  · exact ⟨none, 0, ⟨0, fun _ => 0, fun _ _ => 0⟩, h0, .inl rfl, ⟨by decide, fun k hk => absurd hk (Nat.not_lt_zero _)⟩, Nat.le_refl _, by omega, fun _ => ⟨rfl, rfl⟩⟩
  · have hlm : len ≤ m := by rw [hmm]; split <;> omega
    have hin : SliceIn (some a) len cap := ⟨hl, by unfold maxLen at hm; exact hm, fun h => by cases h⟩
    have hf' : Fit P t (.slice ((List.range len).map D) ((List.range (m - len)).map fun j => D (len + j))) := by rw [hx] at hf; exact hf
    obtain ⟨f1, f2⟩ := fit_slice ht hf'
    rw [q2] at f1
    rcases Nat.eq_zero_or_pos len with h0 | h0
    · subst h0
      exact ⟨_, cap, ⟨0, fun _ => 0, fun _ _ => 0⟩, hcs, .inl rfl, ⟨by decide, fun k hk => absurd hk (Nat.not_lt_zero _)⟩, hin⟩
    · have h1 := (hel 0 (by omega)).1
      have hs : a.spot = none := by simpa [Addr.add] using World.cell?_spot h1
      obtain ⟨b, o, s⟩ := a
      simp only at hs
      subst hs
      obtain ⟨G, hG⟩ := choose_lt (α := Nat × (Nat → Int)) (n := len) (p := fun k y => ∃ A' c', w.cell? ⟨b, o + k, none⟩ = some (.slice A' y.1 c') ∧ IntsAt w A' y.1 y.2 ∧ y.1 ≤ 9223372036854775807 ∧ y.1 * 8 ≤ 140737488351232) fun k hk => by
        obtain ⟨g1, g2⟩ := hel k (by omega)
        obtain ⟨A', n', c', g, e1, e2, e3, e4⟩ := ints_fit he hi q1 q3 (f2 k hk) g2
        injection e1 with e1
        rw [add_none, e1] at g1
        exact ⟨(n', g), A', c', g1, e2, Nat.le_trans e3.1 e3.2.1, e4⟩
      refine ⟨_, cap, ⟨len, fun k => (G k).1, fun k => (G k).2⟩, hcs, .inr ⟨b, o, rfl, World.block_lt_of_cell? w _ (by simpa [Addr.add] using h1), fun k hk => ?_⟩, ⟨f1, fun k hk => ?_⟩, hin⟩
      · obtain ⟨A', c', e1, e2, e3, _⟩ := hG k hk
        exact ⟨A', c', e1, e2, e3⟩
      · obtain ⟨A', c', _, _, _, e4⟩ := hG k hk
        exact e4
/-- the worlds of a town -/
theorem worlds_fit {t e r l i : TypeId} {f0 : Field} {fuel : Nat} {cs : List Value} {x : DataW H × List MemPlace} (ht : P.underlying t = some (.slice e)) (he : P.underlying e = some (.struct #[f0])) (hr : P.underlying r = some (.slice l)) (hl' : P.underlying l = some (.slice i)) (hi : P.underlying i = some (.int .i64))
    (hq : (oneCellFields P #[f0] && f0.type == r && P.cellsOf e == 1 && P.cellsOf l == 1 && P.cellsOf i == 1 && P.bytesOf e == 24 && P.bytesOf l == 24 && P.bytesOf i == 8) = true) (hf : Fit P t x.1) (h : DataW.trod enc P w base sp held fuel t cs = some x) :
    ∃ A n c f, cs = [.slice A n c] ∧ WorldsAt w A n f ∧ (∀ i, i < n → (f i).Fits) ∧ n * 24 ≤ 140737488351232 ∧ SliceIn A n c := by
  simp only [Bool.and_eq_true, beq_iff_eq] at hq
  obtain ⟨⟨⟨⟨⟨⟨⟨ho, hr0⟩, q0⟩, q1⟩, q2⟩, q3⟩, q4⟩, q5⟩ := hq
  obtain ⟨o0, k0⟩ := hone_of ho 0 f0 rfl
  rcases open_slice1 ht q0 h with ⟨h0, _⟩ | ⟨a, len, cap, m, n, V, D, Pl, hcs, hb, hl, hm, hmm, hx, hel⟩
  · exact ⟨none, 0, 0, fun _ => ⟨0, fun _ => 0, fun _ _ => 0⟩, h0, .inl rfl, (fun i hi => absurd hi (Nat.not_lt_zero _)), by decide, Nat.le_refl _, by omega, fun _ => ⟨rfl, rfl⟩⟩
  · have hlm : len ≤ m := by rw [hmm]; split <;> omega
    have hin : SliceIn (some a) len cap := ⟨hl, by unfold maxLen at hm; exact hm, fun h => by cases h⟩
    have hf' : Fit P t (.slice ((List.range len).map D) ((List.range (m - len)).map fun j => D (len + j))) := by rw [hx] at hf; exact hf
    obtain ⟨f1, f2⟩ := fit_slice ht hf'
    rw [q3] at f1
    rcases Nat.eq_zero_or_pos len with h0 | h0
    · subst h0
      exact ⟨_, 0, cap, fun _ => ⟨0, fun _ => 0, fun _ _ => 0⟩, hcs, .inl rfl, (fun i hi => absurd hi (Nat.not_lt_zero _)), by decide, hin⟩
    · have h1 := (hel 0 (by omega)).1
      have hs : a.spot = none := by simpa [Addr.add] using World.cell?_spot h1
      obtain ⟨b, o, s⟩ := a
      simp only at hs
      subst hs
      haveI : Inhabited Wd := ⟨⟨0, fun _ => 0, fun _ _ => 0⟩⟩
      obtain ⟨G, hG⟩ := choose_lt (α := Wd) (n := len) (p := fun k y => (∃ A' c', w.cell? ⟨b, o + k, none⟩ = some (.slice A' y.n c') ∧ RowsAt w A' y ∧ y.n ≤ 9223372036854775807) ∧ y.Fits) fun k hk => by
        obtain ⟨g1, g2⟩ := hel k (by omega)
        obtain ⟨y0, n', e1, e2, e3⟩ := trod_struct1 he g2
        rw [o0, k0, hr0] at e3
        have hfk := f2 k hk
        rw [show D k = .agg [y0.1] from congrArg Prod.fst e1] at hfk
        have hfk := fit_part he hfk (j := 0) (f := f0) (d := y0.1) rfl rfl
        rw [hr0] at hfk
        obtain ⟨A', c', y, u1, u2, u3, u4⟩ := rows_fit hr hl' hi (by simp [q1, q2, q4, q5]) hfk e3
        simp only [List.drop_zero, List.take_succ_cons, List.take_zero] at u1
        injection u1 with u1
        rw [add_none, u1] at g1
        exact ⟨y, ⟨A', c', g1, u2, Nat.le_trans u4.1 u4.2.1⟩, u3⟩
      exact ⟨_, len, cap, G, hcs, .inr ⟨b, o, rfl, World.block_lt_of_cell? w _ (by simpa [Addr.add] using h1), fun k hk => (hG k hk).1⟩, (fun k hk => (hG k hk).2), f1, hin⟩
theorem five_ints {t ti : TypeId} {f0 f1 f2 f3 f4 : Field} {fuel : Nat} {cs : List Value} {x : DataW H × List MemPlace} (ht : P.underlying t = some (.struct #[f0, f1, f2, f3, f4])) (hone : oneCellFields P #[f0, f1, f2, f3, f4] = true && (f0.type == ti && f1.type == ti && f2.type == ti && f3.type == ti && f4.type == ti) && P.cellsOf t == 5)
    (hi : P.underlying ti = some (.int .i64)) (h : DataW.trod enc P w base sp held fuel t cs = some x) : ∃ a b c d e, cs = [.int .i64 a, .int .i64 b, .int .i64 c, .int .i64 d, .int .i64 e] ∧ (Lit.int .i64 a).wf = true ∧ (Lit.int .i64 b).wf = true ∧ (Lit.int .i64 c).wf = true ∧ (Lit.int .i64 d).wf = true ∧ (Lit.int .i64 e).wf = true := by
  simp only [Bool.and_eq_true, beq_iff_eq, decide_eq_true_eq] at hone
  obtain ⟨⟨ho, ⟨⟨⟨e0, e1⟩, e2⟩, e3⟩, e4⟩, hC⟩ := hone
  obtain ⟨xs, n, _, hx, hlen, hxl, hg⟩ := DataW.trod_struct ht h
  obtain ⟨o0, k0⟩ := hone_of ho 0 f0 rfl
  obtain ⟨o1, k1⟩ := hone_of ho 1 f1 rfl
  obtain ⟨o2, k2⟩ := hone_of ho 2 f2 rfl
  obtain ⟨o3, k3⟩ := hone_of ho 3 f3 rfl
  obtain ⟨o4, k4⟩ := hone_of ho 4 f4 rfl
  match cs, hlen.trans hC, xs, hxl with
  | [c0, c1, c2, c3, c4], _, [y0, y1, y2, y3, y4], _ =>
    have g0 := hg 0 f0 rfl
    have g1 := hg 1 f1 rfl
    have g2 := hg 2 f2 rfl
    have g3 := hg 3 f3 rfl
    have g4 := hg 4 f4 rfl
    rw [o0, k0, e0] at g0
    rw [o1, k1, e1] at g1
    rw [o2, k2, e2] at g2
    rw [o3, k3, e3] at g3
    rw [o4, k4, e4] at g4
    simp only [List.drop_zero, List.take_succ_cons, List.take_zero, List.drop_succ_cons, List.getElem?_cons_zero, List.getElem?_cons_succ] at g0 g1 g2 g3 g4
    obtain ⟨a, h0, _, w0⟩ := DataW.trod_int hi g0
    obtain ⟨b, h1, _, w1⟩ := DataW.trod_int hi g1
    obtain ⟨c, h2, _, w2⟩ := DataW.trod_int hi g2
    obtain ⟨d, h3, _, w3⟩ := DataW.trod_int hi g3
    obtain ⟨e, h4, _, w4⟩ := DataW.trod_int hi g4
    injection h0 with h0
    injection h1 with h1
    injection h2 with h2
    injection h3 with h3
    injection h4 with h4
    subst h0 h1 h2 h3 h4
    exact ⟨a, b, c, d, e, rfl, w0, w1, w2, w3, w4⟩
theorem facts_fit {t e ti : TypeId} {f0 f1 f2 f3 f4 : Field} {fuel : Nat} {cs : List Value} {x : DataW H × List MemPlace} (ht : P.underlying t = some (.slice e)) (he : P.underlying e = some (.struct #[f0, f1, f2, f3, f4])) (hone : oneCellFields P #[f0, f1, f2, f3, f4] = true && (f0.type == ti && f1.type == ti && f2.type == ti && f3.type == ti && f4.type == ti) && P.cellsOf e == 5)
    (hi : P.underlying ti = some (.int .i64)) (hbe : P.bytesOf e = 40) (hf : Fit P t x.1) (h : DataW.trod enc P w base sp held fuel t cs = some x) : ∃ A n c f, cs = [.slice A n c] ∧ FactsAt w A n f ∧ n * 40 ≤ 140737488351232 ∧ SliceIn A n c := by
  have hC : P.cellsOf e = 5 := by
    simp only [Bool.and_eq_true, beq_iff_eq] at hone
    exact hone.2
  rcases open_slice ht h with ⟨h0, _⟩ | ⟨a, len, cap, m, n, D, Pl, hcs, hb, hl, hm, hmm, hx, hel⟩
  · exact ⟨none, 0, 0, fun _ => ⟨0, 0, 0, 0, 0⟩, h0, .inl rfl, by decide, Nat.le_refl _, by omega, fun _ => ⟨rfl, rfl⟩⟩
  · have hlm : len ≤ m := by rw [hmm]; split <;> omega
    have hin : SliceIn (some a) len cap := ⟨hl, by unfold maxLen at hm; exact hm, fun h => by cases h⟩
    have hf' : Fit P t (.slice ((List.range len).map D) ((List.range (m - len)).map fun j => D (len + j))) := by rw [hx] at hf; exact hf
    obtain ⟨f1, _⟩ := fit_slice ht hf'
    rw [hbe] at f1
    rw [hC] at hel
    rcases Nat.eq_zero_or_pos len with h0 | h0
    · subst h0; exact ⟨_, 0, cap, fun _ => ⟨0, 0, 0, 0, 0⟩, hcs, .inl rfl, by decide, hin⟩
    · have each : ∀ i, i < m → ∃ k0 k1 k2 k3 k4 : Int, w.cell? ((a.add (i * 5)).add 0) = some (.int .i64 k0) ∧ w.cell? ((a.add (i * 5)).add 1) = some (.int .i64 k1) ∧ w.cell? ((a.add (i * 5)).add 2) = some (.int .i64 k2) ∧ w.cell? ((a.add (i * 5)).add 3) = some (.int .i64 k3) ∧ w.cell? ((a.add (i * 5)).add 4) = some (.int .i64 k4) := fun i him => by
        obtain ⟨cs', h1, h2⟩ := hel i him
        obtain ⟨_, hlen, hcell⟩ := World.cells?_some h1
        obtain ⟨k0, k1, k2, k3, k4, rfl, _⟩ := five_ints he hone hi h2
        exact ⟨k0, k1, k2, k3, k4, hcell 0 (by omega), hcell 1 (by omega), hcell 2 (by omega), hcell 3 (by omega), hcell 4 (by omega)⟩
      obtain ⟨_, _, _, _, _, h1, _⟩ := each 0 (by omega)
      have hs : a.spot = none := by simpa [Addr.add] using World.cell?_spot h1
      obtain ⟨b, o, s⟩ := a
      simp only at hs
      subst hs
      refine ⟨_, len, cap, fun i => ⟨intAt w ⟨b, o + i * 5, none⟩, intAt w ⟨b, o + i * 5 + 1, none⟩, intAt w ⟨b, o + i * 5 + 2, none⟩, intAt w ⟨b, o + i * 5 + 3, none⟩, intAt w ⟨b, o + i * 5 + 4, none⟩⟩, hcs, .inr ⟨b, o, rfl, World.block_lt_of_cell? w _ (by simpa [Addr.add] using h1), fun i hi' => ?_⟩, f1, hin⟩
      obtain ⟨k0, k1, k2, k3, k4, c0, c1, c2, c3, c4⟩ := each i (by omega)
      rw [add_none, add_none] at c0 c1 c2 c3 c4
      simp only [Nat.add_zero] at c0
      simp only [intAt, c0, c1, c2, c3, c4]
      exact ⟨trivial, trivial, trivial, trivial, trivial⟩
end
theorem int_wf {n : Int} (h : (Lit.int .i64 n).wf = true) : -9223372036854775808 ≤ n ∧ n ≤ 9223372036854775807 := by
  simp only [Lit.wf, Bool.and_eq_true, decide_eq_true_eq] at h
  exact h
section
variable {H : Type} {enc : TypeId × Value → H} {P : Program} {w : World} {base b0 : Nat} {r : Reach} {sp : Nat → Bool} {held : Bool}
def InI (n : Int) : Prop := -9223372036854775808 ≤ n ∧ n ≤ 9223372036854775807
theorem struct2_in {t ti : TypeId} {f0 f1 : Field} {v : Value} {d : DataW H} {p : List MemPlace} (ht : P.underlying t = some (.struct #[f0, f1])) (hone : oneCellFields P #[f0, f1] = true && (f0.type == ti && f1.type == ti) && P.cellsOf t == 2)
    (hi : P.underlying ti = some (.int .i64)) (hv : Value.okWide P w r b0 t v) (h : DataW.Trod enc P w base sp held t v d p) : ∃ a b, v = .agg #[.int .i64 a, .int .i64 b] ∧ InI a ∧ InI b := by
  simp only [Bool.and_eq_true, beq_iff_eq, decide_eq_true_eq] at hone
  obtain ⟨⟨ho, e0, e1⟩, hC⟩ := hone
  obtain ⟨cs, rfl, hsz⟩ := okWide_struct ht hv
  obtain ⟨l⟩ := cs
  obtain ⟨fuel, hf⟩ := h
  obtain ⟨xs, n, _, hx, hlen, hxl, hg⟩ := DataW.trod_struct ht hf
  obtain ⟨o0, k0⟩ := hone_of ho 0 f0 rfl
  obtain ⟨o1, k1⟩ := hone_of ho 1 f1 rfl
  match l, hsz.trans hC, xs, hxl with
  | [c0, c1], _, [y0, y1], _ =>
    have g0 := hg 0 f0 rfl
    have g1 := hg 1 f1 rfl
    rw [o0, k0, e0] at g0
    rw [o1, k1, e1] at g1
    simp only [Value.cells, List.drop_zero, List.take_succ_cons, List.take_zero, List.drop_succ_cons, List.getElem?_cons_zero, List.getElem?_cons_succ] at g0 g1
    obtain ⟨a, h0, _, w0⟩ := DataW.trod_int hi g0
    obtain ⟨b, h1, _, w1⟩ := DataW.trod_int hi g1
    injection h0 with h0
    injection h1 with h1
    subst h0 h1
    exact ⟨a, b, rfl, int_wf w0, int_wf w1⟩
end

theorem town_in' {H : Type} {enc : TypeId × Value → H} {P : Program} {W : World} {base b0 : Nat} {r : Reach} {sp : Nat → Bool} {held : Bool} {v : Value} {d : DataW H} {p : List MemPlace} {t ts tl tI : TypeId} {f0 f1 f2 : Field}
    (ht : P.underlying t = some (.struct #[f0, f1, f2])) (hone : oneCellFields P #[f0, f1, f2] = true && (f0.type == tI && f1.type == ts && f2.type == tl) && P.cellsOf t == 3) (hi : P.underlying tI = some (.int .i64))
    (hR : ∀ (fuel : Nat) (cs : List Value) (x : DataW H × List MemPlace), Fit P ts x.1 → DataW.trod enc P W base sp held fuel ts cs = some x → ∃ A n c f, cs = [.slice A n c] ∧ WorldsAt W A n f ∧ (∀ i, i < n → (f i).Fits) ∧ n * 24 ≤ 140737488351232 ∧ SliceIn A n c)
    (hF : ∀ (fuel : Nat) (cs : List Value) (x : DataW H × List MemPlace), Fit P tl x.1 → DataW.trod enc P W base sp held fuel tl cs = some x → ∃ A n c f, cs = [.slice A n c] ∧ FactsAt W A n f ∧ n * 40 ≤ 140737488351232 ∧ SliceIn A n c)
    (hv : Value.okWide P W r b0 t v) (hf : Fit P t d) (h : DataW.Trod enc P W base sp held t v d p) :
    ∃ (Aw Af : Option Addr) (cw cf : Nat) (t : Qt), v = .agg #[.int .i64 t.wells, .slice Aw t.nw cw, .slice Af t.nf cf] ∧ QAt W Aw Af t ∧ t.Fits ∧ InI t.wells ∧ SliceIn Aw t.nw cw ∧ SliceIn Af t.nf cf := by
  simp only [Bool.and_eq_true, beq_iff_eq, decide_eq_true_eq] at hone
  obtain ⟨⟨ho, ⟨e0, e1⟩, e2⟩, hC⟩ := hone
  obtain ⟨cs, rfl, hsz⟩ := okWide_struct ht hv
  obtain ⟨l⟩ := cs
  obtain ⟨fuel, hf'⟩ := h
  obtain ⟨xs, n, _, hx, hlen, hxl, hg⟩ := DataW.trod_struct ht hf'
  obtain ⟨o0, k0⟩ := hone_of ho 0 f0 rfl
  obtain ⟨o1, k1⟩ := hone_of ho 1 f1 rfl
  obtain ⟨o2, k2⟩ := hone_of ho 2 f2 rfl
  match l, hsz.trans hC, xs, hxl with
  | [c0, c1, c2], _, [y0, y1, y2], _ =>
    have g0 := hg 0 f0 rfl
    have g1 := hg 1 f1 rfl
    have g2 := hg 2 f2 rfl
    rw [o0, k0, e0] at g0
    rw [o1, k1, e1] at g1
    rw [o2, k2, e2] at g2
    simp only [Value.cells, List.drop_zero, List.take_succ_cons, List.take_zero, List.drop_succ_cons, List.getElem?_cons_zero, List.getElem?_cons_succ] at g0 g1 g2
    have hd : d = .agg [y0.1, y1.1, y2.1] := congrArg Prod.fst hx
    rw [hd] at hf
    have q1 := fit_part ht hf (j := 1) (f := f1) (d := y1.1) rfl rfl
    have q2 := fit_part ht hf (j := 2) (f := f2) (d := y2.1) rfl rfl
    rw [e1] at q1
    rw [e2] at q2
    obtain ⟨a, h0, _, w0⟩ := DataW.trod_int hi g0
    obtain ⟨A, nw, kw, fw, h1, hs, hs2, hs3, hs4⟩ := hR _ _ _ q1 g1
    obtain ⟨B, nf, kf, ff, h2, hl, hl2, hl3⟩ := hF _ _ _ q2 g2
    injection h0 with h0
    injection h1 with h1
    injection h2 with h2
    subst h0 h1 h2
    exact ⟨A, B, kw, kf, ⟨a, nw, fw, nf, ff⟩, rfl, ⟨hs, hl⟩, ⟨hs3, hl2, hs2⟩, int_wf w0, hs4, hl3⟩
set_option maxRecDepth 100000 in
theorem town_in {H : Type} {enc : TypeId × Value → H} {W : World} {base b0 : Nat} {r : Reach} {sp : Nat → Bool} {held : Bool} {v : Value} {d : DataW H} {p : List MemPlace} (hv : Value.okWide Tryz.prog W r b0 25 v) (hf : Fit Tryz.prog 25 d) (h : DataW.Trod enc Tryz.prog W base sp held 25 v d p) :
    ∃ (Aw Af : Option Addr) (cw cf : Nat) (t : Qt), v = .agg #[.int .i64 t.wells, .slice Aw t.nw cw, .slice Af t.nf cf] ∧ QAt W Aw Af t ∧ t.Fits ∧ InI t.wells ∧ SliceIn Aw t.nw cw ∧ SliceIn Af t.nf cf :=
  town_in' Tryz.underlying25 (by kernel_rfl) Tryz.underlying3 (fun _ _ _ hf h => worlds_fit Tryz.underlying22 Tryz.underlying63 Tryz.underlying61 Tryz.underlying34 Tryz.underlying3 (by kernel_rfl) hf h) (fun _ _ _ hf h => facts_fit Tryz.underlying23 Tryz.underlying27 (by kernel_rfl) Tryz.underlying3 (by kernel_rfl) hf h) hv hf h
theorem fact_in {H : Type} {enc : TypeId × Value → H} {P : Program} {W : World} {base b0 : Nat} {r : Reach} {sp : Nat → Bool} {held : Bool} {v : Value} {d : DataW H} {p : List MemPlace} {t ti : TypeId} {f0 f1 f2 f3 f4 : Field} (ht : P.underlying t = some (.struct #[f0, f1, f2, f3, f4])) (hone : oneCellFields P #[f0, f1, f2, f3, f4] = true && (f0.type == ti && f1.type == ti && f2.type == ti && f3.type == ti && f4.type == ti) && P.cellsOf t == 5)
    (hi : P.underlying ti = some (.int .i64)) (hv : Value.okWide P W r b0 t v) (h : DataW.Trod enc P W base sp held t v d p) : ∃ f : Fact, v = .agg #[.int .i64 f.from_, .int .i64 f.many, .int .i64 f.to_, .int .i64 f.low, .int .i64 f.high] ∧ InI f.from_ ∧ InI f.many ∧ InI f.to_ ∧ InI f.low ∧ InI f.high := by
  obtain ⟨cs, rfl, hsz⟩ := okWide_struct ht hv
  obtain ⟨fuel, hf⟩ := h
  obtain ⟨a, b, c, d, e, h1, w0, w1, w2, w3, w4⟩ := five_ints ht hone hi hf
  refine ⟨⟨a, b, c, d, e⟩, ?_, int_wf w0, int_wf w1, int_wf w2, int_wf w3, int_wf w4⟩
  obtain ⟨l⟩ := cs
  simp only [Value.cells] at h1
  rw [h1]
/-! ### The table of math/bits that is listed -/
theorem gTab : Tryz.prog.globalNamed "math/bits.deBruijn64tab" = some 1 := by kernel_rfl
theorem tTab : (Tryz.prog.globals[1]?).map (·.type) = some 153 := by kernel_rfl
theorem bytes_in {H : Type} {enc : TypeId × Value → H} {P : Program} {w : World} {base : Nat} {sp : Nat → Bool} {held : Bool} {t e : TypeId} {n fuel : Nat} {cs : List Value} {x : DataW H × List MemPlace} (ht : P.underlying t = some (.array n e)) (he : P.underlying e = some (.int .u8)) (hc : P.cellsOf e = 1) (h : DataW.trod enc P w base sp held fuel t cs = some x) {ds : List (DataW H)} (hx : x.1 = .agg ds) {j : Nat} {v : Int} (hj : j < n) (hd : ds[j]? = some (.lit (.int .u8 v))) : cs[j]? = some (.int .u8 v) := by
  obtain ⟨xs, m, _, rfl, hlen, hl, hg⟩ := DataW.trod_array ht h
  simp only [DataW.agg.injEq] at hx
  subst hx
  have h1 := hg j hj
  rw [hc, Nat.mul_one] at h1
  obtain ⟨y, hy⟩ : ∃ y, xs[j]? = some y := ⟨_, List.getElem?_eq_getElem (by omega)⟩
  rw [hy] at h1
  obtain ⟨k, hk, rfl, _⟩ := DataW.trod_int he h1
  rw [List.getElem?_map, hy] at hd
  simp only [Option.map_some, Option.some.injEq, DataW.lit.injEq, Lit.int.injEq, true_and] at hd
  subst hd
  have h2 := congrArg (fun l : List Value => l[0]?) hk
  simp only [List.getElem?_cons_zero, List.getElem?_take, List.getElem?_drop, Nat.add_zero, Nat.zero_lt_one, if_true] at h2
  exact h2
theorem tab_of_laid {W : World} (h : laidMetH Tryz.prog [("math/bits.deBruijn32tab", Rows.laid_math_bits_deBruijn32tab), ("math/bits.deBruijn64tab", Rows.laid_math_bits_deBruijn64tab)] W) : TabAt W := by
  rw [MakeChecks.laidMetH_plain _ _ _ (by kernel_rfl)] at h
  obtain ⟨ps, ⟨g0, t0, cs0, f0, p0, q0, _, _, _, _, ⟨g1, t1, cs1, f1, p1, q1, hg1, ht1, hv1, hd1, _⟩, _⟩, _, _⟩ := h
  obtain rfl := Option.some.inj (gTab.symm.trans hg1)
  obtain rfl := Option.some.inj (tTab.symm.trans ht1)
  have hc : ∀ i, W.cell? ⟨1, i, none⟩ = cs1[i]? := fun i => World.var?_cell gTab hv1 i
  have key : ∀ (j : Nat) (v : Int), j < 64 → (match (Rows.laid_math_bits_deBruijn64tab : DataW Unit) with | .agg ds => ds[j]? | _ => none) = some (.lit (.int .u8 v)) → W.cell? ⟨1, j, none⟩ = some (.int .u8 v) := fun j v hj hd => by
    rw [hc j, ← Array.getElem?_toList]
    exact bytes_in Tryz.underlying153 Tryz.underlying5 (by kernel_rfl) hd1 rfl hj hd
  refine ⟨World.block_lt_of_cell? W ⟨1, 0, none⟩ (key 0 0 (by decide) rfl), fun j hj => ?_⟩
  match j, hj with
  | 0, _ => exact key 0 0 (by decide) rfl
  | 1, _ => exact key 1 1 (by decide) rfl
  | 2, _ => exact key 3 2 (by decide) rfl
  | 3, _ => exact key 7 3 (by decide) rfl
  | 4, _ => exact key 15 4 (by decide) rfl
  | 5, _ => exact key 31 5 (by decide) rfl
theorem door_met (os : Os) (args : Array Value) : laidMetH Tryz.prog [("math/bits.deBruijn32tab", Rows.laid_math_bits_deBruijn32tab), ("math/bits.deBruijn64tab", Rows.laid_math_bits_deBruijn64tab)] ((World.doorLaid Tryz.prog 400 os).forCall (fun _ _ => 0) ⟨#[], args, []⟩).memory :=
  laidMetH_of_parts3 (fuel := 8) (laidMet_of_run' 8 (by kernel_rfl) (by kernel_rfl)) (by kernel_rfl) (by kernel_rfl)
end Go.Proofs.YtifkjnmnflhnoaaGreatDoor

namespace Go.Proofs.YtifkjnmnflhnoaaGreatDoor
open Go.RowKit
theorem bandT {a b : Bool} (h : a = true) (k : b = true) : (a && b) = true := by rw [h, k]; rfl
theorem mayT : Tryz.pinned.checked.prog.mayEnter = true := by kernel_rfl
theorem liftsT : (Rows.topTwoBooksRow.lifted == Tryz.pinned.checked.prog.liftsFinal) = true := by kernel_rfl
theorem makeT : (Tryz.pinned.checked.prog.make == some Rows.topTwoBooksRow.make) = true := by kernel_rfl
theorem mainT : Tryz.pinned.checked.prog.mainIs = some (true, "87553ca61f0315f6fe5532291538cde0ce882089fa350705d24c1f8bef5b03b4".toList) := by kernel_rfl
theorem looksT : false = Tryz.pinned.checked.prog.looks [] := by kernel_rfl
end Go.Proofs.YtifkjnmnflhnoaaGreatDoor

namespace Go.Proofs.YtifkjnmnflhnoaaGreatDoor
open Go.RowKit Go.Sort
/-- 'append([]T{}, xs...)' at a step of a region: the copy is the call's own, an empty one too -/
theorem stir_copy3 {P : Program} {o : Oper} {a : Act} (w : World) (s x : Operand) (t : TypeId) (hop : o.op = Op.call { callee := Callee.builtin Builtin.append, args := #[s, x], argTypes := #[t, t] })
    (e : TypeId) (z : Value) (size bytes : Nat) (hinfo : (P.info? e).map (fun i => (i.zero, i.size, i.bytes)) = some (some z, size, bytes)) (ht : P.underlying t = some (.slice e)) (hzs : z.cells.size = size) (hsz : 0 < size)
    (ad : Nat) (A : Option Addr) (m c : Nat) (L : List Value) (hs : a.eval s = .slice (some ⟨ad, 0, none⟩) 0 0) (hx : a.eval x = .slice A m c) (hl : L.length = m * size) (hr : RowAt w A L) (h63 : m ≤ maxLen) (hby : m * bytes ≤ 140737488355328) (N : Nat) (hN : N ≤ w.heap.size) (ho : w.ownsRow N e size (.slice (some ⟨ad, 0, none⟩) 0 0) 0 []) :
    Oper.stirAt P o a w Newer (fun w' v => ShapeOf m v ∧ w'.ownsRow N e size v m L) := by
  obtain ⟨i0, hi, iz0, iz1, iz2⟩ := info_parts hinfo
  have hbytes : (0 + m) * bytes ≤ 140737488355328 := by rw [Nat.zero_add]; exact hby
  rcases Nat.eq_zero_or_pos m with h0 | h0
  · subst h0
    obtain rfl : L = [] := List.eq_nil_of_length_eq_zero (by simpa using hl)
    have hrun : (Builtin.append_ #[t, t] o.type #[.slice (some ⟨ad, 0, none⟩) 0 0, .slice A 0 c]).run P w = .ok (.slice (some ⟨ad, 0, none⟩) 0 0) w := by
      cases A with
      | none => simp [Builtin.append_, run_underlying ht, sizeOf, typeInfo, hi, Builtin.lenOf, Builtin.firstCells, storeCells]
      | some a =>
        have hfc := run_firstCells_some (P := P) w i0.size 0 a 0 c [] (by simp) (fun j u h => by simp at h)
        simp [Builtin.append_, run_underlying ht, sizeOf, typeInfo, hi, Builtin.lenOf, hfc, storeCells]
    unfold Oper.stirAt
    simp only [execOp, hop, resolve, invoke, builtin, List.map_toArray, List.map_cons, List.map_nil, hs, hx, hrun, Result.andThen, Sem.run_bind, Sem.run_pure, Oper.stirUpon]
    exact ⟨Below.refl _ _, ⟨_, _, rfl⟩, ho⟩
  · rcases hr with hr | ⟨b, o', rfl, hlt, hc⟩
    · rw [hr] at hl
      have := Nat.mul_pos h0 hsz
      simp only [List.length_nil] at hl
      omega
    · obtain ⟨v', w', hrun, hown, hg⟩ := run_append_arg_grows (P := P) w t o.type e i0 z size bytes ht hi iz0 iz1 iz2 hzs hsz ⟨ad, 0, none⟩ 0 0 [] (by simp) (fun j u h => by simp at h) ⟨b, o', none⟩ m c L hl (fun j u h => by
        rw [show (⟨b, o', none⟩ : Addr).add j = ⟨b, o' + j, none⟩ from by unfold Addr.add; split <;> simp_all]; exact hc j u h) (by omega) (by omega) hbytes
      simp only [List.nil_append, Nat.zero_add] at hown
      obtain ⟨g, cap, rfl⟩ := owns_form hown h0
      unfold Oper.stirAt
      simp only [execOp, hop, resolve, invoke, builtin, List.map_toArray, List.map_cons, List.map_nil, hs, hx, hrun, Result.andThen, Sem.run_bind, Sem.run_pure, Oper.stirUpon]
      exact ⟨below_grown hg, ⟨_, _, rfl⟩, owns_lower hown hN⟩
def ownsV (N : Nat) (e : TypeId) (size m : Nat) (L : List Value) (w : World) (v : Value) : Prop := w.ownsRow N e size v m L
theorem ownsG {N : Nat} {e : TypeId} {size m : Nat} {L : List Value} : (Stir.held (ShapeOf m) (ownsV N e size m L)).good := ⟨⟨_, 0, 0, rfl⟩, fun _ _ _ hb h => owns_below h hb⟩
/-- a town's value in the midst of Copy -/
def twnS (m : Int) (n : Nat) (v : Value) : Prop := ∃ g c, v = .agg #[.int .i64 m, .slice none 0 0, .slice (some ⟨g, 0, none⟩) n c]
def twnR (N : Nat) (m : Int) (n : Nat) (L : List Value) (w : World) (v : Value) : Prop := ∀ g c, v = .agg #[.int .i64 m, .slice none 0 0, .slice (some ⟨g, 0, none⟩) n c] → w.ownsRow N 27 5 (.slice (some ⟨g, 0, none⟩) n c) n L
theorem twnG {N : Nat} {m : Int} {n : Nat} {L : List Value} : (Stir.held (twnS m n) (twnR N m n L)).good := ⟨⟨_, 0, 0, rfl⟩, fun _ _ _ hb h g c e => owns_below (h g c e) hb⟩
/-- a new box -/
def boxS (v : Value) : Prop := ∃ b, v = .pointer (some ⟨b, 0, none⟩)
def boxR (N : Nat) (t : TypeId) (cs : Array Value) (w : World) (v : Value) : Prop := ∀ b, v = .pointer (some ⟨b, 0, none⟩) → N ≤ b ∧ TBox w b t cs
theorem boxG {N : Nat} {t : TypeId} {cs : Array Value} : (Stir.held boxS (boxR N t cs)).good := ⟨⟨_, 0, rfl⟩, fun _ _ _ hb h b e => ⟨(h b e).1, (h b e).2.mono hb⟩⟩
/-- a copied world -/
def wdS (n : Nat) (v : Value) : Prop := ∃ A c, v = .agg #[.slice A n c]
def wdR (x : Wd) (w : World) (v : Value) : Prop := ∀ u, v = .agg #[u] → WdK w u x
theorem wdG {x : Wd} : (Stir.held (wdS x.n) (wdR x)).good := ⟨⟨_, none, 0, rfl⟩, fun _ _ _ hb h u e => (h u e).mono hb⟩
def wdIn (x : Wd) (w : World) (v : Value) : Prop := ∀ b, v = .slice (some ⟨b, 0, none⟩) 1 1 → ∃ u, w.cell? ⟨b, 0, none⟩ = some u ∧ WdK w u x
theorem wdInG {x : Wd} : (Stir.held one1 (wdIn x)).good := ⟨⟨_, 0, rfl⟩, fun _ _ _ hb h b e => by
  obtain ⟨u, h1, h2⟩ := h b e
  exact ⟨u, (hb.cell (World.block_lt_of_cell? _ _ h1)).trans h1, h2.mono hb⟩⟩
theorem WdK.one {w : World} {u : Value} {x : Wd} (h : WdK w u x) : u.oneCell' = true := by
  obtain ⟨A, c, vs, rfl, _⟩ := h
  rfl
theorem infoFact : (Tryz.prog.info? 27).map (fun i => (i.zero, i.size, i.bytes)) = some (some (.agg #[.int .i64 0, .int .i64 0, .int .i64 0, .int .i64 0, .int .i64 0]), 5, 40) := by kernel_rfl
theorem infoWorld : (Tryz.prog.info? 63).map (fun i => (i.zero, i.size, i.bytes)) = some (some (.agg #[.slice none 0 0]), 1, 24) := by kernel_rfl
theorem owns_setT {w : World} {base : Nat} {e t : TypeId} {size n : Nat} {v : Value} {xs : List Value} (h : w.ownsRow base e size v n xs) {b : Nat} {cs : Array Value} (hb : TBox w b t cs) (ht : t ≠ e) (o : Nat) (u : Value) : (w.setCell ⟨b, o, none⟩ u).ownsRow base e size v n xs :=
  ⟨h.1, h.2.imp id fun ⟨g, cap, cur, h1, h2, h3, h4⟩ => ⟨g, cap, cur, h1, h2, (Below.heap_setCell w ⟨b, o, none⟩ u g (fun e' => by
    have e'' : g = b := e'
    subst e''
    rw [show w.heap[g]? = some (Obj.cells cs t (0, 0)) from hb] at h3
    injection h3 with h3
    injection h3 with _ h3 _
    exact ht h3)).trans h3, h4⟩⟩
def CopyOut (w : World) (base : Nat) (t : Qt) (e : Ending) : Prop := ∃ vW vF, e = .returned (.agg #[.int .i64 t.wells, vW, vF]) ∧ CopyAt w base vW vF t
set_option maxHeartbeats 4000000 in
set_option maxRecDepth 100000 in
theorem copy5_any (Aw Af : Option Addr) (cw cf : Nat) (t : Qt) (w : World) (hf : t.Fits) (hT : QAt w Aw Af t) :
    Calls Tryz.prog 19 #[.agg #[.int .i64 t.wells, .slice Aw t.nw cw, .slice Af t.nf cf]] w fun e w' => CopyOut w' w.heap.size t e ∧ Below w.heap.size w w' := by
  have hb2 := bAlloc (bAlloc (Below.refl w.heap.size w) (.cells #[.int .i64 t.wells, .slice Aw t.nw cw, .slice Af t.nf cf] 25)) (.cells #[.int .i64 0, .slice none 0 0, .slice none 0 0] 25)
  have HT := Lib.hid (hT.mono hb2)
  have HB := Lib.hid hb2
  have HF := Lib.hid hf
  have HFR := Lib.hid (factsAt_iff (hT.mono hb2).facts)
  have hn63 : t.nw ≤ 9223372036854775807 := by have := hf.1; omega
  have HTR := Lib.hid (TBox.new (w.alloc (.cells #[.int .i64 t.wells, .slice Aw t.nw cw, .slice Af t.nf cf] 25)) #[.int .i64 0, .slice none 0 0, .slice none 0 0] 25)
  clear hT hb2 hf
  go_enter Tryz.func19, Tryz.ntmps19
  go_wp2_with fail
  refine wp_region_stir 8 [.const (.pointer (some ⟨w.heap.size, 0, none⟩)), .const (.int .i64 t.wells), .held emptyV (ownsV (w.heap.size + 2) 27 5 0 []), .const (.pointer (some ⟨w.heap.size, 2, none⟩)), .const (.slice Af t.nf cf), .held (ShapeOf t.nf) (ownsV (w.heap.size + 2) 27 5 t.nf (factL t.fact t.nf)), .held (twnS t.wells t.nf) (twnR (w.heap.size + 2) t.wells t.nf (factL t.fact t.nf)), .held boxS (boxR (w.heap.size + 2) 25 #[.int .i64 0, .slice none 0 0, .slice none 0 0])]
    (by kernel_rfl) (by kernel_rfl) rfl ⟨trivial, trivial, ⟨⟨_, 0, rfl⟩, fun _ _ _ hb h => owns_below h hb⟩, trivial, trivial, ownsG, twnG, boxG, trivial⟩ (crossAll_no _ _ _ _ trivial) ?_
  iterate 2 refine wpStir_const (by go_simp) ?_
  refine wpStir_held rfl (fun w' hb hd => ?_) (fun v hv => ?_)
  · clear hd
    have hz := hb.size
    simp only [World.size_alloc] at hz
    have hl := World.ownsRow_lit (base := w.heap.size + 2) (e := 27) (size := 5) w' #[] 0 (by omega) (by decide) rfl
    go_simp
    exact ⟨bAlloc (Below.refl _ _) _, ⟨_, rfl⟩, hl⟩
  obtain ⟨b1, rfl⟩ := hv
  iterate 2 refine wpStir_const (by go_simp) ?_
  simp only [Act.put, List.setIfInBounds_toArray, List.set_cons_succ, List.set_cons_zero]
  refine wpStir_held rfl (fun w' hb hd => ?_) (fun v hv => ?_)
  · have h1 : ownsV (w.heap.size + 2) 27 5 0 [] w' (.slice (some ⟨b1, 0, none⟩) 0 0) := hd.1 (by kernel_rfl)
    clear hd
    have hz := hb.size
    simp only [World.size_alloc] at hz
    exact stir_copy3 w' (Operand.tmp 7) (Operand.tmp 9) 23 rfl 27 (.agg #[.int .i64 0, .int .i64 0, .int .i64 0, .int .i64 0, .int .i64 0]) 5 40 infoFact Tryz.underlying23 rfl (by decide) b1 Af t.nf cf (factL t.fact t.nf) rfl rfl (factL_len _ _) (HFR.out.mono hb) (by unfold maxLen; have := HF.out.2.1; omega) (by have := HF.out.2.1; omega) _ (by omega) h1
  obtain ⟨b2, c2, rfl⟩ := hv
  refine wpStir_held rfl (fun w' hb hd => ?_) (fun v hv => ?_)
  · have h1 : ownsV (w.heap.size + 2) 27 5 t.nf (factL t.fact t.nf) w' (.slice (some ⟨b2, 0, none⟩) t.nf c2) := hd.1 (by kernel_rfl)
    clear hd
    go_simp
    refine ⟨⟨_, _, rfl⟩, fun g c e => ?_⟩
    simp only [Value.agg.injEq, Array.mk.injEq, List.cons.injEq, Value.slice.injEq, Option.some.injEq, Addr.mk.injEq, and_true, true_and] at e
    obtain ⟨rfl, rfl⟩ := e
    exact h1
  obtain ⟨b3, c3, rfl⟩ := hv
  refine wpStir_held rfl (fun w' hb hd => ?_) (fun v hv => ?_)
  · clear hd
    have hz := hb.size
    simp only [World.size_alloc] at hz
    go_simp
    refine ⟨bAlloc (Below.refl _ _) _, ⟨_, rfl⟩, fun b e => ?_⟩
    obtain rfl : w'.heap.size = b := by simpa using e
    exact ⟨by omega, TBox.new _ _ _⟩
  obtain ⟨b7, rfl⟩ := hv
  simp only [Act.put, List.setIfInBounds_toArray, List.set_cons_succ, List.set_cons_zero]
  refine wpStir_end (fun w5 hb5 hd => ?_)
  obtain ⟨hb7, htb⟩ := hd.1 b7 rfl
  have hfx := hd.2.1 b3 c3 rfl
  clear hd
  have HFX := Lib.hid hfx
  have HTB := Lib.hid htb
  have HB5 := Lib.hid hb5
  have x0 : w5.cell? ⟨b7, 0, none⟩ = some (.int .i64 0) := htb.cell 0
  have x1 : w5.cell? ⟨b7, 1, none⟩ = some (.slice none 0 0) := htb.cell 1
  have x2 : w5.cell? ⟨b7, 2, none⟩ = some (.slice none 0 0) := htb.cell 2
  have y0 := htb.frozen 0
  have y1 := htb.frozen 1
  have y2 := htb.frozen 2
  have hz5 := hb5.size
  simp only [World.size_alloc] at hz5
  clear hfx htb hb5
  simp only [List.drop_succ_cons, List.drop_zero]
  go_wp2_with fail
  have HT6 := Lib.hid (((HTB.out.set 0 (.int .i64 t.wells)).set 1 (.slice none 0 0)).set 2 (.slice (some ⟨b3, 0, none⟩) t.nf c3))
  have HF6 := Lib.hid (owns_setT (owns_setT (owns_setT HFX.out HTB.out (by decide) 0 (.int .i64 t.wells)) (HTB.out.set 0 (.int .i64 t.wells)) (by decide) 1 (.slice none 0 0)) ((HTB.out.set 0 (.int .i64 t.wells)).set 1 (.slice none 0 0)) (by decide) 2 (.slice (some ⟨b3, 0, none⟩) t.nf c3))
  have HB6 := Lib.hid (show Below (w.heap.size + 2) ((w.alloc (.cells #[.int .i64 t.wells, .slice Aw t.nw cw, .slice Af t.nf cf] 25)).alloc (.cells #[.int .i64 0, .slice none 0 0, .slice none 0 0] 25)) _ from Below.setCell (p := ⟨b7, 2, none⟩) (Below.setCell (p := ⟨b7, 1, none⟩) (Below.setCell (p := ⟨b7, 0, none⟩) (by have := HB5.out; simpa using this) (show w.heap.size + 2 ≤ b7 from hb7) (.int .i64 t.wells)) (show w.heap.size + 2 ≤ b7 from hb7) (.slice none 0 0)) (show w.heap.size + 2 ≤ b7 from hb7) (.slice (some ⟨b3, 0, none⟩) t.nf c3))
  have hlt7 := HTB.out.lt
  have hlt3 : b3 < w5.heap.size := (HFX.out.lt b3 rfl).2
  clear x0 x1 x2 y0 y1 y2
  go_loopw [4] (fun s wr => ∃ (k : Nat) (V : Value) (us : List Value), k ≤ t.nw ∧ s = .int .i64 k ∧ TBox wr b7 25 #[.int .i64 t.wells, V, .slice (some ⟨b3, 0, none⟩) t.nf c3] ∧ wr.ownsRow w5.heap.size 63 1 V k us ∧ WsRows wr t.world k us ∧ w5.heap.size ≤ wr.heap.size ∧ wr.ownsRow (w.heap.size + 2) 27 5 (.slice (some ⟨b3, 0, none⟩) t.nf c3) t.nf (factL t.fact t.nf) ∧ Below (w.heap.size + 2) ((w.alloc (.cells #[.int .i64 t.wells, .slice Aw t.nw cw, .slice Af t.nf cf] 25)).alloc (.cells #[.int .i64 0, .slice none 0 0, .slice none 0 0] 25)) wr) (fun s _ => t.nw - (intOf s).toNat)
  case atStart => exact ⟨0, .slice none 0 0, [], Nat.zero_le _, rfl, HT6.out, World.ownsRow_nil _ _ _ _, ⟨rfl, fun j u h => by simp at h⟩, by simp, HF6.out, HB6.out⟩
  case round =>
    obtain ⟨k, V, us, hk, rfl, hbx, hown, hrows, hsz5, hfacts, hbel⟩ := hrel
    have HX := Lib.hid hbx
    have HO := Lib.hid hown
    have HR := Lib.hid hrows
    have HFA := Lib.hid hfacts
    have HL := Lib.hid hbel
    have hbw : Below w.heap.size w wr := bTrans HB.out (by simpa using hbel)
    have HW := Lib.hid hbw
    have HTW := Lib.hid (HT.out.worlds.mono (show Below ((w.alloc (.cells #[.int .i64 t.wells, .slice Aw t.nw cw, .slice Af t.nf cf] 25)).alloc (.cells #[.int .i64 0, .slice none 0 0, .slice none 0 0] 25)).heap.size _ wr by simpa using hbel))
    have p0 := (hbel.cell (p := ⟨w.heap.size, 0, none⟩) (by show w.heap.size < w.heap.size + 2; omega)).trans (show _ = some (.int .i64 t.wells) by simp [go_sem])
    have p1 := (hbel.cell (p := ⟨w.heap.size, 1, none⟩) (by show w.heap.size < w.heap.size + 2; omega)).trans (show _ = some (.slice Aw t.nw cw) by simp [go_sem])
    have q1 : wr.cell? ⟨b7, 1, none⟩ = some V := hbx.cell 1
    have hz : b7 < wr.heap.size := hbx.lt
    have hy : w.heap.size < wr.heap.size := by omega
    clear hbx hown hrows hfacts hbel hbw
    by_cases hlt : k < t.nw
    · rcases HTW.out with h0 | ⟨b, o, hA, hb, hc⟩
      · omega
      obtain ⟨A', c', c0, hrow, hlen⟩ := hc k hlt
      subst hA
      obtain ⟨x, hx⟩ : ∃ x, t.world k = x := ⟨_, rfl⟩
      rw [hx] at c0 hrow hlen
      have HXE := Lib.hid hx
      have HXF := Lib.hid (show x.Fits by have := HF.out.2.2 k hlt; rw [hx] at this; exact this)
      have HROW := Lib.hid hrow
      have k1 : (k : Int) < (t.nw : Int) := by omega
      have k0 : (0 : Int) ≤ (k : Int) := by omega
      have HN := Lib.hid (show (k + 1) * 24 ≤ 140737488351232 by have := HF.out.1; omega)
      clear hc hrow hx
      go_wp2_with fail
      refine wp_region_pin 9 [.const (.pointer (some ⟨b7, 1, none⟩)), .const V, .const (.pointer (some ⟨w.heap.size, 1, none⟩)), .const (.slice (some ⟨b, o, none⟩) t.nw cw), .const (.int .i64 k), .const (.pointer (some ⟨b, o + k, none⟩)), .const (.agg #[.slice A' x.n c']), .held (wdS x.n) (wdR x), .held one1 (wdIn x)]
        [.pointer (some ⟨b7, 1, none⟩)] (by kernel_rfl) (by kernel_rfl) rfl ⟨trivial, trivial, trivial, trivial, trivial, trivial, trivial, wdG, wdInG, trivial⟩ (crossAll_no _ _ _ _ trivial) rfl rfl (fun j u hj => ?_) ?_
      · match j, hj with
        | 0, hj =>
          obtain rfl : Value.pointer (some ⟨b7, 1, none⟩) = u := by simpa using hj
          exact ⟨_, rfl, rfl, fun w' => by go_simp⟩
      iterate 7 refine wpStir_const (by go_simp) ?_
      simp only [Act.put, List.setIfInBounds_toArray, List.set_cons_succ, List.set_cons_zero]
      refine wpStir_held rfl (fun w' hb hd => ?_) (fun v hv => ?_)
      · clear hd
        have hcw := Lib.hid (copyWorld5_any A' c' x w' HXF.out (HROW.out.mono hb))
        go_simp
        refine hcw.out.mono ?_
        rintro e w'' ⟨⟨v, vs, rfl, ho, hr⟩, hb'⟩
        obtain ⟨A3, c3', rfl, h3⟩ := RowK.own ho
        refine ⟨_, rfl, hb', ⟨_, _, rfl⟩, fun u e => ?_⟩
        obtain rfl : Value.slice A3 x.n c3' = u := by simpa using e
        exact ⟨A3, c3', vs, rfl, h3, hr⟩
      obtain ⟨A3, c4, rfl⟩ := hv
      refine wpStir_held rfl (fun w' hb hd => ?_) (fun v hv => ?_)
      · have h1 : WdK w' (.slice A3 x.n c4) x := hd.1 (by kernel_rfl) _ rfl
        clear hd
        go_simp
        refine ⟨bAlloc (Below.refl _ _) _, ⟨_, rfl⟩, fun b' hb' => ?_⟩
        obtain rfl : w'.heap.size = b' := by simpa using hb'
        exact ⟨_, by simp [go_sem], h1.mono (bAlloc (Below.refl _ _) _)⟩
      obtain ⟨b9, rfl⟩ := hv
      simp only [Act.put, List.setIfInBounds_toArray, List.set_cons_succ, List.set_cons_zero]
      refine wpStir_end (fun w9 hb9 hd => ?_)
      obtain ⟨u, h4, h5⟩ := hd.1 b9 rfl
      clear hd
      have HX9 := Lib.hid (HX.out.mono hb9)
      have HO9 := Lib.hid (owns_below HO.out hb9)
      have HR9 := Lib.hid (HR.out.mono hb9)
      have HFA9 := Lib.hid (owns_below HFA.out hb9)
      have HK9 := Lib.hid h5
      have HL9 := Lib.hid (HL.out.trans (hb9.mono (by have := HX.out.lt; omega)))
      refine stir_own (Operand.tmp 20) (Operand.tmp 27) 22 rfl w5.heap.size 63 (.agg #[.slice none 0 0]) 1 24 infoWorld Tryz.underlying22 rfl (by decide) V k us rfl HO9.out ⟨b9, 0, none⟩ 1 1 [u] rfl rfl (news1 h4) (one1c h5.one) (by unfold maxLen; have := HN.out; omega) (by have := HN.out; omega) (by have := hb9.size; omega) (fun v' w10 hown10 hg10 => ?_)
      obtain ⟨A6, c6, rfl, _⟩ := RowK.own hown10
      have hnb : some b7 ≠ V.ownBlock := fun e => by have := HO9.out.lt _ e.symm; omega
      have hnf : (Value.slice (some ⟨b3, 0, none⟩) t.nf c3).ownBlock ≠ V.ownBlock := fun e => by
        have := HO9.out.lt b3 e.symm
        omega
      have HX10 := Lib.hid (HX9.out.grown hg10 hnb)
      have hk10 : Kept [3, 34] w9 w10 := Kept.of_own hg10 HO9.out (by decide)
      have HR10 := Lib.hid (HR9.out.kept hk10 (by simp) (by simp))
      have HK10 := Lib.hid (HK9.out.kept hk10 (by simp) (by simp))
      have HFA10 := Lib.hid (HFA9.out.kept hg10 (.inr hnf))
      have HL10 := Lib.hid (HL9.out.grown hg10 (by have := HX9.out.lt; omega) (fun q hq => by have := (HO9.out.lt q hq).1; omega))
      have HO10 := Lib.hid hown10
      have hz10 : w5.heap.size ≤ w10.heap.size := by have := hg10.size; have := hb9.size; omega
      have r1 : w10.cell? ⟨b7, 1, none⟩ = some V := HX10.out.cell 1
      have r2 := HX10.out.frozen 1
      clear hown10 hg10 h4 h5 hb9 p0 p1 q1 c0 hnb hnf hk10
      simp only [putF, Act.put, List.setIfInBounds_toArray, List.set_cons_succ, List.set_cons_zero, List.drop_succ_cons, List.drop_zero]
      go_wp2_with fail
      go_roundw
      case rel =>
        have hk11 : Kept [3, 34] w10 (w10.setCell ⟨b7, 1, none⟩ (.slice A6 (k + 1) c6)) := Kept.set HX10.out (by decide) 1 _
        have hs11 : WsRows (w10.setCell ⟨b7, 1, none⟩ (.slice A6 (k + 1) c6)) t.world (k + 1) (us ++ [u]) := (HR10.out.kept hk11 (by simp) (by simp)).snoc (by rw [HXE.out]; exact HK10.out.kept hk11 (by simp) (by simp)) (by rw [HXE.out]; have := HXF.out.1; omega)
        refine ⟨k + 1, .slice A6 (k + 1) c6, _, by omega, ?_, HX10.out.set 1 (.slice A6 (k + 1) c6), owns_set HO10.out (by omega) 1 (.slice A6 (k + 1) c6), hs11, by simpa using hz10, owns_setT HFA10.out HX10.out (by decide) 1 _, HL10.out.setCell (p := ⟨b7, 1, none⟩) (show w.heap.size + 2 ≤ b7 from hb7) (.slice A6 (k + 1) c6)⟩
        go_num
      case measure => simp [intOf]; omega
    · obtain rfl : k = t.nw := by omega
      obtain ⟨A6, c6, rfl, _⟩ := RowK.own HO.out
      have q0 : wr.cell? ⟨b7, 0, none⟩ = some (.int .i64 t.wells) := HX.out.cell 0
      have q2 : wr.cell? ⟨b7, 2, none⟩ = some (.slice (some ⟨b3, 0, none⟩) t.nf c3) := HX.out.cell 2
      have hTR : TBox wr (w.heap.size + 1) 25 #[.int .i64 0, .slice none 0 0, .slice none 0 0] := (HL.out.block (w.heap.size + 1) (by omega)).trans (by have := HTR.out; simpa [TBox] using this)
      have HTR9 := Lib.hid hTR
      have s0 : wr.cell? ⟨w.heap.size + 1, 0, none⟩ = some (.int .i64 0) := hTR.cell 0
      have s1 : wr.cell? ⟨w.heap.size + 1, 1, none⟩ = some (.slice none 0 0) := hTR.cell 1
      have s2 : wr.cell? ⟨w.heap.size + 1, 2, none⟩ = some (.slice none 0 0) := hTR.cell 2
      have t0 := hTR.frozen 0
      have t1 := hTR.frozen 1
      have t2 := hTR.frozen 2
      have hy1 : w.heap.size + 1 < wr.heap.size := hTR.lt
      clear hTR
      go_wp2_with fail
      have hT0 := HTR9.out.set 0 (.int .i64 t.wells)
      have hT1 := hT0.set 1 (.slice A6 t.nw c6)
      have hk : Kept [3, 34] wr (((wr.setCell ⟨w.heap.size + 1, 0, none⟩ (.int .i64 t.wells)).setCell ⟨w.heap.size + 1, 1, none⟩ (.slice A6 t.nw c6)).setCell ⟨w.heap.size + 1, 2, none⟩ (.slice (some ⟨b3, 0, none⟩) t.nf c3)) :=
        ((Kept.set HTR9.out (by decide) 0 _).trans (Kept.set hT0 (by decide) 1 _)).trans (Kept.set hT1 (by decide) 2 _)
      refine bodyPost_ret (v := .agg #[.int .i64 t.wells, .slice A6 t.nw c6, .slice (some ⟨b3, 0, none⟩) t.nf c3]) (by simp [results, Tryz.results19, go_sem, *]) rfl ⟨⟨_, _, rfl, ⟨us, ?_, HR.out.kept hk (by simp) (by simp)⟩, ?_⟩, ?_⟩
      · exact owns_lower (owns_setT (owns_setT (owns_setT HO.out HTR9.out (by decide) 0 _) hT0 (by decide) 1 _) hT1 (by decide) 2 _) (by omega)
      · exact owns_lower (owns_setT (owns_setT (owns_setT HFA.out HTR9.out (by decide) 0 _) hT0 (by decide) 1 _) hT1 (by decide) 2 _) (by omega)
      · exact Below.setCell (p := ⟨w.heap.size + 1, 2, none⟩) (Below.setCell (p := ⟨w.heap.size + 1, 1, none⟩) (Below.setCell (p := ⟨w.heap.size + 1, 0, none⟩) HW.out (by simp) (.int .i64 t.wells)) (by simp) (.slice A6 t.nw c6)) (by simp) (.slice (some ⟨b3, 0, none⟩) t.nf c3)
end Go.Proofs.YtifkjnmnflhnoaaGreatDoor

namespace Go.Proofs.YtifkjnmnflhnoaaGreatDoor
open Go.RowKit Go.Sort
theorem neqFact (w : World) (a b c d e : Int) : (binOp .neq 27 (.agg #[.int .i64 a, .int .i64 b, .int .i64 c, .int .i64 d, .int .i64 e]) (.agg #[.int .i64 a, .int .i64 b, .int .i64 c, .int .i64 d, .int .i64 e])).run Tryz.prog w = .ok (.bool false) w := by
  simp [go_sem]
attribute [local go_sem] neqFact
end Go.Proofs.YtifkjnmnflhnoaaGreatDoor

namespace Go.Proofs.YtifkjnmnflhnoaaGreatDoor
open Go.RowKit Go.Sort
/-! ### One fact more -/
def Qt.add (t : Qt) (f : Fact) : Qt := ⟨t.wells, t.nw, t.world, t.nf + 1, fun i => if i < t.nf then t.fact i else f⟩
theorem leftB_add (t : Qt) (f : Fact) (i : Nat) : (t.add f).leftB i = (t.leftB i && (t.world i).agrees f) := by
  unfold Qt.leftB
  show (!(anyB (fun j => !(t.world i).agrees (if j < t.nf then t.fact j else f)) t.nf || !(t.world i).agrees (if t.nf < t.nf then t.fact t.nf else f))) = _
  rw [if_neg (Nat.lt_irrefl _), anyB_congr (q := fun j => !(t.world i).agrees (t.fact j)) fun j hj => by rw [if_pos hj]]
  simp
theorem leftTo_add (t : Qt) (f : Fact) : ∀ n, (t.add f).leftTo n = (t.leftTo n).filter fun a => (t.world a.toNat).agrees f
  | 0 => rfl
  | n + 1 => by
    have ih := leftTo_add t f n
    unfold Qt.leftTo
    rw [leftB_add, ih]
    cases t.leftB n
    · simp
    · cases h : (t.world n).agrees f <;> simp [h]
theorem leftL_add (t : Qt) (f : Fact) : (t.add f).leftL = t.leftL.filter fun a => (t.world a.toNat).agrees f := leftTo_add t f t.nw
/-! ### One world more -/
/-! ### Another order -/
/-! ### Fewer worlds: spans, and what is known -/
theorem spanOf_sub {f : Int → Int} {L L' : List Int} (h : ∀ a, a ∈ L' → a ∈ L) (hne : L' ≠ []) : (spanOf f L).1 ≤ (spanOf f L').1 ∧ (spanOf f L').1 ≤ (spanOf f L').2 ∧ (spanOf f L').2 ≤ (spanOf f L).2 :=
  ⟨(spanOf_ge hne).2 fun a ha => (spanOf_in (h a ha)).1, spanOf_order hne, (spanOf_le hne).2 fun a ha => (spanOf_in (h a ha)).2⟩
theorem harmK_sub {s u : Int × Int} {law : Int} (h1 : s.1 ≤ u.1) (h2 : u.1 ≤ u.2) (h3 : u.2 ≤ s.2) (hk : harmK s law ≠ 3) : harmK u law = harmK s law := by
  unfold harmK at hk ⊢
  by_cases a : law < s.1
  · rw [if_pos a, if_pos (by omega)]
  · rw [if_neg a] at hk ⊢
    by_cases b : s.2 ≤ law
    · rw [if_pos b, if_neg (by omega), if_pos (by omega)]
    · rw [if_neg b] at hk
      exact absurd rfl hk
end Go.Proofs.YtifkjnmnflhnoaaGreatDoor

namespace Go.Proofs.YtifkjnmnflhnoaaGreatDoor
open Go.RowKit Go.Sort Go.Shelf
section
variable {P : Program} {ops : Array Oper} {md : Region.Mode} {n : Nat} {F : Fence} {Cl : World → Prop}
/-- a fence that lets everything by -/
structure Open (F : Fence) (P : Program) : Prop where
  fn : ∀ f, F.fn f
  depth : F.depth.isSome = false
  call : ∀ {n f : Nat} {args : Array Value} {w : World} {R : Ending → World → Prop}, Calls P f args w R → CallsIn F n P f args w R
theorem openRound (P : Program) (l : Nat) : Open (Fence.wide.inRound l) P := ⟨fun _ => trivial, rfl, fun h => CallsIn.inRound l (callsIn_wide.2 h)⟩
def clsUpon (P : Program) (Cl : World → Prop) (w : World) (v : Value) : Result Next → Prop
  | .ok (.value u) w' => Cl w' ∧ u = v
  | .ok .skip w' => Cl w' ∧ v = undef
  | .ok (.enter f args) w' => w' = w ∧ Calls P f args w (fun e w'' => e = .returned v ∧ Cl w'')
  | _ => False
def clsAt (P : Program) (Cl : World → Prop) (o : Oper) (a : Act) (w : World) (v : Value) : Prop := clsUpon P Cl w v ((execOp a.eval o).run P w)
attribute [go_sem] clsAt clsUpon
theorem wpIn_of_cls (hF : Open F P) {o : Oper} {a : Act} {w : World} {v : Value} {K : Act → World → Prop} {Q : Exit → Act → World → Prop} (hdf : ∀ c, o.op ≠ .defer c) (h : clsAt P Cl o a w v) (hK : ∀ w', Cl w' → K (a.put o.dst v) w') : o.wpIn F n P a w K Q := by
  unfold clsAt at h
  unfold Oper.wpIn
  refine ⟨fun f _ => hF.fn f, ?_⟩
  rw [Oper.semAt_eq _ _ _ hdf]
  generalize (execOp a.eval o).run P w = r at *
  cases r with
  | ok n' w' =>
    cases n' <;> simp only [clsUpon] at h <;> simp only [Oper.uponIn]
    case value u =>
      obtain ⟨e1, e2⟩ := h
      rw [e2]
      exact hK _ e1
    case skip =>
      obtain ⟨e1, e2⟩ := h
      rw [← e2]
      exact hK _ e1
    case enter f args =>
      obtain ⟨e1, hc⟩ := h
      rw [e1]
      exact ⟨(fun h => by rw [hF.depth] at h; cases h), (hF.call hc).mono fun e w'' ⟨he, hw''⟩ => by subst he; exact hK _ hw''⟩
  | halt x w' => simp only [clsUpon] at h
end
end Go.Proofs.YtifkjnmnflhnoaaGreatDoor

namespace Go.Proofs.YtifkjnmnflhnoaaGreatDoor
open Go.RowKit Go.Sort Go.Shelf
end Go.Proofs.YtifkjnmnflhnoaaGreatDoor

namespace Go.Proofs.YtifkjnmnflhnoaaGreatDoor
open Go.RowKit Go.Sort Go.Shelf
end Go.Proofs.YtifkjnmnflhnoaaGreatDoor

namespace Go.Proofs.YtifkjnmnflhnoaaGreatDoor
open Go.RowKit Go.Sort Go.Shelf
attribute [local go_sem] Oper.semAt_some
end Go.Proofs.YtifkjnmnflhnoaaGreatDoor

namespace Go.Proofs.YtifkjnmnflhnoaaGreatDoor
open Go.RowKit Go.Sort Go.Shelf
section
variable {P : Program} {ops : Array Oper} {md : Region.Mode} {F : Fence} {k : Nat}
end
end Go.Proofs.YtifkjnmnflhnoaaGreatDoor

namespace Go.Proofs.YtifkjnmnflhnoaaGreatDoor
open Go.RowKit Go.Sort Go.Shelf
end Go.Proofs.YtifkjnmnflhnoaaGreatDoor

namespace Go.Proofs.YtifkjnmnflhnoaaGreatDoor
open Go.RowKit Go.Sort Go.Shelf
section
variable {P : Program} {ops : Array Oper} {md : Region.Mode} {n : Nat} {F : Fence} {Cl : Option Nat → World → Prop} {val : Nat → Value}
end
end Go.Proofs.YtifkjnmnflhnoaaGreatDoor

