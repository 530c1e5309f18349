/- Parts joined. -/
import Derived.Test.YtchhodikgllgnaaDoorNQP
import Derived.Test.YtchhodikgllgnaaDoorNQK
import Derived.Test.YtchhodikgllgnaaDoorNQQ
import Derived.Test.YtchhodikgllgnaaDoorNQJ
set_option linter.unusedSimpArgs false
set_option linter.unusedVariables false
/- Walks of the law 05: areTests, of tests in order. Conditions: a valid town. -/
namespace Go.Proofs.YtchhodikgllgnaaDoor
open Go.RowKit Go.Sort
set_option maxHeartbeats 8000000 in
set_option maxRecDepth 100000 in
theorem areTests_any (Aw Af A : Option Addr) (cw cf c : Nat) (t : Qt) (l : List Tp) (w : World) (ok : t.Ok) (hl : t.TestsOk l) (hp : l.Pairwise lexLt) (hlen : l.length ≤ t.wells.toNat * t.wells.toNat) (hA : RowAt w A (tstE.cells l)) :
    Calls Tryd.prog 28 #[.agg #[.int .i64 t.wells, .slice Aw t.nw cw, .slice Af t.nf cf], .slice A l.length c] w fun e w' => e = .returned (.bool true) ∧ Below w.heap.size w w' := by
  have hb0 := bAlloc (Below.refl w.heap.size w) (.cells #[.int .i64 t.wells, .slice Aw t.nw cw, .slice Af t.nf cf] 25)
  have HB := Lib.hid hb0
  have HA := Lib.hid (hA.mono hb0)
  have HLO := Lib.hid hl
  have HPW := Lib.hid hp
  have HOK := Lib.hid ok
  obtain ⟨n, hn⟩ : ∃ n, l.length = n := ⟨_, rfl⟩
  have HN := Lib.hid hn
  obtain ⟨mm, hmm⟩ : ∃ mm, t.wells * t.wells = mm := ⟨_, rfl⟩
  obtain ⟨m, hm⟩ : ∃ m : Nat, t.wells = (m : Int) := ⟨t.wells.toNat, by have := ok.w0; omega⟩
  have m4 : m ≤ 4 := by have := ok.w1; omega
  have hm2 : mm = ((m * m : Nat) : Int) := by rw [← hmm, hm]; simp
  have hm16 : m * m ≤ 4 * 4 := Nat.mul_le_mul m4 m4
  have hgt : ¬ (n : Int) > mm := by rw [hn, hm, Int.toNat_natCast] at hlen; omega
  have hwr : IntKind.i64.wrap mm = mm := IntWalk.i64_in _ (by omega)
  have hn16 : n ≤ 16 := by omega
  rw [hn]
  clear hA hl hp hlen hb0 ok hn hm hm2 m4 hm16
  go_enter Tryd.func28, Tryd.ntmps28
  go_wp2_with fail
  go_loopw [5] (fun s wr => ∃ k : Nat, k ≤ n ∧ s = .int .i64 (k : Int) ∧ Below (w.alloc (.cells #[.int .i64 t.wells, .slice Aw t.nw cw, .slice Af t.nf cf] 25)).heap.size (w.alloc (.cells #[.int .i64 t.wells, .slice Aw t.nw cw, .slice Af t.nf cf] 25)) wr) (fun s _ => n - (intOf s).toNat)
  case atStart => exact ⟨0, Nat.zero_le _, rfl, Below.refl _ _⟩
  case round =>
    obtain ⟨k, hk, rfl, hbel⟩ := hrel
    have HL := Lib.hid hbel
    obtain ⟨bc3, bf3⟩ := bcell hbel
    have hz3 := hbel.size
    simp only [World.size_alloc] at hz3
    have hy3 : w.heap.size < wr.heap.size := by omega
    clear hbel
    by_cases hlt : k < n
    · obtain ⟨x, hx⟩ : ∃ x, l[k]? = some x := ⟨_, List.getElem?_eq_getElem (by rw [HN.out]; exact hlt)⟩
      obtain ⟨b, o, rfl, hb, c0, c1⟩ := SliceE.tst (HA.out.mono HL.out) hx
      have hxo := HLO.out x (List.mem_of_getElem? hx)
      obtain ⟨p, q⟩ := x
      have k1 : (k : Int) < (n : Int) := by omega
      have k0 : (0 : Int) ≤ (k : Int) := by omega
      have HT := Lib.hid (show ∀ w' : World, Calls Tryd.prog 30 #[.agg #[.int .i64 t.wells, .slice Aw t.nw cw, .slice Af t.nf cf], .agg #[.int .i64 (p : Int), .int .i64 (q : Int)]] w' fun e w'' => e = .returned (.bool true) ∧ Below w'.heap.size w' w'' from fun w' => by
        have := isTest5_any Aw Af cw cf t (p : Int) (q : Int) w'
        rw [show t.testB (p : Int) (q : Int) = true by unfold Qt.testB; rw [wellB_ok HOK.out, wellB_ok HOK.out, inR_t (by omega : 0 ≤ (p : Int) ∧ (p : Int) ≤ t.wells - 1), inR_t (by omega : 0 ≤ (q : Int) ∧ (q : Int) ≤ t.wells - 1)]; rfl] at this
        exact this)
      by_cases hk0 : k = 0
      · have g0 : ¬ (k : Int) > 0 := by omega
        have g00 : ¬ 0 < k := by omega
        clear hx hxo hk0
        go_wp2_with fail
        refine wp_region_quiet_below (by kernel_rfl) (by kernel_rfl) ?_
        repeat (go_big_quiet_step (((go_at_call 30; with_reducible exact Calls.regrown_of (HT.out _)))))
        refine wpQuiet_nil ?_
        intro w9 hw9
        have HL9 := Lib.hid (bTrans HL.out (below_of_regrown hw9))
        clear hw9
        go_wp2_with fail
        go_roundw
        case rel =>
          first
          | exact ⟨k + 1, by omega, by go_num, HL9.out⟩
          | ((repeat apply Exists.intro)
             refine ⟨⟨k + 1, by omega, ?_, HL9.out⟩, rfl⟩
             go_num)
        case measure => simp [intOf]; omega
      · obtain ⟨j, rfl⟩ : ∃ j, k = j + 1 := ⟨k - 1, by omega⟩
        obtain ⟨y, hy⟩ : ∃ y, l[j]? = some y := ⟨_, List.getElem?_eq_getElem (by rw [HN.out]; omega)⟩
        obtain ⟨b2, o2, e2, _, d0, d1⟩ := SliceE.tst (HA.out.mono HL.out) hy
        simp only [Option.some.injEq, Addr.mk.injEq, and_true] at e2
        obtain ⟨rfl, rfl⟩ := e2
        obtain ⟨p2, q2⟩ := y
        have hlex : lexLt (p2, q2) (p, q) := by
          have := List.pairwise_iff_getElem.1 HPW.out j (j + 1) (by rw [HN.out]; omega) (by rw [HN.out]; omega) (by omega)
          obtain ⟨_, e3⟩ := List.getElem?_eq_some_iff.1 hx
          obtain ⟨_, e4⟩ := List.getElem?_eq_some_iff.1 hy
          rw [e3, e4] at this
          exact this
        have hj1 : (((j + 1 : Nat)) : Int) > 0 := by omega
        have hj2 : IntKind.i64.wrap ((((j + 1 : Nat)) : Int) - 1) = (j : Int) := by rw [show (((j + 1 : Nat)) : Int) - 1 = (j : Int) by omega]; exact IntWalk.i64_in _ (by omega)
        have j0 : (0 : Int) ≤ (j : Int) := by omega
        have j1 : (j : Int) < (n : Int) := by omega
        have hjn : j < n := by omega
        clear hx hy hxo hk0
        rcases hlex with h1 | ⟨h1, h2⟩
        · have h1 : p2 < p := h1
          have g1 : ¬ (p : Int) < (p2 : Int) := by omega
          have g2 : ((p : Int) == (p2 : Int)) = false := by simp; omega
          have g3 : ¬ p < p2 := by omega
          have g4 : (p == p2) = false := by simp; omega
          clear h1
          go_wp2_with fail
          refine wp_region_quiet_below (by kernel_rfl) (by kernel_rfl) ?_
          repeat (go_big_quiet_step (((go_at_call 30; with_reducible exact Calls.regrown_of (HT.out _)))))
          refine wpQuiet_nil ?_
          intro w9 hw9
          have HL9 := Lib.hid (bTrans HL.out (below_of_regrown hw9))
          clear hw9
          go_wp2_with fail
          go_roundw
          case rel =>
            first
            | exact ⟨j + 1 + 1, by omega, by go_num, HL9.out⟩
            | ((repeat apply Exists.intro)
               refine ⟨⟨j + 1 + 1, by omega, ?_, HL9.out⟩, rfl⟩
               go_num)
          case measure => simp [intOf]; omega
        · have h1 : p2 = p := h1
          have h2 : q2 < q := h2
          subst h1
          have g2 : ¬ (q : Int) ≤ (q2 : Int) := by omega
          have g4 : ¬ q ≤ q2 := by omega
          clear h2
          go_wp2_with fail
          refine wp_region_quiet_below (by kernel_rfl) (by kernel_rfl) ?_
          repeat (go_big_quiet_step (((go_at_call 30; with_reducible exact Calls.regrown_of (HT.out _)))))
          refine wpQuiet_nil ?_
          intro w9 hw9
          have HL9 := Lib.hid (bTrans HL.out (below_of_regrown hw9))
          clear hw9
          go_wp2_with fail
          go_roundw
          case rel =>
            first
            | exact ⟨j + 1 + 1, by omega, by go_num, HL9.out⟩
            | ((repeat apply Exists.intro)
               refine ⟨⟨j + 1 + 1, by omega, ?_, HL9.out⟩, rfl⟩
               go_num)
          case measure => simp [intOf]; omega
    · obtain rfl : k = n := by omega
      have k1 : ¬ (k : Int) < (k : Int) := by omega
      go_wp2_with fail
      go_ret
      exact ⟨rfl, bTrans HB.out HL.out⟩
end Go.Proofs.YtchhodikgllgnaaDoor
/- Pairs of numbers that came in, and what becomes of them if all are tests of a town. No program in sight but the layout. -/
namespace Go.Proofs.YtchhodikgllgnaaDoor
open Go.RowKit Go.Sort
def PairsAt (w : World) (A : Option Addr) (n : Nat) (y : Nat → Int × Int) : Prop :=
  n = 0 ∨ ∃ b o, A = some ⟨b, o, none⟩ ∧ b < w.heap.size ∧ ∀ i, i < n → w.cell? ⟨b, o + i * 2, none⟩ = some (.int .i64 (y i).1) ∧ w.cell? ⟨b, o + i * 2 + 1, none⟩ = some (.int .i64 (y i).2)
theorem PairsAt.mono {w w' : World} {A : Option Addr} {n : Nat} {y : Nat → Int × Int} (h : PairsAt w A n y) (hb : Below w.heap.size w w') : PairsAt w' A n y := by
  rcases h with h | ⟨b, o, rfl, hlt, hc⟩
  · exact .inl h
  · exact .inr ⟨b, o, rfl, Nat.lt_of_lt_of_le hlt hb.size, fun i hi => ⟨(hb.cell (p := ⟨b, _, none⟩) hlt).trans (hc i hi).1, (hb.cell (p := ⟨b, _, none⟩) hlt).trans (hc i hi).2⟩⟩
/-- the pairs as tests -/
def tpsL (y : Nat → Int × Int) : Nat → List Tp
  | 0 => []
  | n + 1 => tpsL y n ++ [((y n).1.toNat, (y n).2.toNat)]
theorem tpsL_len (y : Nat → Int × Int) : ∀ n, (tpsL y n).length = n
  | 0 => rfl
  | n + 1 => by unfold tpsL; rw [List.length_append, tpsL_len y n]; rfl
theorem tpsL_mem {y : Nat → Int × Int} {x : Tp} : ∀ {n}, x ∈ tpsL y n → ∃ i, i < n ∧ x = ((y i).1.toNat, (y i).2.toNat)
  | 0, h => by cases h
  | n + 1, h => by
    unfold tpsL at h
    rcases List.mem_append.1 h with h | h
    · obtain ⟨i, hi, e⟩ := tpsL_mem h
      exact ⟨i, by omega, e⟩
    · exact ⟨n, by omega, by simpa using h⟩
theorem tpsL_get {y : Nat → Int × Int} : ∀ {n i : Nat}, i < n → (tpsL y n)[i]? = some ((y i).1.toNat, (y i).2.toNat)
  | 0, _, h => absurd h (Nat.not_lt_zero _)
  | n + 1, i, h => by
    unfold tpsL
    rcases Nat.lt_or_ge i n with h1 | h1
    · rw [List.getElem?_append_left (by rw [tpsL_len]; exact h1)]
      exact tpsL_get h1
    · obtain rfl : i = n := by omega
      rw [List.getElem?_append_right (by rw [tpsL_len]; exact Nat.le_refl _), tpsL_len, Nat.sub_self]
      rfl
theorem pairs_row {w : World} {A : Option Addr} {n : Nat} {y : Nat → Int × Int} (h : PairsAt w A n y) (hy : ∀ i, i < n → 0 ≤ (y i).1 ∧ 0 ≤ (y i).2) : RowAt w A (tstE.cells (tpsL y n)) := by
  rcases h with rfl | ⟨b, o, rfl, hlt, hc⟩
  · exact .inl rfl
  · refine .inr ⟨b, o, rfl, hlt, fun j v hj => ?_⟩
    have hlen := Elem.cells_len tstG (tpsL y n)
    rw [tpsL_len] at hlen
    have hj2 : j < n * 2 := by
      have := (List.getElem?_eq_some_iff.1 hj).1
      rw [hlen] at this
      exact this
    obtain ⟨i, a, hi, ha, rfl⟩ : ∃ i a, i < n ∧ a < 2 ∧ j = i * 2 + a := ⟨j / 2, j % 2, by omega, by omega, by omega⟩
    have hg := Elem.cells_get tstG (l := tpsL y n) (j := i) (x := ((y i).1.toNat, (y i).2.toNat)) a (tpsL_get hi) ha
    have hg' : (tstE.cells (tpsL y n))[i * 2 + a]? = (tstE.enc ((y i).1.toNat, (y i).2.toNat))[a]? := hg
    rw [hg'] at hj
    obtain ⟨h0, h1⟩ := hy i hi
    match a, ha, hj with
    | 0, _, hj =>
      obtain rfl : Value.int .i64 ((y i).1.toNat : Int) = v := by simpa [tstE] using hj
      rw [Int.toNat_of_nonneg h0, Nat.add_zero]
      exact (hc i hi).1
    | 1, _, hj =>
      obtain rfl : Value.int .i64 ((y i).2.toNat : Int) = v := by simpa [tstE] using hj
      rw [Int.toNat_of_nonneg h1, ← Nat.add_assoc]
      exact (hc i hi).2
/-- all of them are tests -/
theorem tps_ok {t : Qt} (ok : t.Ok) {n : Nat} {y : Nat → Int × Int} (h : ∀ i, i < n → t.testB (y i).1 (y i).2 = true) : (∀ i, i < n → 0 ≤ (y i).1 ∧ 0 ≤ (y i).2) ∧ t.TestsOk (tpsL y n) ∧ ∀ x, x ∈ tpsL y n → x ∈ t.tests := by
  have key : ∀ i, i < n → 0 ≤ (y i).1 ∧ (y i).1 < t.wells ∧ 0 ≤ (y i).2 ∧ (y i).2 < t.wells := fun i hi => by
    have h1 := h i hi
    unfold Qt.testB at h1
    rw [Bool.and_eq_true, wellB_ok ok, wellB_ok ok] at h1
    have a := inR_iff.1 h1.1
    have b := inR_iff.1 h1.2
    omega
  refine ⟨fun i hi => ⟨(key i hi).1, (key i hi).2.2.1⟩, fun x hx => ?_, fun x hx => ?_⟩
  · obtain ⟨i, hi, rfl⟩ := tpsL_mem hx
    have := key i hi
    simp only
    omega
  · obtain ⟨i, hi, rfl⟩ := tpsL_mem hx
    have := key i hi
    exact testsL_mem.2 ⟨by show (y i).1.toNat < t.wells.toNat; omega, by show (y i).2.toNat < t.wells.toNat; omega⟩
/-! ### Two rows of tests, one behind the other -/
def noTest (i : Nat) (L : List Tp) : List Tp := L.take i ++ L.drop (i + 1)
theorem noTest_len {i : Nat} {L : List Tp} (h : i < L.length) : (noTest i L).length = L.length - 1 := by unfold noTest; simp; omega
theorem cells_app (a b : List Tp) : tstE.cells (a ++ b) = tstE.cells a ++ tstE.cells b := by unfold Elem.cells; exact List.flatMap_append
theorem row_take {w : World} {b o : Nat} {L : List Tp} (h : RowAt w (some ⟨b, o, none⟩) (tstE.cells L)) (i : Nat) : RowAt w (some ⟨b, o, none⟩) (tstE.cells (L.take i)) := by
  rcases h with h | ⟨b', o', e, hlt, hc⟩
  · exact .inl (by
      have hl := Elem.cells_len tstG L
      rw [h] at hl
      have : L = [] := List.eq_nil_of_length_eq_zero (by simp only [List.length_nil, tstE] at hl; omega)
      rw [this, List.take_nil]
      rfl)
  · refine .inr ⟨b', o', e, hlt, fun j v hj => hc j v ?_⟩
    have : tstE.cells L = tstE.cells (L.take i) ++ tstE.cells (L.drop i) := by rw [← cells_app, List.take_append_drop]
    rw [this, List.getElem?_append_left (List.getElem?_eq_some_iff.1 hj).1]
    exact hj
theorem row_drop {w : World} {b o : Nat} {L : List Tp} (h : RowAt w (some ⟨b, o, none⟩) (tstE.cells L)) {i : Nat} (hi : i ≤ L.length) : RowAt w (some ⟨b, o + i * 2, none⟩) (tstE.cells (L.drop i)) := by
  rcases h with h | ⟨b', o', e, hlt, hc⟩
  · exact .inl (by
      have hl := Elem.cells_len tstG L
      rw [h] at hl
      have : L = [] := List.eq_nil_of_length_eq_zero (by simp only [List.length_nil, tstE] at hl; omega)
      rw [this, List.drop_nil]
      rfl)
  · injection e with e
    injection e with e1 e2
    subst e1 e2
    refine .inr ⟨b, o + i * 2, rfl, hlt, fun j v hj => ?_⟩
    have hl := Elem.cells_len tstG (L.take i)
    rw [List.length_take, Nat.min_eq_left hi] at hl
    have hl : (tstE.cells (L.take i)).length = i * 2 := hl
    have := hc (i * 2 + j) v (by
      rw [show tstE.cells L = tstE.cells (L.take i) ++ tstE.cells (L.drop i) by rw [← cells_app, List.take_append_drop], List.getElem?_append_right (by omega), hl, Nat.add_sub_cancel_left]
      exact hj)
    rw [← Nat.add_assoc] at this
    exact this
end Go.Proofs.YtchhodikgllgnaaDoor
/- 'append(append([]T{}, xs...), ys...)' in a region, whatever ys. No program in sight. -/
namespace Go.Proofs.YtchhodikgllgnaaDoor
open Go.RowKit Go.Sort
theorem stirAt_imp {P : Program} {o : Oper} {a : Act} {w : World} {S : World → World → Prop} {r r' : World → Value → Prop} (h : Oper.stirAt P o a w S r) (hr : ∀ w' v, r w' v → r' w' v) : Oper.stirAt P o a w S r' := by
  unfold Oper.stirAt at h ⊢
  generalize (execOp a.eval o).run P w = x at *
  cases x with
  | ok n w' =>
    cases n <;> simp only [Oper.stirUpon] at h ⊢
    case value u => exact ⟨h.1, hr _ _ h.2⟩
    case skip => exact ⟨h.1, h.2.1, hr _ _ h.2.2⟩
    case enter f args => exact ⟨h.1, h.2.mono fun e w'' ⟨v, he, hw'', h3⟩ => ⟨v, he, hw'', hr _ _ h3⟩⟩
  | halt x w' => simp only [Oper.stirUpon] at h
/-- a row of so many elements -/
def RowVT (n : Nat) (L : List Value) (w : World) (v : Value) : Prop := ∃ A c, v = .slice A n c ∧ RowAt w A L
theorem RowVT.mono {n : Nat} {L : List Value} {w w' : World} {v : Value} (hb : Below w.heap.size w w') (h : RowVT n L w v) : RowVT n L w' v := by
  obtain ⟨A, c, e, h⟩ := h
  exact ⟨A, c, e, h.mono hb⟩
theorem stir_append2 {P : Program} {o : Oper} {a : Act} (w : World) (s x : Operand) (t : TypeId) (hop : o.op = Op.call { callee := Callee.builtin Builtin.append, args := #[s, x], argTypes := #[t, t] })
    (e : TypeId) (z : Value) (size bytes : Nat) (hinfo : (P.info? e).map (fun i => (i.zero, i.size, i.bytes)) = some (some z, size, bytes)) (ht : P.underlying t = some (.slice e)) (hzs : z.cells.size = size) (hsz : 0 < size)
    (v : Value) (n : Nat) (xs : List Value) (A : Option Addr) (m c : Nat) (L : List Value) (N : Nat) (hv : AtHand N e size n xs w v) (hs : a.eval s = v) (hx : a.eval x = .slice A m c) (hl : L.length = m * size) (hr : RowAt w A L) (h1 : ∀ u ∈ L, u.oneCell' = true) (h63 : n + m ≤ 1000000) (hby : bytes ≤ 1000000) (hN : N ≤ w.heap.size) :
    Oper.stirAt P o a w (RowOn N e size n) (fun w' v => ShapeOf (n + m) v ∧ RowVT (n + m) (xs ++ L) w' v) := by
  rcases Nat.eq_zero_or_pos m with h0 | h0
  · subst h0
    obtain ⟨i0, hi, iz0, iz1, iz2⟩ := info_parts hinfo
    obtain rfl : L = [] := List.eq_nil_of_length_eq_zero (by simpa using hl)
    obtain ⟨g, cap, rfl⟩ : ShapeOf n v := by
      rcases hv with ⟨rfl, _, g, rfl⟩ | ⟨hn, ho⟩
      · exact ⟨g, 0, rfl⟩
      · exact owns_form ho hn
    have hrun : (Builtin.append_ #[t, t] o.type #[.slice (some ⟨g, 0, none⟩) n cap, .slice A 0 c]).run P w = .ok (.slice (some ⟨g, 0, none⟩) n cap) w := by
      have hroom : n ≤ cap := by
        rcases hv with ⟨rfl, _, g', e'⟩ | ⟨hn, ho⟩
        · omega
        · rcases ho.2 with ⟨e', _⟩ | ⟨g', cap', cur, e', _, _, h3, _⟩
          · cases e'
          · injection e' with _ _ e'
            omega
      cases A with
      | none => simp [Builtin.append_, run_underlying ht, sizeOf, typeInfo, hi, Builtin.lenOf, Builtin.firstCells, storeCells, hroom]
      | some a =>
        have hfc := run_firstCells_some (P := P) w i0.size 0 a 0 c [] (by simp) (fun j u h => by simp at h)
        simp [Builtin.append_, run_underlying ht, sizeOf, typeInfo, hi, Builtin.lenOf, hfc, storeCells, hroom]
    obtain ⟨A1, c1, e1, h2⟩ := hv.row
    unfold Oper.stirAt
    simp only [execOp, hop, resolve, invoke, builtin, List.map_toArray, List.map_cons, List.map_nil, hs, hx, hrun, Result.andThen, Sem.run_bind, Sem.run_pure, Oper.stirUpon]
    exact ⟨.inl (Below.refl _ _), ⟨_, _, rfl⟩, A1, c1, e1, by rw [List.append_nil]; exact h2⟩
  · exact stirAt_imp (stir_append w s x t hop e z size bytes hinfo ht hzs hsz v n xs A m c L N hv hs hx h0 hl hr h1 h63 hby hN) fun w' v ⟨h3, h4⟩ => by
      obtain ⟨A1, c1, e1, h5⟩ := RowK.own h4
      exact ⟨h3, A1, c1, e1, h5.row⟩
theorem tst_one (l : List Tp) : ∀ u ∈ tstE.cells l, u.oneCell' = true := by
  intro u hu
  unfold Elem.cells at hu
  obtain ⟨x, _, hx⟩ := List.mem_flatMap.1 hu
  exact tstG.one x u hx
def coverHs (TV AL : Value) (A : Option Addr) (B : Option Addr) (n i c1 c2 : Nat) (N : Nat) (L : List Tp) (ki : Value) (ki1 : Value) (LV : Value) (b : Bool) : List Stir :=
  [.const TV, .held emptyV anyR, .const AL, .const ki, .const (.slice A i c1), .held (ShapeOf i) (AtHand N 27 2 i (tstE.cells (L.take i))), .const AL, .const ki, .const ki1, .const (.slice B (n - (i + 1)) c2),
   .stir (ShapeOf (n - 1)) (RowVT (n - 1) (tstE.cells (noTest i L))) (RowOn N 27 2 i), .const LV, .const (.bool b)]
theorem cover_good (TV AL : Value) (A B : Option Addr) (n i c1 c2 N : Nat) (L : List Tp) (ki ki1 LV : Value) (b : Bool) : goodAllS (coverHs TV AL A B n i c1 c2 N L ki ki1 LV b) :=
  ⟨trivial, anyG, trivial, trivial, trivial, shapeG _ _ _ _ _, trivial, trivial, trivial, trivial, ⟨⟨_, 0, 0, rfl⟩, fun _ _ _ hb h => h.mono hb⟩, trivial, trivial, trivial⟩
theorem cover_cross (md : Region.Mode) (ops : Array Oper) (TV AL : Value) (A B : Option Addr) (n i c1 c2 N : Nat) (L : List Tp) (ki ki1 LV : Value) (b : Bool) : crossAll md ops N (coverHs TV AL A B n i c1 c2 N L ki ki1 LV b) := by
  intro k s r K hi
  match k, hi with
  | 10, hi =>
    injection hi with hi
    injection hi with e1 e2 e3
    subst e1 e2 e3
    refine ⟨fun w w' hN h => h.below hN, fun j h hj hne => ?_⟩
    match j, hj with
    | 0, hj => injection hj with hj; subst hj; exact .inr fun _ _ _ _ h => h
    | 1, hj => injection hj with hj; subst hj; exact .inr fun _ _ _ _ h => h
    | 2, hj => injection hj with hj; subst hj; exact .inr fun _ _ _ _ h => h
    | 3, hj => injection hj with hj; subst hj; exact .inr fun _ _ _ _ h => h
    | 4, hj => injection hj with hj; subst hj; exact .inr fun _ _ _ _ h => h
    | 5, hj => injection hj with hj; subst hj; exact .inr fun _ _ _ hb h => ⟨h.1, AtHand.on hb h.2⟩
    | 6, hj => injection hj with hj; subst hj; exact .inr fun _ _ _ _ h => h
    | 7, hj => injection hj with hj; subst hj; exact .inr fun _ _ _ _ h => h
    | 8, hj => injection hj with hj; subst hj; exact .inr fun _ _ _ _ h => h
    | 9, hj => injection hj with hj; subst hj; exact .inr fun _ _ _ _ h => h
    | 10, hj => exact absurd rfl hne
    | 11, hj => injection hj with hj; subst hj; exact .inr fun _ _ _ _ h => h
    | 12, hj => injection hj with hj; subst hj; exact .inr fun _ _ _ _ h => h
    | j + 13, hj => simp [coverHs] at hj
  | 0, hi => injection hi with hi; cases hi
  | 1, hi => injection hi with hi; cases hi
  | 2, hi => injection hi with hi; cases hi
  | 3, hi => injection hi with hi; cases hi
  | 4, hi => injection hi with hi; cases hi
  | 5, hi => injection hi with hi; cases hi
  | 6, hi => injection hi with hi; cases hi
  | 7, hi => injection hi with hi; cases hi
  | 8, hi => injection hi with hi; cases hi
  | 9, hi => injection hi with hi; cases hi
  | 11, hi => injection hi with hi; cases hi
  | 12, hi => injection hi with hi; cases hi
  | k + 13, hi => simp [coverHs] at hi
end Go.Proofs.YtchhodikgllgnaaDoor
/- The frame of the statements of quarrels, on: a list of tests that came in. No condition. -/
namespace Go.Proofs.YtchhodikgllgnaaDoor
open Go.RowKit Go.Sort Go.ChangeShapes Go.WideShapes Go.ChangeAt Go.Deep
section
variable {H : Type} {enc : TypeId × Value → H} {P : Program} {w : World} {base b0 : Nat} {r : Reach} {sp : Nat → Bool} {held : Bool}
theorem two_ints {t ti : TypeId} {f0 f1 : Field} {fuel : Nat} {cs : List Value} {x : DataW H × List MemPlace} (ht : P.underlying t = some (.struct #[f0, f1])) (hone : oneCellFields P #[f0, f1] = true && (f0.type == ti && f1.type == ti) && P.cellsOf t == 2)
    (hi : P.underlying ti = some (.int .i64)) (h : DataW.trod enc P w base sp held fuel t cs = some x) : ∃ a b, cs = [.int .i64 a, .int .i64 b] := by
  simp only [Bool.and_eq_true, beq_iff_eq, decide_eq_true_eq] at hone
  obtain ⟨⟨ho, e0, e1⟩, hC⟩ := hone
  obtain ⟨xs, n, _, hx, hlen, hxl, hg⟩ := DataW.trod_struct ht h
  obtain ⟨o0, k0⟩ := hone_of ho 0 f0 rfl
  obtain ⟨o1, k1⟩ := hone_of ho 1 f1 rfl
  match cs, hlen.trans hC, xs, hxl with
  | [c0, c1], _, [y0, y1], _ =>
    have g0 := hg 0 f0 rfl
    have g1 := hg 1 f1 rfl
    rw [o0, k0, e0] at g0
    rw [o1, k1, e1] at g1
    simp only [List.drop_zero, List.take_succ_cons, List.take_zero, List.drop_succ_cons, List.getElem?_cons_zero, List.getElem?_cons_succ] at g0 g1
    obtain ⟨a, h0, _, _⟩ := DataW.trod_int hi g0
    obtain ⟨b, h1, _, _⟩ := DataW.trod_int hi g1
    injection h0 with h0
    injection h1 with h1
    subst h0 h1
    exact ⟨a, b, rfl⟩
theorem tests_in {t e ti : TypeId} {f0 f1 : Field} {v : Value} {d : DataW H} {p : List MemPlace} (ht : P.underlying t = some (.slice e)) (he : P.underlying e = some (.struct #[f0, f1])) (hone : oneCellFields P #[f0, f1] = true && (f0.type == ti && f1.type == ti) && P.cellsOf e == 2)
    (hi : P.underlying ti = some (.int .i64)) (hbe : P.bytesOf e = 16) (hv : Value.okWide P w r b0 t v) (hf : Fit P t d) (h : DataW.Trod enc P w base sp held t v d p) : ∃ A n c y, v = .slice A n c ∧ PairsAt w A n y ∧ SliceIn A n c ∧ n * 16 ≤ 140737488351232 := by
  have hC : P.cellsOf e = 2 := by
    simp only [Bool.and_eq_true, beq_iff_eq] at hone
    exact hone.2
  obtain ⟨a0, len0, cap0, rfl⟩ := okWide_slice ht hv
  obtain ⟨fuel, hf'⟩ := h
  rcases open_slice ht hf' with ⟨h0, _⟩ | ⟨a, len, cap, m, n, D, Pl, hcs, hb, hl, hm, hmm, hx, hel⟩
  · simp only [Value.cells, List.cons.injEq, and_true] at h0
    exact ⟨none, 0, 0, fun _ => (0, 0), h0, .inl rfl, ⟨Nat.le_refl _, by omega, fun _ => ⟨rfl, rfl⟩⟩, by decide⟩
  · simp only [Value.cells, List.cons.injEq, and_true] at hcs
    have hlm : len ≤ m := by rw [hmm]; split <;> omega
    have hin : SliceIn (some a) len cap := ⟨hl, by unfold maxLen at hm; exact hm, fun h => by cases h⟩
    have hfd : Fit P t (.slice ((List.range len).map D) ((List.range (m - len)).map fun j => D (len + j))) := by
      have := congrArg Prod.fst hx
      simp only at this
      rw [← this]
      exact hf
    obtain ⟨f1, _⟩ := fit_slice ht hfd
    rw [hbe] at f1
    rw [hC] at hel
    rcases Nat.eq_zero_or_pos len with h0 | h0
    · subst h0; exact ⟨_, 0, cap, fun _ => (0, 0), hcs, .inl rfl, hin, by decide⟩
    · have each : ∀ i, i < m → ∃ k0 k1 : Int, w.cell? ((a.add (i * 2)).add 0) = some (.int .i64 k0) ∧ w.cell? ((a.add (i * 2)).add 1) = some (.int .i64 k1) := fun i him => by
        obtain ⟨cs', h1, h2⟩ := hel i him
        obtain ⟨_, hlen, hcell⟩ := World.cells?_some h1
        obtain ⟨k0, k1, rfl⟩ := two_ints he hone hi h2
        exact ⟨k0, k1, hcell 0 (by omega), hcell 1 (by omega)⟩
      obtain ⟨_, _, h1, _⟩ := each 0 (by omega)
      have hs : a.spot = none := by simpa [Addr.add] using World.cell?_spot h1
      obtain ⟨b, o, s⟩ := a
      simp only at hs
      subst hs
      refine ⟨_, len, cap, fun i => (intAt w ⟨b, o + i * 2, none⟩, intAt w ⟨b, o + i * 2 + 1, none⟩), hcs, .inr ⟨b, o, rfl, World.block_lt_of_cell? w _ (by simpa [Addr.add] using h1), fun i hi' => ?_⟩, hin, f1⟩
      obtain ⟨k0, k1, c0, c1⟩ := each i (by omega)
      rw [add_none, add_none] at c0 c1
      simp only [Nat.add_zero] at c0
      simp only [intAt, c0, c1]
      exact ⟨trivial, trivial⟩
end
end Go.Proofs.YtchhodikgllgnaaDoor
/- The statement QuarrelsCover: the walk. Conditions: what is read fits into memory; the listed table holds what it holds. -/
namespace Go.Proofs.YtchhodikgllgnaaDoor
open Go.RowKit Go.Sort
theorem cover_ok {t : Qt} (ok : t.Ok) : t.TestsOk (t.fewest t.leftL) := fun x hx => tests_ok5 ok x ((fewest_sub t t.leftL).subset hx)
theorem noTest_mem {i : Nat} {L : List Tp} {x : Tp} (h : x ∈ noTest i L) : x ∈ L := by
  unfold noTest at h
  rcases List.mem_append.1 h with h | h
  · exact List.mem_of_mem_take h
  · exact List.mem_of_mem_drop h
theorem allTo_step {y : Nat → Int × Int} {t : Qt} {k : Nat} (h : ∀ i, i < k → t.testB (y i).1 (y i).2 = true) (hk : t.testB (y k).1 (y k).2 = true) : ∀ i, i < k + 1 → t.testB (y i).1 (y i).2 = true := fun i hi => by
  rcases Nat.lt_or_ge i k with h1 | h1
  · exact h i h1
  · obtain rfl : i = k := by omega
    exact hk
theorem PairsAt.at {w : World} {A : Option Addr} {n : Nat} {y : Nat → Int × Int} (h : PairsAt w A n y) {i : Nat} (hi : i < n) : ∃ b o, A = some ⟨b, o, none⟩ ∧ b < w.heap.size ∧ w.cell? ⟨b, o + i * 2, none⟩ = some (.int .i64 (y i).1) ∧ w.cell? ⟨b, o + i * 2 + 1, none⟩ = some (.int .i64 (y i).2) := by
  rcases h with h | ⟨b, o, e, hb, hc⟩
  · omega
  · exact ⟨b, o, e, hb, hc i hi⟩
set_option maxHeartbeats 8000000 in
set_option maxRecDepth 100000 in
theorem quarrelsCover_any (Aw Af : Option Addr) (cw cf : Nat) (t : Qt) (Al : Option Addr) (n1 cl : Nat) (y : Nat → Int × Int) (w : World) (hf : t.Fits) (hT : QAt w Aw Af t) (hB : TabAt w) (hI : PairsAt w Al n1 y) (hN : n1 * 16 ≤ 140737488351232) :
    Calls Tryd.prog 4 #[.agg #[.int .i64 t.wells, .slice Aw t.nw cw, .slice Af t.nf cf], .slice Al n1 cl] w fun e w' => e = .returned (.bool true) ∧ Below w.heap.size w w' := by
  have HT0 := Lib.hid hT
  have HTB0 := Lib.hid hB
  have HD0 := Lib.hid (Below.refl w.heap.size w)
  have HS := Lib.hid hf.small
  have HF := Lib.hid hf
  have HI0 := Lib.hid hI
  clear hT hB hf hI
  go_enter Tryd.func4, Tryd.ntmps4
  go_wp2_with fail
  have HN1 := Lib.hid hN
  clear hN
  refine (ready_any _ _ _ _ t _ HS.out (HT0.out.mono (bAlloc (Below.refl _ _) (.cells #[.int .i64 t.wells, .slice Aw t.nw cw, .slice Af t.nf cf] 25)))).mono ?_
  rintro e w1 ⟨rfl, hb⟩
  have hB1 : Below w.heap.size w w1 := bTrans (bAlloc (Below.refl _ _) (.cells #[.int .i64 t.wells, .slice Aw t.nw cw, .slice Af t.nf cf] 25)) hb
  have HD1 := Lib.hid (bTrans HD0.out hB1)
  have HT1 := Lib.hid (HT0.out.mono hB1)
  have HTB1 := Lib.hid (HTB0.out.mono hB1)
  have HI1 := Lib.hid (HI0.out.mono hB1)
  have T1 := Lib.hid (show TBox w1 w.heap.size 25 #[.int .i64 t.wells, .slice Aw t.nw cw, .slice Af t.nf cf] from by have := ((TBox.new w #[.int .i64 t.wells, .slice Aw t.nw cw, .slice Af t.nf cf] 25).mono (Below.refl _ _)).mono hb; simpa using this)
  clear hb hB1 HD0 HT0 HTB0 HI0
  obtain ⟨T_0, T_1, T_2, T_l⟩ := T1.out.c3
  obtain ⟨bq, hbq⟩ : ∃ b, t.readyB = b := ⟨_, rfl⟩
  rw [hbq]
  have HR1 := Lib.hid hbq
  clear hbq
  cases bq
  case false =>
    go_wp2_with fail
    refine (works5_any _ HTB1.out).mono ?_
    rintro e w99 ⟨rfl, hb99⟩
    go_wp2_with fail
    go_ret
    exact ⟨rfl, bTrans HD1.out hb99⟩
  have HOK := Lib.hid (readyB_ok HR1.out).1
  by_cases h40 : (n1 : Int) > 40
  case pos =>
    go_wp2_with fail
    refine (works5_any _ HTB1.out).mono ?_
    rintro e w99 ⟨rfl, hb99⟩
    go_wp2_with fail
    go_ret
    exact ⟨rfl, bTrans HD1.out hb99⟩
  have H40 := Lib.hid (show n1 ≤ 40 by omega)
  go_wp2_with fail
  refine (refLeftOf Aw Af cw cf t _ HOK.out HT1.out).mono ?_
  rintro e w2 ⟨⟨v, rfl, hv⟩, hb⟩
  obtain ⟨A4, c4, rfl, hr4⟩ := hv.nums
  have hB2 : Below w1.heap.size w1 w2 := bTrans (Below.refl _ _) hb
  have HD2 := Lib.hid (bTrans HD1.out hB2)
  have HT2 := Lib.hid (HT1.out.mono hB2)
  have HTB2 := Lib.hid (HTB1.out.mono hB2)
  have HI2 := Lib.hid (HI1.out.mono hB2)
  have HLR2 := Lib.hid (hr4)
  have T2 := Lib.hid (T1.out.mono hB2)
  clear hb hB2 HD1 HT1 HTB1 HI1 T1 T_0 T_1 T_2 T_l
  obtain ⟨T_0, T_1, T_2, T_l⟩ := T2.out.c3
  clear hv hr4
  obtain ⟨n, hn⟩ : ∃ n, t.leftL.length = n := ⟨_, rfl⟩
  rw [hn]
  have HN := Lib.hid hn
  have n6 : n ≤ 6 := by rw [← hn]; exact left_six HOK.out
  clear hn
  by_cases hnil : t.leftL = []
  case pos =>
    have HKE := Lib.hid (step_none HOK.out hnil).1
    have hn0 : n = 0 := by rw [← HN.out, hnil]; rfl
    subst hn0
    clear hnil
    go_wp2_with fail
    refine (fewestQ_any Aw Af cw cf t _ HS.out HT2.out HTB2.out).mono ?_
    rintro e w3 ⟨ho, hb⟩
    rw [HKE.out] at ho
    obtain rfl := ho.2 (by decide)
    have hB3 : Below w2.heap.size w2 w3 := bTrans (Below.refl _ _) hb
    have HD3 := Lib.hid (bTrans HD2.out hB3)
    have HT3 := Lib.hid (HT2.out.mono hB3)
    have HTB3 := Lib.hid (HTB2.out.mono hB3)
    have HI3 := Lib.hid (HI2.out.mono hB3)
    have HLR3 := Lib.hid (HLR2.out.mono hB3)
    have T3 := Lib.hid (T2.out.mono hB3)
    clear hb hB3 HD2 HT2 HTB2 HI2 HLR2 T2 T_0 T_1 T_2 T_l
    obtain ⟨T_0, T_1, T_2, T_l⟩ := T3.out.c3
    clear ho
    go_wp2_with fail
    refine (works5_any _ HTB3.out).mono ?_
    rintro e w99 ⟨rfl, hb99⟩
    go_wp2_with fail
    go_ret
    exact ⟨rfl, bTrans HD3.out hb99⟩
  have HKE := Lib.hid (step_some HOK.out hnil).1
  have n0 : (n == 0) = false := by simp; rw [← HN.out]; exact fun h => hnil (List.eq_nil_of_length_eq_zero h)
  have n0i : ((n : Int) == 0) = false := by simp; simpa using n0
  clear hnil
  go_wp2_with fail
  obtain ⟨L, hL⟩ : ∃ L, t.fewest t.leftL = L := ⟨_, rfl⟩
  have HL := Lib.hid hL
  have HLO := Lib.hid (show t.TestsOk L by rw [← hL]; exact cover_ok HOK.out)
  have HSB := Lib.hid (show List.Sublist L t.tests by rw [← hL]; exact fewest_sub t t.leftL)
  have HAL := Lib.hid (show t.allApart L t.leftL = true by rw [← hL]; exact fewest_all t t.leftL)
  obtain ⟨nl, hnl⟩ : ∃ nl, L.length = nl := ⟨_, rfl⟩
  have HNL := Lib.hid hnl
  have HN16 := Lib.hid (show nl ≤ 100000 by have h1 := HSB.out.length_le; have h2 := tests_len HOK.out; omega)
  clear hnl hL
  refine (fewestQ_any Aw Af cw cf t _ HS.out HT2.out HTB2.out).mono ?_
  rintro e w3 ⟨ho, hb⟩
  rw [HKE.out, HL.out] at ho
  obtain ⟨A5, c5, rfl, hls⟩ := ho.1 rfl
  rw [HNL.out]
  have hB3 : Below w2.heap.size w2 w3 := bTrans (Below.refl _ _) hb
  have HD3 := Lib.hid (bTrans HD2.out hB3)
  have HT3 := Lib.hid (HT2.out.mono hB3)
  have HTB3 := Lib.hid (HTB2.out.mono hB3)
  have HI3 := Lib.hid (HI2.out.mono hB3)
  have HLR3 := Lib.hid (HLR2.out.mono hB3)
  have HLA3 := Lib.hid (hls)
  have T3 := Lib.hid (T2.out.mono hB3)
  clear hb hB3 HD2 HT2 HTB2 HI2 HLR2 T2 T_0 T_1 T_2 T_l
  obtain ⟨T_0, T_1, T_2, T_l⟩ := T3.out.c3
  clear ho hls
  go_wp2_with fail
  refine ((by have := areTests_any Aw Af A5 cw cf c5 t L w3 HOK.out HLO.out (sub_tests HSB.out).2.2 (sub_tests HSB.out).2.1 (LstAt.row HLA3.out); rw [HNL.out] at this; exact this : Calls Tryd.prog 28 #[.agg #[.int .i64 t.wells, .slice Aw t.nw cw, .slice Af t.nf cf], .slice A5 nl c5] w3 fun e w' => e = .returned (.bool true) ∧ Below w3.heap.size w3 w')).mono ?_
  rintro e w4 ⟨rfl, hb⟩
  have hB4 : Below w3.heap.size w3 w4 := bTrans (Below.refl _ _) hb
  have HD4 := Lib.hid (bTrans HD3.out hB4)
  have HT4 := Lib.hid (HT3.out.mono hB4)
  have HTB4 := Lib.hid (HTB3.out.mono hB4)
  have HI4 := Lib.hid (HI3.out.mono hB4)
  have HLR4 := Lib.hid (HLR3.out.mono hB4)
  have HLA4 := Lib.hid (HLA3.out.mono hB4)
  have T4 := Lib.hid (T3.out.mono hB4)
  clear hb hB4 HD3 HT3 HTB3 HI3 HLR3 HLA3 T3 T_0 T_1 T_2 T_l
  obtain ⟨T_0, T_1, T_2, T_l⟩ := T4.out.c3
  go_wp2_with fail
  refine ((by have := allApart5_any Aw Af A5 A4 cw cf c5 c4 t L t.leftL w4 HOK.out HT4.out HLO.out (by rw [HNL.out]; exact HN16.out) (LstAt.row HLA4.out) left_worlds (by have := left_six HOK.out; omega) HLR4.out; rw [HN.out, HAL.out, HNL.out] at this; exact this : Calls Tryd.prog 29 #[.agg #[.int .i64 t.wells, .slice Aw t.nw cw, .slice Af t.nf cf], .slice A5 nl c5, .slice A4 n c4] w4 fun e w' => e = .returned (.bool true) ∧ Below w4.heap.size w4 w')).mono ?_
  rintro e w5 ⟨rfl, hb⟩
  have hB5 : Below w4.heap.size w4 w5 := bTrans (Below.refl _ _) hb
  have HD5 := Lib.hid (bTrans HD4.out hB5)
  have HT5 := Lib.hid (HT4.out.mono hB5)
  have HTB5 := Lib.hid (HTB4.out.mono hB5)
  have HI5 := Lib.hid (HI4.out.mono hB5)
  have HLR5 := Lib.hid (HLR4.out.mono hB5)
  have HLA5 := Lib.hid (HLA4.out.mono hB5)
  have T5 := Lib.hid (T4.out.mono hB5)
  clear hb hB5 HD4 HT4 HTB4 HI4 HLR4 HLA4 T4 T_0 T_1 T_2 T_l
  obtain ⟨T_0, T_1, T_2, T_l⟩ := T5.out.c3
  go_wp2_with fail
  go_loopw [8] (fun s8 wr => ∃ k : Nat, k ≤ nl ∧ s8 = .int .i64 (k : Int) ∧ Below w5.heap.size w5 wr) (fun s _ => nl - (intOf s).toNat)
  case atStart => exact ⟨0, by omega, rfl, Below.refl _ _⟩
  case round =>
    obtain ⟨k, hk, rfl, hb⟩ := hrel
    have hB6 : Below w5.heap.size w5 wr := bTrans (Below.refl _ _) hb
    have HD6 := Lib.hid (bTrans HD5.out hB6)
    have HT6 := Lib.hid (HT5.out.mono hB6)
    have HTB6 := Lib.hid (HTB5.out.mono hB6)
    have HI6 := Lib.hid (HI5.out.mono hB6)
    have HLR6 := Lib.hid (HLR5.out.mono hB6)
    have HLA6 := Lib.hid (HLA5.out.mono hB6)
    have HRL6 := Lib.hid ((show Upto w5 wr from hb))
    have T6 := Lib.hid (T5.out.mono hB6)
    clear hb hB6 HD5 HT5 HTB5 HI5 HLR5 HLA5 T5 T_0 T_1 T_2 T_l
    obtain ⟨T_0, T_1, T_2, T_l⟩ := T6.out.c3
    by_cases hlt : k < nl
    case pos =>
      have hcap := (HLA6.out).cap
      rw [HNL.out] at hcap
      obtain ⟨b, hA5⟩ : ∃ b, A5 = some ⟨b, 0, none⟩ := by
        rcases HLA6.out with ⟨h, _⟩ | ⟨_, h, _⟩
        · exact absurd (show nl = 0 by rw [← HNL.out, h]; rfl) (by omega)
        · exact h
      subst hA5
      have k1 : (k : Int) < (nl : Int) := by omega
      have k0 : (0 : Int) ≤ (k : Int) := by omega
      have k2 : (k : Int) ≤ (c5 : Int) := by omega
      have k3 : IntKind.i64.wrap ((k : Int) + 1) = (k : Int) + 1 := IntWalk.i64_in _ (by have := HN16.out; omega)
      have k4 : (k : Int) + 1 ≤ (nl : Int) := by omega
      have k5 : (nl : Int) ≤ (c5 : Int) := by omega
      have k6 : (0 : Int) ≤ (k : Int) + 1 := by omega
      have k7 : ((k : Int) + 1).toNat = k + 1 := by omega
      have k8 : k ≤ c5 := by omega
      have k9 : k + 1 ≤ nl := by omega
      have k10 : nl ≤ c5 := by omega
      have k11 : (((k + 1 : Nat)) : Int) = (k : Int) + 1 := by omega
      have HTK := Lib.hid (show t.allApart (noTest k L) t.leftL = false by unfold noTest; rw [← HL.out]; exact fewest_tight (by rw [HL.out, HNL.out]; exact hlt))
      have HTL := Lib.hid (show (noTest k L).length = nl - 1 by rw [noTest_len (by rw [HNL.out]; exact hlt), HNL.out])
      by_cases hcc : c5 = k + 1
      case pos =>
        have HRD := Lib.hid (show RowAt wr (some ⟨b, 0, none⟩) (tstE.cells (L.drop (k + 1))) from .inl (by rw [List.drop_eq_nil_of_le (by rw [HNL.out]; omega)]; rfl))
        have hcc3 : (c5 = k + 1) = True := eq_true hcc
        clear hcc
        go_wp2_with fail
        refine wp_region_stir 13 (coverHs (.agg #[.int .i64 t.wells, .slice Aw t.nw cw, .slice Af t.nf cf]) (.slice (some ⟨b, 0, none⟩) nl c5) (some ⟨b, 0, none⟩) (some ⟨b, 0, none⟩) nl k c5 (c5 - (k + 1)) wr.heap.size L (.int .i64 (k : Int)) (.int .i64 ((k : Int) + 1)) (.slice A4 n c4) false)
          (by kernel_rfl) (by kernel_rfl) rfl (cover_good _ _ _ _ _ _ _ _ _ _ _ _ _ _) (cover_cross _ _ _ _ _ _ _ _ _ _ _ _ _ _ _ _) ?_
        refine wpStir_const (by go_simp) ?_
        refine wpStir_held rfl (fun w' hb hd => ?_) (fun v hv => ?_)
        · clear hd
          go_simp
          exact ⟨bAlloc (Below.refl _ _) _, ⟨_, rfl⟩, trivial⟩
        obtain ⟨be, rfl⟩ := hv
        iterate 3 refine wpStir_const (by go_simp) ?_
        simp only [Act.put, List.setIfInBounds_toArray, List.set_cons_succ, List.set_cons_zero]
        refine wpStir_held rfl (fun w' hb hd => ?_) (fun v hv => ?_)
        · clear hd
          exact stir_copy w' (Operand.tmp 61) (Operand.tmp 64) 34 rfl 27 (.agg #[.int .i64 0, .int .i64 0]) 2 16 infoT Tryd.underlying34 rfl (by decide) be (some ⟨b, 0, none⟩) k c5 (tstE.cells (L.take k)) rfl rfl (by have := Elem.cells_len tstG (L.take k); rw [List.length_take, HNL.out, Nat.min_eq_left (by omega)] at this; exact this) ((row_take (HLA6.out.row) k).mono hb) (by have := HN16.out; omega) (by decide) _ hb.size
        obtain ⟨bg, cg, rfl⟩ := hv
        iterate 4 refine wpStir_const (by go_simp) ?_
        simp only [Act.put, List.setIfInBounds_toArray, List.set_cons_succ, List.set_cons_zero]
        refine wpStir_stir rfl (fun w' hb hd => ?_) (fun v hv => ?_)
        · have h2 : AtHand wr.heap.size 27 2 k (tstE.cells (L.take k)) w' (.slice (some ⟨bg, 0, none⟩) k cg) := hd.1 (by kernel_rfl)
          clear hd
          refine stirAt_imp (stir_append2 w' (Operand.tmp 65) (Operand.tmp 69) 34 rfl 27 (.agg #[.int .i64 0, .int .i64 0]) 2 16 infoT Tryd.underlying34 rfl (by decide) (.slice (some ⟨bg, 0, none⟩) k cg) k (tstE.cells (L.take k)) (some ⟨b, 0, none⟩) (nl - (k + 1)) (c5 - (k + 1)) (tstE.cells (L.drop (k + 1))) wr.heap.size h2 rfl rfl (by have := Elem.cells_len tstG (L.drop (k + 1)); rw [List.length_drop, HNL.out] at this; exact this) (HRD.out.mono hb) (tst_one _) (by have := HN16.out; omega) (by decide) hb.size) fun w'' v ⟨h3, h4⟩ => ?_
          rw [show k + (nl - (k + 1)) = nl - 1 by omega] at h3 h4
          rw [← cells_app] at h4
          exact ⟨h3, h4⟩
        obtain ⟨bh, ch, rfl⟩ := hv
        refine wpStir_const (by go_simp) ?_
        simp only [Act.put, List.setIfInBounds_toArray, List.set_cons_succ, List.set_cons_zero]
        refine wpStir_call rfl (fun w' hb hd => ?_) ?_
        · have h2 : RowVT (nl - 1) (tstE.cells (noTest k L)) w' (.slice (some ⟨bh, 0, none⟩) (nl - 1) ch) := hd.1 (by kernel_rfl)
          clear hd
          obtain ⟨A9, c9, e9, h9⟩ := h2
          injection e9 with e1 _ e3
          subst e1 e3
          have hcl := Lib.hid (allApart5_any Aw Af (some ⟨bh, 0, none⟩) A4 cw cf ch c4 t (noTest k L) t.leftL w' HOK.out (HT6.out.mono hb) (fun x hx => HLO.out x (noTest_mem hx)) (by rw [HTL.out]; have := HN16.out; omega) h9 left_worlds (by have := left_six HOK.out; omega) (HLR6.out.mono hb))
          rw [HN.out, HTK.out, HTL.out] at hcl
          clear h9
          go_simp
          refine hcl.out.mono ?_
          rintro e w'' ⟨rfl, hb'⟩
          exact ⟨rfl, hb'⟩
        refine wpStir_end (fun w7 hb hd => ?_)
        clear hd
        simp only [Act.put, List.setIfInBounds_toArray, List.set_cons_succ, List.set_cons_zero, List.drop_succ_cons, List.drop_zero]
        have hB7 : Below wr.heap.size wr w7 := bTrans (Below.refl _ _) hb
        have HD7 := Lib.hid (bTrans HD6.out hB7)
        have HT7 := Lib.hid (HT6.out.mono hB7)
        have HTB7 := Lib.hid (HTB6.out.mono hB7)
        have HI7 := Lib.hid (HI6.out.mono hB7)
        have HLR7 := Lib.hid (HLR6.out.mono hB7)
        have HLA7 := Lib.hid (HLA6.out.mono hB7)
        have HRL7 := Lib.hid (HRL6.out.mono hB7)
        have T7 := Lib.hid (T6.out.mono hB7)
        clear hb hB7 HD6 HT6 HTB6 HI6 HLR6 HLA6 HRL6 T6 T_0 T_1 T_2 T_l
        obtain ⟨T_0, T_1, T_2, T_l⟩ := T7.out.c3
        go_wp2_with fail
        go_roundw
        case rel =>
          have hz := HRL7.out
          first
          | exact ⟨k + 1, by omega, by go_num, hz⟩
          | ((repeat apply Exists.intro)
             refine ⟨⟨k + 1, by omega, ?_, hz⟩, rfl⟩
             go_num)
        case measure => simp [intOf]; omega
      case neg =>
        have HRD := Lib.hid (show RowAt wr (some ⟨b, (k + 1) * 2, none⟩) (tstE.cells (L.drop (k + 1))) from by have := row_drop HLA6.out.row (i := k + 1) (by rw [HNL.out]; omega); rw [Nat.zero_add] at this; exact this)
        go_wp2_with fail
        refine wp_region_stir 13 (coverHs (.agg #[.int .i64 t.wells, .slice Aw t.nw cw, .slice Af t.nf cf]) (.slice (some ⟨b, 0, none⟩) nl c5) (some ⟨b, 0, none⟩) (some ⟨b, (k + 1) * 2, none⟩) nl k c5 (c5 - (k + 1)) wr.heap.size L (.int .i64 (k : Int)) (.int .i64 ((k : Int) + 1)) (.slice A4 n c4) false)
          (by kernel_rfl) (by kernel_rfl) rfl (cover_good _ _ _ _ _ _ _ _ _ _ _ _ _ _) (cover_cross _ _ _ _ _ _ _ _ _ _ _ _ _ _ _ _) ?_
        refine wpStir_const (by go_simp) ?_
        refine wpStir_held rfl (fun w' hb hd => ?_) (fun v hv => ?_)
        · clear hd
          go_simp
          exact ⟨bAlloc (Below.refl _ _) _, ⟨_, rfl⟩, trivial⟩
        obtain ⟨be, rfl⟩ := hv
        iterate 3 refine wpStir_const (by go_simp) ?_
        simp only [Act.put, List.setIfInBounds_toArray, List.set_cons_succ, List.set_cons_zero]
        refine wpStir_held rfl (fun w' hb hd => ?_) (fun v hv => ?_)
        · clear hd
          exact stir_copy w' (Operand.tmp 61) (Operand.tmp 64) 34 rfl 27 (.agg #[.int .i64 0, .int .i64 0]) 2 16 infoT Tryd.underlying34 rfl (by decide) be (some ⟨b, 0, none⟩) k c5 (tstE.cells (L.take k)) rfl rfl (by have := Elem.cells_len tstG (L.take k); rw [List.length_take, HNL.out, Nat.min_eq_left (by omega)] at this; exact this) ((row_take (HLA6.out.row) k).mono hb) (by have := HN16.out; omega) (by decide) _ hb.size
        obtain ⟨bg, cg, rfl⟩ := hv
        iterate 4 refine wpStir_const (by go_simp) ?_
        simp only [Act.put, List.setIfInBounds_toArray, List.set_cons_succ, List.set_cons_zero]
        refine wpStir_stir rfl (fun w' hb hd => ?_) (fun v hv => ?_)
        · have h2 : AtHand wr.heap.size 27 2 k (tstE.cells (L.take k)) w' (.slice (some ⟨bg, 0, none⟩) k cg) := hd.1 (by kernel_rfl)
          clear hd
          refine stirAt_imp (stir_append2 w' (Operand.tmp 65) (Operand.tmp 69) 34 rfl 27 (.agg #[.int .i64 0, .int .i64 0]) 2 16 infoT Tryd.underlying34 rfl (by decide) (.slice (some ⟨bg, 0, none⟩) k cg) k (tstE.cells (L.take k)) (some ⟨b, (k + 1) * 2, none⟩) (nl - (k + 1)) (c5 - (k + 1)) (tstE.cells (L.drop (k + 1))) wr.heap.size h2 rfl rfl (by have := Elem.cells_len tstG (L.drop (k + 1)); rw [List.length_drop, HNL.out] at this; exact this) (HRD.out.mono hb) (tst_one _) (by have := HN16.out; omega) (by decide) hb.size) fun w'' v ⟨h3, h4⟩ => ?_
          rw [show k + (nl - (k + 1)) = nl - 1 by omega] at h3 h4
          rw [← cells_app] at h4
          exact ⟨h3, h4⟩
        obtain ⟨bh, ch, rfl⟩ := hv
        refine wpStir_const (by go_simp) ?_
        simp only [Act.put, List.setIfInBounds_toArray, List.set_cons_succ, List.set_cons_zero]
        refine wpStir_call rfl (fun w' hb hd => ?_) ?_
        · have h2 : RowVT (nl - 1) (tstE.cells (noTest k L)) w' (.slice (some ⟨bh, 0, none⟩) (nl - 1) ch) := hd.1 (by kernel_rfl)
          clear hd
          obtain ⟨A9, c9, e9, h9⟩ := h2
          injection e9 with e1 _ e3
          subst e1 e3
          have hcl := Lib.hid (allApart5_any Aw Af (some ⟨bh, 0, none⟩) A4 cw cf ch c4 t (noTest k L) t.leftL w' HOK.out (HT6.out.mono hb) (fun x hx => HLO.out x (noTest_mem hx)) (by rw [HTL.out]; have := HN16.out; omega) h9 left_worlds (by have := left_six HOK.out; omega) (HLR6.out.mono hb))
          rw [HN.out, HTK.out, HTL.out] at hcl
          clear h9
          go_simp
          refine hcl.out.mono ?_
          rintro e w'' ⟨rfl, hb'⟩
          exact ⟨rfl, hb'⟩
        refine wpStir_end (fun w7 hb hd => ?_)
        clear hd
        simp only [Act.put, List.setIfInBounds_toArray, List.set_cons_succ, List.set_cons_zero, List.drop_succ_cons, List.drop_zero]
        have hB7 : Below wr.heap.size wr w7 := bTrans (Below.refl _ _) hb
        have HD7 := Lib.hid (bTrans HD6.out hB7)
        have HT7 := Lib.hid (HT6.out.mono hB7)
        have HTB7 := Lib.hid (HTB6.out.mono hB7)
        have HI7 := Lib.hid (HI6.out.mono hB7)
        have HLR7 := Lib.hid (HLR6.out.mono hB7)
        have HLA7 := Lib.hid (HLA6.out.mono hB7)
        have HRL7 := Lib.hid (HRL6.out.mono hB7)
        have T7 := Lib.hid (T6.out.mono hB7)
        clear hb hB7 HD6 HT6 HTB6 HI6 HLR6 HLA6 HRL6 T6 T_0 T_1 T_2 T_l
        obtain ⟨T_0, T_1, T_2, T_l⟩ := T7.out.c3
        go_wp2_with fail
        go_roundw
        case rel =>
          have hz := HRL7.out
          first
          | exact ⟨k + 1, by omega, by go_num, hz⟩
          | ((repeat apply Exists.intro)
             refine ⟨⟨k + 1, by omega, ?_, hz⟩, rfl⟩
             go_num)
        case measure => simp [intOf]; omega
    obtain rfl : k = nl := by omega
    have k1 : ¬ (k : Int) < (k : Int) := by omega
    go_wp2_with fail
    obtain ⟨wl, hwl⟩ : ∃ x, x = wr := ⟨_, rfl⟩
    subst hwl
    go_loopw [9] (fun s9 wx => ∃ i : Nat, i ≤ n1 ∧ s9 = .int .i64 (i : Int) ∧ (∀ j, j < i → t.testB (y j).1 (y j).2 = true) ∧ Below wl.heap.size wl wx) (fun s _ => n1 - (intOf s).toNat)
    case atStart => exact ⟨0, by omega, rfl, fun j hj => absurd hj (Nat.not_lt_zero _), Below.refl _ _⟩
    case round =>
      obtain ⟨i, hi, rfl, hall, hb⟩ := hrel
      have HALL := Lib.hid hall
      clear hall
      have hB7 : Below wl.heap.size wl wr := bTrans (Below.refl _ _) hb
      have HD7 := Lib.hid (bTrans HD6.out hB7)
      have HT7 := Lib.hid (HT6.out.mono hB7)
      have HTB7 := Lib.hid (HTB6.out.mono hB7)
      have HI7 := Lib.hid (HI6.out.mono hB7)
      have HLR7 := Lib.hid (HLR6.out.mono hB7)
      have HLA7 := Lib.hid (HLA6.out.mono hB7)
      have HRL7 := Lib.hid ((show Upto wl wr from hb))
      have T7 := Lib.hid (T6.out.mono hB7)
      clear hb hB7 HD6 HT6 HTB6 HI6 HLR6 HLA6 T6 T_0 T_1 T_2 T_l
      obtain ⟨T_0, T_1, T_2, T_l⟩ := T7.out.c3
      by_cases hlt : i < n1
      case pos =>
        have i1 : (i : Int) < (n1 : Int) := by omega
        have i0 : (0 : Int) ≤ (i : Int) := by omega
        obtain ⟨bq, oq, rfl, hbq, cq1, cq2⟩ := (HI7.out).at hlt
        obtain ⟨yp, hyp⟩ : ∃ v, (y i).1 = v := ⟨_, rfl⟩
        obtain ⟨yq, hyq⟩ : ∃ v, (y i).2 = v := ⟨_, rfl⟩
        rw [hyp] at cq1
        rw [hyq] at cq2
        obtain ⟨bt, hbt⟩ : ∃ v, t.testB yp yq = v := ⟨_, rfl⟩
        have HBT := Lib.hid (show t.testB (y i).1 (y i).2 = bt by rw [hyp, hyq]; exact hbt)
        have HIT := Lib.hid (fun w' : World => (hbt ▸ isTest5_any Aw Af cw cf t yp yq w' : Calls Tryd.prog 30 #[.agg #[.int .i64 t.wells, .slice Aw t.nw cw, .slice Af t.nf cf], .agg #[.int .i64 yp, .int .i64 yq]] w' fun e w'' => e = .returned (.bool bt) ∧ Below w'.heap.size w' w''))
        clear hyp hyq hbt
        go_wp2_with fail
        refine wp_region_quiet_below (by kernel_rfl) (by kernel_rfl) ?_
        repeat (go_big_quiet_step (((go_at_call 30; with_reducible exact Calls.regrown_of (HIT.out _)))))
        refine wpQuiet_nil ?_
        intro w8 hw9
        have hb := below_of_regrown hw9
        clear hw9
        have hB8 : Below wr.heap.size wr w8 := bTrans (Below.refl _ _) hb
        have HD8 := Lib.hid (bTrans HD7.out hB8)
        have HT8 := Lib.hid (HT7.out.mono hB8)
        have HTB8 := Lib.hid (HTB7.out.mono hB8)
        have HI8 := Lib.hid (HI7.out.mono hB8)
        have HLR8 := Lib.hid (HLR7.out.mono hB8)
        have HLA8 := Lib.hid (HLA7.out.mono hB8)
        have HRL8 := Lib.hid (HRL7.out.mono hB8)
        have T8 := Lib.hid (T7.out.mono hB8)
        clear hb hB8 HD7 HT7 HTB7 HI7 HLR7 HLA7 HRL7 T7 T_0 T_1 T_2 T_l
        obtain ⟨T_0, T_1, T_2, T_l⟩ := T8.out.c3
        cases bt
        case false =>
          go_wp2_with fail
          refine (works5_any _ HTB8.out).mono ?_
          rintro e w99 ⟨rfl, hb99⟩
          go_wp2_with fail
          go_ret
          exact ⟨rfl, bTrans HD8.out hb99⟩
        have HY := Lib.hid (allTo_step HALL.out HBT.out)
        go_wp2_with fail
        go_roundw
        case rel =>
          have hz := HRL8.out
          first
          | exact ⟨i + 1, by omega, by go_num, HY.out, hz⟩
          | ((repeat apply Exists.intro)
             refine ⟨⟨i + 1, by omega, ?_, HY.out, hz⟩, rfl⟩
             go_num)
        case measure => simp [intOf]; omega
      obtain rfl : i = n1 := by omega
      have i1 : ¬ (i : Int) < (i : Int) := by omega
      have HTO := Lib.hid (tps_ok HOK.out HALL.out)
      by_cases hge : (i : Int) ≥ (k : Int)
      case pos =>
        have hge2 : k ≤ i := by omega
        go_wp2_with fail
        refine (works5_any _ HTB7.out).mono ?_
        rintro e w99 ⟨rfl, hb99⟩
        go_wp2_with fail
        go_ret
        exact ⟨rfl, bTrans HD7.out hb99⟩
      have hge2 : ¬ k ≤ i := by omega
      have HTF := Lib.hid (show t.allApart (tpsL y i) t.leftL = false by
        cases h : t.allApart (tpsL y i) t.leftL with
        | false => rfl
        | true =>
          have := fewest_min HTO.out.2.2 h
          rw [HL.out, HNL.out, tpsL_len] at this
          exact absurd this hge2)
      have HRP := Lib.hid (pairs_row HI7.out HTO.out.1)
      go_wp2_with fail
      refine ((by have := allApart5_any Aw Af Al A4 cw cf cl c4 t (tpsL y i) t.leftL wr HOK.out HT7.out HTO.out.2.1 (by rw [tpsL_len]; have := H40.out; omega) (pairs_row HI7.out HTO.out.1) left_worlds (by have := left_six HOK.out; omega) HLR7.out; rw [HN.out, HTF.out, tpsL_len] at this; exact this : Calls Tryd.prog 29 #[.agg #[.int .i64 t.wells, .slice Aw t.nw cw, .slice Af t.nf cf], .slice Al i cl, .slice A4 n c4] wr fun e w' => e = .returned (.bool false) ∧ Below wr.heap.size wr w')).mono ?_
      rintro e w8 ⟨rfl, hb⟩
      have hB8 : Below wr.heap.size wr w8 := bTrans (Below.refl _ _) hb
      have HD8 := Lib.hid (bTrans HD7.out hB8)
      have HT8 := Lib.hid (HT7.out.mono hB8)
      have HTB8 := Lib.hid (HTB7.out.mono hB8)
      have HI8 := Lib.hid (HI7.out.mono hB8)
      have HLR8 := Lib.hid (HLR7.out.mono hB8)
      have HLA8 := Lib.hid (HLA7.out.mono hB8)
      have HRL8 := Lib.hid (HRL7.out.mono hB8)
      have T8 := Lib.hid (T7.out.mono hB8)
      clear hb hB8 HD7 HT7 HTB7 HI7 HLR7 HLA7 HRL7 T7 T_0 T_1 T_2 T_l
      obtain ⟨T_0, T_1, T_2, T_l⟩ := T8.out.c3
      go_wp2_with fail
      refine (works5_any _ HTB8.out).mono ?_
      rintro e w99 ⟨rfl, hb99⟩
      go_wp2_with fail
      go_ret
      exact ⟨rfl, bTrans HD8.out hb99⟩
end Go.Proofs.YtchhodikgllgnaaDoor
