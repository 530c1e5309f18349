/- Parts joined: what all claims of this seat need. -/
import Derived.Test.YthnojgdckkdcgaaDoorNCI
import Derived.Test.YthnojgdckkdcgaaDoorNCE
set_option linter.unusedSimpArgs false
set_option linter.unusedVariables false
namespace Go.Proofs.YthnojgdckkdcgaaDoor
open Go.RowKit Go.Sort Go.Shelf
attribute [local go_sem] Oper.semAt_some
set_option maxHeartbeats 2000000 in
theorem enough1_any (Aw Af : Option Addr) (cw cf C mp s a d m n c : Nat) (t : Qt) (i j g : Nat) (w : World) (hc : CourtAt w C Aw Af cw cf t s mp) (ok : t.Ok) (hi : i < t.nw) (hj : j < t.nw) (hm : t.wells = (m : Int)) (hT : QAt w Aw Af t)
    (ha : a < w.heap.size) (hca : w.cell? ⟨a, 0, none⟩ = some (.pointer (some ⟨C, 0, none⟩))) (hd : d < w.heap.size) (hcd : w.cell? ⟨d, 0, none⟩ = some (.slice (some ⟨g, 0, none⟩) n c)) (hn : 0 < n) (hg : g < w.heap.size) (hcg : w.cell? ⟨g, 0, none⟩ = some (.int .i64 i)) :
    Calls Tryd.prog 43 #[.int .i64 j, .pointer (some ⟨a, 0, none⟩), .pointer (some ⟨d, 0, none⟩)] w fun e w' => e = .returned (.bool (t.someB t.tests i j)) ∧ Below w.heap.size w w' := by
  have HCT := Lib.hid hc
  have HT := Lib.hid hT
  have HOK := Lib.hid ok
  have HM := Lib.hid hm
  obtain ⟨b, hb⟩ : ∃ b, t.someB t.tests i j = b := ⟨_, rfl⟩
  have HC1 := Lib.hid (fun (w' : World) (hb' : Below w.heap.size w w') => (hb ▸ alike_any Aw Af cw cf C mp s t i j m w' (HCT.out.mono hb') HOK.out hi hj HM.out (HT.out.mono hb') : Calls Tryd.prog 35 #[.pointer (some ⟨C, 0, none⟩), .int .i64 i, .int .i64 j] w' fun e w'' => e = .returned (.bool (!b)) ∧ Below w'.heap.size w' w''))
  have n1 : (0 : Int) < (n : Int) := by omega
  rw [hb]
  clear hb hc hT ok hm
  go_enter Tryd.func43, Tryd.ntmps43
  go_wp2_with fail
  refine wp_region_quiet_below (by kernel_rfl) (by kernel_rfl) ?_
  repeat (go_big_quiet_step (((go_at_call 35; with_reducible exact Calls.regrown_of (HC1.out _ (below_regrown _ _ _))))))
  refine wpQuiet_nil ?_
  intro w4 hw4
  have HB4 := Lib.hid (below_of_regrown hw4)
  clear hw4
  go_wp2_with fail
  go_ret
  exact ⟨by first | rfl | simp, HB4.out⟩
theorem allApart_first {t : Qt} {L : List Int} (h0 : 0 < L.length) : t.allApart [] L = !anyB (fun k => t.someB t.tests (intL0 L 0) (intL0 L k)) L.length := by
  refine Bool.eq_iff_iff.2 ?_
  rw [allApart_iff, Bool.not_eq_true', anyB_false]
  constructor
  · intro h k hk
    cases hs : t.someB t.tests (intL0 L 0) (intL0 L k) with
    | false => rfl
    | true =>
      have := h _ (intL0_mem h0) _ (intL0_mem hk) hs
      simp [Qt.someB] at this
  · intro h a ha b hb hs
    obtain ⟨i, hi, rfl⟩ := mem_intL0 ha
    obtain ⟨k, hk, rfl⟩ := mem_intL0 hb
    obtain ⟨x, hx, hn⟩ := someB_iff.1 hs
    have key : ∀ k, k < L.length → t.F (intL0 L 0) x = t.F (intL0 L k) x := fun k hk => Classical.byContradiction fun hne => by
      have := h k hk
      rw [someB_iff.2 ⟨x, hx, hne⟩] at this
      cases this
    exact absurd ((key i hi).symm.trans (key k hk)) hn
theorem grown_setNew {w w' : World} {r : Option Nat} {b : Nat} (h : w.grownBy w' r) (hb : w.heap.size ≤ b) (o : Nat) (v : Value) : w.grownBy (w'.setCell ⟨b, o, none⟩ v) r :=
  ⟨h.os, h.tape, h.output, by simpa [World.setCell] using h.size, fun k hk hne => (Below.heap_setCell w' ⟨b, o, none⟩ v k (by show k ≠ b; omega)).trans (h.block k hk hne)⟩
theorem grown_alloc {w w' : World} {r : Option Nat} (h : w.grownBy w' r) (o : Obj) : w.grownBy (w'.alloc o) r := grown_trans h (World.grownBy_alloc w' o r)
theorem grown_put {w w' : World} {r : Option Nat} {b : Nat} (h : w.grownBy w' r) (hb : w.heap.size ≤ b) (o : Obj) : w.grownBy (w'.putObj b o) r :=
  ⟨h.os, h.tape, h.output, by have := (grownBy_putObj' w' b o).size; have := h.size; omega, fun k hk hne => ((grownBy_putObj' w' b o).block k (Nat.lt_of_lt_of_le hk h.size) (fun e => by injection e with e; omega)).trans (h.block k hk hne)⟩
theorem DepMap.set {w : World} {mp : Nat} {t : Qt} (h : DepMap w mp t) {b : Nat} (hb : b ≠ mp) (o : Nat) (v : Value) : DepMap (w.setCell ⟨b, o, none⟩ v) mp t := by
  obtain ⟨es, clock, h1, h2⟩ := h
  exact ⟨es, clock, (Below.heap_setCell w ⟨b, o, none⟩ v mp (by show mp ≠ b; omega)).trans h1, h2⟩
theorem DepMap.put {w : World} {mp : Nat} {t : Qt} (h : DepMap w mp t) {b : Nat} (hb : b ≠ mp) (o : Obj) : DepMap (w.putObj b o) mp t := by
  obtain ⟨es, clock, h1, h2⟩ := h
  exact ⟨es, clock, (World.putObj_heap_other (fun e => hb (by omega))).trans h1, h2⟩
theorem ownFrom_grown {β : Type} {w : World} {mp B : Nat} (hB : w.heap.size ≤ B) : OwnFrom B (fun (_ : β) W => w.grownBy W (some mp)) :=
  fun _ X Y row hs hg hr => ⟨hg.os.trans hs.os, hg.tape.trans hs.tape, hg.output.trans hs.output, Nat.le_trans hs.size hg.size, fun k hk hne => (hg.block k (Nat.lt_of_lt_of_le hk hs.size) (fun e => by have := (hr k e.symm).1; omega)).trans (hs.block k hk hne)⟩
theorem ownFrom_dep {β : Type} {mp B : Nat} {t : Qt} (hB : mp < B) : OwnFrom B (fun (_ : β) W => DepMap W mp t) :=
  fun _ X Y row hs hg hr => by
    obtain ⟨es, clock, h1, h2⟩ := hs
    exact ⟨es, clock, (hg.block mp (Array.getElem?_eq_some_iff.1 h1).1 (fun e => by have := (hr mp e.symm).1; omega)).trans h1, h2⟩
theorem falls_of {t : Qt} (ok : t.Ok) {L : List Int} (h : ∀ a, a ∈ L → ∃ i : Nat, a = i ∧ i < t.nw) : t.Falls L := fun a ha x hx => by
  obtain ⟨i, rfl, hi⟩ := h a ha
  have hx' := testsL_mem.1 hx
  have h0 := ok.w0
  have := fallAt_bd ok hi (p := x.1) (q := x.2) (by omega) (by omega) (by omega) (by omega)
  simpa [Qt.fallAt, Qt.F] using this
theorem afterP_bd (t : Qt) (x : Tp) (L : List Int) (h : L.length ≤ 100) : 0 ≤ t.afterP x L ∧ t.afterP x L ≤ 1024 := by
  unfold Qt.afterP
  split
  · omega
  · refine ⟨maxTo_nonneg _ _, maxTo_le.2 ⟨by omega, fun f _ => ?_⟩⟩
    have h1 := depth_le t (t.shown x L (f : Int))
    have h2 := shown_len t x L (f : Int)
    omega
set_option maxHeartbeats 4000000 in
set_option maxRecDepth 100000 in
theorem enough_step {W0 : World} {C mp s0 : Nat} {Aw Af : Option Addr} {cw cf : Nat} {t : Qt} {s : Nat} (ok : t.Ok) (h64 : s < 64) (hsub : ∀ i : Nat, s.testBit i = true → i < t.nw) (IH : ∀ s', s' < s → (∀ i : Nat, s'.testBit i = true → i < t.nw) → EnoughAt W0 C mp s0 Aw Af cw cf t s') : EnoughAt W0 C mp s0 Aw Af cw cf t s := by
  intro w hE
  obtain ⟨m, hm⟩ : ∃ m : Nat, t.wells = (m : Int) := ⟨t.wells.toNat, by have := ok.w0; omega⟩
  have m4 : m ≤ 4 := by have := ok.w1; omega
  have HM := Lib.hid hm
  have HTE := Lib.hid (show t.tests = testsL m by unfold Qt.tests; rw [hm]; rfl)
  have HOK := Lib.hid ok
  have HSUB := Lib.hid hsub
  have HIH := Lib.hid IH
  have hb0 : Below w.heap.size w ((w.alloc (.cells #[.pointer (some ⟨C, 0, none⟩)] 74)).alloc (.cells #[.int .u64 s] 79)) := bAlloc (bAlloc (Below.refl _ _) _) _
  have HB0 := Lib.hid hb0
  have hmpw := hE.dep.lt
  have HE0 := Lib.hid (hE.mono hb0)
  have HLS := Lib.hid (list_any s ((w.alloc (.cells #[.pointer (some ⟨C, 0, none⟩)] 74)).alloc (.cells #[.int .u64 s] 79)) h64 (HE0.out.tab.mono HE0.out.below))
  clear hE hb0 ok hsub IH hm
  refine (callsIn_wide (n := 9)).1 ?_
  refine callsIn_of_wp_marks Tryd.func28 rfl trivial ?_ rfl
  simp only [Tryd.ntmps28, List.size_toArray, List.length_cons, List.length_nil, Nat.reduceAdd, Nat.reduceSub, Array.replicate_succ, Array.replicate_zero, List.push_toArray, List.append_toArray, List.nil_append, List.cons_append]
  gi_wp2
  refine ⟨trivial, (callsIn_wide.2 HLS.out).mono ?_⟩
  rintro e w1 ⟨⟨v, rfl, hv⟩, hb1⟩
  obtain ⟨n, hn⟩ : ∃ n, (bitsL s).length = n := ⟨_, rfl⟩
  have HN := Lib.hid hn
  obtain ⟨A, c, rfl, hrow⟩ := hv.nums
  rw [hn]
  have HB1 := Lib.hid (bTrans HB0.out hb1)
  have HE1 := Lib.hid (HE0.out.mono hb1)
  have HV := Lib.hid hv
  have hz1 := hb1.size
  simp only [World.size_alloc] at hz1
  have c2 := (hb1.cell (p := ⟨w.heap.size, 0, none⟩) (by simp <;> omega)).trans (show _ = some (.pointer (some ⟨C, 0, none⟩)) by simp [go_sem])
  have c3 := (hb1.cell (p := ⟨w.heap.size + 1, 0, none⟩) (by simp)).trans (show _ = some (.int .u64 (s : Int)) by simp [go_sem])
  clear hb1 hv hrow hn
  obtain ⟨w3, hw3⟩ : ∃ w3, w1.alloc (.cells #[.slice A n c] 23) = w3 := ⟨_, rfl⟩
  have hb3 : Below w1.heap.size w1 w3 := hw3 ▸ bAlloc (Below.refl _ _) _
  have HB3 := Lib.hid (bTrans HB1.out hb3)
  have HE3 := Lib.hid (HE1.out.mono hb3)
  have HV3 := Lib.hid (HV.out.mono hb3)
  have d2 : w3.cell? ⟨w.heap.size, 0, none⟩ = some (.pointer (some ⟨C, 0, none⟩)) := (hb3.cell (p := ⟨w.heap.size, 0, none⟩) (show w.heap.size < w1.heap.size by omega)).trans c2
  have d3 : w3.cell? ⟨w.heap.size + 1, 0, none⟩ = some (.int .u64 (s : Int)) := (hb3.cell (p := ⟨w.heap.size + 1, 0, none⟩) (show w.heap.size + 1 < w1.heap.size by omega)).trans c3
  have d5 : w3.cell? ⟨w1.heap.size, 0, none⟩ = some (.slice A n c) := by rw [← hw3]; simp [go_sem]
  have hz3 : w3.heap.size = w1.heap.size + 1 := by rw [← hw3]; simp
  have x2 : w.heap.size < w3.heap.size := by omega
  have x3 : w.heap.size + 1 < w3.heap.size := by omega
  have x5 : w1.heap.size < w3.heap.size := by omega
  clear c2 c3 hb3
  by_cases hn2 : n < 2
  · have HZ := Lib.hid (show t.depth (bitsL s) = 0 by rw [depth_step, allApart_short (by rw [HN.out]; exact hn2)]; rfl)
    have g0 : (n : Int) < 2 := by omega
    clear hn2
    gi_wp2
    refine ⟨trivial, ?_⟩
    gi_wp2
    refine ⟨.int .i64 0, by simp [results, Tryd.results28], ?_⟩
    exact ⟨by rw [HZ.out], grown_below HB3.out, HE3.out.dep⟩
  · have g0 : decide ((n : Int) < 2) = false := by simp; omega
    have g00 : ¬ (n : Int) < 2 := by omega
    obtain ⟨g, c', e1, _, _⟩ := HV3.out.cap (by rw [HN.out]; omega)
    simp only [Value.slice.injEq] at e1
    obtain ⟨rfl, _, rfl⟩ := e1
    obtain ⟨A1, c1, e1, hrow⟩ := HV3.out.nums
    simp only [Value.slice.injEq] at e1
    obtain ⟨rfl, _, rfl⟩ := e1
    obtain ⟨y0, hy0⟩ : ∃ y, (bitsL s)[0]? = some y := ⟨_, List.getElem?_eq_getElem (by rw [HN.out]; omega)⟩
    obtain ⟨i0, hi06, hi0b, rfl⟩ := bitsL_mem.1 (List.mem_of_getElem? hy0)
    obtain ⟨b', o', e2, hbs, cg⟩ := hrow.num hy0
    simp only [Option.some.injEq, Addr.mk.injEq, and_true] at e2
    obtain ⟨rfl, rfl⟩ := e2
    have hI0 := HSUB.out i0 hi0b
    obtain ⟨ba, hba⟩ : ∃ ba, anyB (fun k => t.someB t.tests (intL0 (bitsL s) 0) (intL0 (bitsL s) k)) n = ba := ⟨_, rfl⟩
    have HNN := Lib.hid (none_int (some ⟨g, 0, none⟩) n c 43 #[.pointer (some ⟨w.heap.size, 0, none⟩), .pointer (some ⟨w1.heap.size, 0, none⟩)] (intL0 (bitsL s)) (fun k => t.someB t.tests (intL0 (bitsL s) 0) (intL0 (bitsL s) k)) w3 (by have := bitsL_len s; rw [HN.out] at this; omega)
      (by
        refine .inr ⟨g, 0, rfl, hbs, fun k hk => ?_⟩
        obtain ⟨b2, o2, e3, _, ck⟩ := hrow.num (show (bitsL s)[k]? = some (intL0 (bitsL s) k) by unfold intL0; rw [List.getElem?_eq_getElem (by rw [HN.out]; exact hk)]; rfl)
        simp only [Option.some.injEq, Addr.mk.injEq, and_true] at e3
        obtain ⟨rfl, rfl⟩ := e3
        exact ck) (enters_of Tryd.func43 (by kernel_rfl)) (fun k hk w' hb' => by
        obtain ⟨jj, hjj6, hjjb, hjj⟩ := bitsL_mem.1 (intL0_mem (L := bitsL s) (k := k) (by rw [HN.out]; exact hk))
        have hi00 : intL0 (bitsL s) 0 = (i0 : Int) := by unfold intL0; rw [hy0]; rfl
        rw [hjj, hi00]
        have hz := hb'.size
        exact enough1_any Aw Af cw cf C mp s0 w.heap.size w1.heap.size m n c t i0 jj g w' (HE3.out.court.mono hb') HOK.out hI0 (HSUB.out jj hjjb) HM.out (HE3.out.town.mono (HE3.out.below.trans (hb'.mono HE3.out.below.size))) (by omega) ((hb'.cell (p := ⟨w.heap.size, 0, none⟩) x2).trans d2) (by omega) ((hb'.cell (p := ⟨w1.heap.size, 0, none⟩) x5).trans d5) (by omega) (by omega) ((hb'.cell (p := ⟨g, 0, none⟩) hbs).trans cg)))
    rw [hba] at HNN
    have HBA := Lib.hid hba
    clear hba cg hrow hy0 hi0b hI0
    gi_wp2
    refine ⟨trivial, (callsIn_wide.2 HNN.out).mono ?_⟩
    rintro e w4 ⟨rfl, hb4⟩
    have HB4 := Lib.hid (bTrans HB3.out hb4)
    have HE4 := Lib.hid (HE3.out.mono hb4)
    have e2 := (hb4.cell (p := ⟨w.heap.size, 0, none⟩) x2).trans d2
    have e3 := (hb4.cell (p := ⟨w.heap.size + 1, 0, none⟩) x3).trans d3
    have z4 := hb4.size
    have u2 : w.heap.size < w4.heap.size := by omega
    have u3 : w.heap.size + 1 < w4.heap.size := by omega
    clear hb4 d2 d3 d5 x2 x3 x5 hbs
    have HAL := Lib.hid (show t.allApart [] (bitsL s) = !ba by rw [allApart_first (by rw [HN.out]; omega), HN.out, HBA.out])
    cases ba
    · have HZ := Lib.hid (show t.depth (bitsL s) = 0 by rw [depth_step, HAL.out]; rfl)
      gi_wp2
      refine ⟨.int .i64 0, by simp [results, Tryd.results28], ?_⟩
      exact ⟨by rw [HZ.out], grown_below HB4.out, HE4.out.dep⟩
    · have hct := HE4.out.court
      have k0 := hct.box.cell 4 _ rfl
      have k1 := hct.box.lt
      have k2 := hct.box.cell 0 _ rfl
      rw [HM.out] at k2
      obtain ⟨es, clock, hmap, hdep⟩ := HE4.out.dep
      obtain ⟨lv, lb, hlk, hlt⟩ := lookup_dep hdep s mp clock
      have HLT := Lib.hid hlt
      have HLK := Lib.hid hlk
      have HMAP := Lib.hid hmap
      clear hct hlt hlk hmap hdep
      gi_wp2
      refine wpIn_region_cls (openWide _) 11 [.pointer (some ⟨C, 0, none⟩), .pointer (some ⟨C, 0, none⟩), .pointer (some ⟨C, 4, none⟩), .map (some mp), .int .u64 (s : Int), .tuple #[.int .i64 lv, .bool lb], .tuple #[.int .i64 lv, .bool lb], .int .i64 lv, .bool lb, .int .i64 lv, .bool lb] (fun w' => Below w4.heap.size w4 w') (by kernel_rfl) (by kernel_rfl) rfl (Below.refl _ _).drew ?_
      iterate 11
        refine wpCls_do rfl (fun w' hw' => ?_) ?_
        · have hw' : Below w4.heap.size w4 w' := hw'
          have f2 := (hw'.cell (p := ⟨w.heap.size, 0, none⟩) u2).trans e2
          have f3 := (hw'.cell (p := ⟨w.heap.size + 1, 0, none⟩) u3).trans e3
          have f4 := (hw'.cell (p := ⟨C, 4, none⟩) k1).trans k0
          have f5 := HLK.out w' ((hw'.block mp (Array.getElem?_eq_some_iff.1 HMAP.out).1).trans HMAP.out)
          clear e2 e3 k0
          go_simp
          done
        try simp only [Act.put, List.setIfInBounds_toArray, List.set_cons_succ, List.set_cons_zero]
      refine wpCls_nil ?_
      intro w5 hw5
      have hb5 : Below w4.heap.size w4 w5 := hw5
      have HB5 := Lib.hid (bTrans HB4.out hb5)
      have HE5 := Lib.hid (HE4.out.mono hb5)
      have f2 := (hb5.cell (p := ⟨w.heap.size, 0, none⟩) u2).trans e2
      have f3 := (hb5.cell (p := ⟨w.heap.size + 1, 0, none⟩) u3).trans e3
      have k3 := (hb5.cell (p := ⟨C, 0, none⟩) k1).trans k2
      have z5 := hb5.size
      have v1 : C < w5.heap.size := by omega
      have hz5 : w.heap.size + 1 < w5.heap.size := by omega
      have hz50 : w.heap.size < w5.heap.size := by omega
      clear hw5 hb5 e2 e3 k0 k1 k2 u2 u3 z4
      simp only [List.drop_succ_cons, List.drop_zero]
      cases lb
      · have HW6 := Lib.hid (bAlloc (Below.refl w5.heap.size w5) (.cells #[.int .i64 1024] 3))
        have HSEQ := Lib.hid (tests_seq 8 C m (w5.alloc (.cells #[.int .i64 1024] 3)) (by decide) m4 (Nat.lt_of_lt_of_le v1 HW6.out.size) ((HW6.out.cell (p := ⟨C, 0, none⟩) v1).trans k3))
        gi_wp2
        refine wpIn_range_bound (gf := 32) (bnd := #[.pointer (some ⟨C, 0, none⟩)]) rfl (by decide) rfl trivial (enters_of Tryd.func32 (by kernel_rfl)) HSEQ.out kpC_t (kpC_b (by simp; omega)) (fun _ => rfl)
          (fun pre W => Boxed W w5.heap.size 3 (.int .i64 (minF 1024 (fun x => 1 + t.afterP x (bitsL s)) pre)) ∧ w5.grownBy W (some mp) ∧ DepMap W mp t)
          (fun c pre W => False) ((Own.from (boxed_own _ _ _) _).and ((ownFrom_grown (by simp)).and (ownFrom_dep (by simp; omega)))) (fun c _ _ _ _ hs _ _ => hs) ⟨Boxed.new w5 _ _, grown_below HW6.out, HE5.out.dep.mono HW6.out⟩
          (fun x a' W => ∃ bx, w5.heap.size + 1 ≤ bx ∧ BoxAt W bx [.int .i64 x.1, .int .i64 x.2] ∧ a' = { tmps := #[.pointer (some ⟨C, 0, none⟩), .int .u64 (s : Int), .pointer (some ⟨w.heap.size, 0, none⟩), .pointer (some ⟨w.heap.size + 1, 0, none⟩), .int .i64 0, .pointer (some ⟨w1.heap.size, 0, none⟩), .int .i64 lv, .bool false, .pointer (some ⟨w5.heap.size, 0, none⟩), .pointer (some ⟨bx, 0, none⟩), .int .u64 (s : Int), .slice (some ⟨g, 0, none⟩) n c, .slice (some ⟨g, 0, none⟩) n c, .int .i64 n, .bool false, .bool false, .slice (some ⟨g, 0, none⟩) n c, .func (.func 43) #[] #[.pointer (some ⟨w.heap.size, 0, none⟩), .pointer (some ⟨w1.heap.size, 0, none⟩)], .bool false, .bool false, .tuple #[.int .i64 lv, .bool false], .pointer (some ⟨C, 0, none⟩), .pointer (some ⟨C, 0, none⟩), .pointer (some ⟨C, 4, none⟩), .map (some mp), .int .u64 (s : Int), .tuple #[.int .i64 lv, .bool false], .int .i64 lv, .bool false, .bool false, undef, .pointer (some ⟨C, 0, none⟩), .func (.func 32) #[.pointer (some ⟨C, 0, none⟩)] #[], .agg #[.int .i64 x.1, .int .i64 x.2], undef, undef, undef, undef, undef, undef, undef, undef, undef, undef, undef, undef, undef, undef], defers := [] })
          (fun x a' _ X Y row hs hg hr => by
            obtain ⟨bx, h1, h2, h3⟩ := hs
            exact ⟨bx, h1, ownFrom_box (β := Unit) bx _ (by simp) () X Y row h2 hg hr, h3⟩) ?assign ?body ?done ?stop
        case assign =>
          rintro l pre x W K hsz ⟨hbx, hgr, hdp⟩ hK
          have HBX := Lib.hid hbx
          have HGR := Lib.hid hgr
          have HDP := Lib.hid hdp
          simp only [World.size_alloc] at hsz
          clear hbx hgr hdp
          simp only [encT]
          gi_wp2
          exact hK _ _ (keeps_below (bAlloc (Below.refl _ _) _)) (kpC_of (bAlloc (Below.refl W.heap.size W) _) (by omega)) ⟨HBX.out.alloc _, grown_alloc HGR.out _, HDP.out.mono (bAlloc (Below.refl _ _) _)⟩ ⟨W.heap.size, hsz, BoxAt.two (by simp) (by simp [go_sem]) (by simp [go_sem]), rfl⟩
        case body =>
          rintro l pre x a' W hsz ⟨hbx, hgr, hdp⟩ ⟨bx, hbb, hX, rfl⟩ hlen
          have HBX := Lib.hid hbx
          have HGR := Lib.hid hgr
          have HDP := Lib.hid hdp
          have HXX := Lib.hid hX
          simp only [World.size_alloc] at hsz
          have hxm := testsL_mem.1 (hlen.subset (List.mem_append_right _ (List.mem_singleton.2 rfl)))
          obtain ⟨p, q⟩ := x
          have HP := Lib.hid (show (p : Int) < t.wells by rw [HM.out]; have := hxm.1; simp at this; omega)
          have HQ := Lib.hid (show (q : Int) < t.wells by rw [HM.out]; have := hxm.2; simp at this; omega)
          obtain ⟨a, ha⟩ : ∃ a, t.afterP (p, q) (bitsL s) = a := ⟨_, rfl⟩
          have habd := afterP_bd t (p, q) (bitsL s) (by have := bitsL_len s; omega)
          rw [ha] at habd
          have e1 : IntKind.i64.wrap (1 + a) = 1 + a := IntWalk.i64_in _ (by omega)
          obtain ⟨nb, hnb⟩ : ∃ nb, minF 1024 (fun x => 1 + t.afterP x (bitsL s)) pre = nb := ⟨_, rfl⟩
          rw [hnb] at HBX
          obtain ⟨m2, hm2⟩ : ∃ m2, (if 1 + a < nb then 1 + a else nb) = m2 := ⟨_, rfl⟩
          have HS := Lib.hid (show minF 1024 (fun x => 1 + t.afterP x (bitsL s)) (pre ++ [(p, q)]) = m2 by
            rw [minF_snoc, hnb, ha, ← hm2]
            split <;> omega)
          have HAF := Lib.hid (fun (W' : World) (hg : W.grownBy W' (some mp)) (hd : DepMap W' mp t) => (ha ▸ after_any HOK.out h64 HSUB.out HIH.out p q HP.out HQ.out W' (HE5.out.step (grown_trans HGR.out hg) hd) : Calls Tryd.prog 36 #[.pointer (some ⟨C, 0, none⟩), .int .u64 (s : Int), .agg #[.int .i64 p, .int .i64 q]] W' fun e w' => e = .returned (.int .i64 a) ∧ W'.grownBy w' (some mp) ∧ DepMap w' mp t))
          have hcell : ∀ (W' : World), W.grownBy W' (some mp) → ∀ k o, k < W.heap.size → k ≠ mp → W'.cell? ⟨k, o, none⟩ = W.cell? ⟨k, o, none⟩ := fun W' hg k o hk hne => cell_of_heap (hg.block k hk (fun e => hne (Option.some.inj e))) o
          have HCELL := Lib.hid hcell
          have hgc : ∀ k o, k < w5.heap.size → k ≠ mp → W.cell? ⟨k, o, none⟩ = w5.cell? ⟨k, o, none⟩ := fun k o hk hne => cell_of_heap (HGR.out.block k hk (fun e => hne (Option.some.inj e))) o
          have y2 := (hgc w.heap.size 0 hz50 (by omega)).trans f2
          have y3 := (hgc (w.heap.size + 1) 0 hz5 (by omega)).trans f3
          have yC := (hgc C 0 v1 HE5.out.ne).trans k3
          clear hbx hgr hdp hX hlen hxm ha hnb hcell hgc habd f2 f3
          gi_wp2
          refine wpIn_region_cls (openRound _ l) 7 [.int .i64 nb, .pointer (some ⟨C, 0, none⟩), .int .u64 (s : Int), .agg #[.int .i64 p, .int .i64 q], .int .i64 a, .int .i64 (1 + a), .int .i64 m2] (fun W' => W.grownBy W' (some mp) ∧ DepMap W' mp t) (by kernel_rfl) (by kernel_rfl) rfl ⟨grown_below (Below.refl _ _).drew, HDP.out.mono (Below.refl _ _).drew⟩ ?_
          iterate 7
            refine wpCls_do rfl (fun W' hw' => ?_) ?_
            · obtain ⟨hg', hd'⟩ : W.grownBy W' (some mp) ∧ DepMap W' mp t := hw'
              have hbx' := HBX.out.kept hg' (fun e => by injection e with e; omega)
              have g8 := hbx'.cell
              have g2 := (HCELL.out W' hg' w.heap.size 0 (by omega) (by omega)).trans y2
              have g3 := (HCELL.out W' hg' (w.heap.size + 1) 0 (by omega) (by omega)).trans y3
              have gx := (HCELL.out W' hg' bx 0 HXX.out.lt (by omega)).trans (HXX.out.cell 0 _ rfl)
              have gy := (HCELL.out W' hg' bx 1 HXX.out.lt (by omega)).trans (HXX.out.cell 1 _ rfl)
              have HG' := Lib.hid hg'
              have HD' := Lib.hid hd'
              clear hbx' y2 y3 yC
              go_simp
              all_goals
                refine (HAF.out W' HG'.out HD'.out).mono ?_
                rintro e w'' ⟨rfl, h1, h2⟩
                exact ⟨rfl, grown_trans HG'.out h1, h2⟩
            try simp only [Act.put, List.setIfInBounds_toArray, List.set_cons_succ, List.set_cons_zero]
          refine wpCls_nil ?_
          intro W' hw'
          obtain ⟨hg', hd'⟩ : W.grownBy W' (some mp) ∧ DepMap W' mp t := hw'
          have hbx' := HBX.out.kept hg' (fun e => by injection e with e; omega)
          have HBX' := Lib.hid hbx'
          have g8 := hbx'.cell
          have g9 := hbx'.frozen
          have g7 := hbx'.lt
          have gC := (HCELL.out W' hg' C 0 (by omega) HE5.out.ne)
          have HG' := Lib.hid hg'
          have HD' := Lib.hid hd'
          have HGC := Lib.hid gC
          simp only [List.drop_succ_cons, List.drop_zero]
          clear hg' hd' hbx' gC y2 y3 yC
          gi_wp2
          refine ⟨?_, ?_, by rw [HS.out]; exact HBX'.out.set _, grown_setNew (grown_trans HGR.out HG'.out) (Nat.le_refl _) _ _, HD'.out.set (by omega) _ _⟩
          · exact (KeepsFrom.of_grownBy HG'.out (fun j e => by injection e with e; simp; omega)).trans ((KeepsOthers.setCell _ _ _).from _)
          · exact (World.cell?_setCell_other _ _ _ _ (fun e => by injection e with e; omega)).trans HGC.out
        case done =>
          rintro D xs W hD rfl ⟨hbx, hgr, hdp⟩ hK
          have HDPT := Lib.hid (show minF 1024 (fun x => 1 + t.afterP x (bitsL s)) (testsL m) = t.depth (bitsL s) by
            rw [depth_prog (falls_of HOK.out fun a ha => by obtain ⟨i, _, hb, rfl⟩ := bitsL_mem.1 ha; exact ⟨i, rfl, HSUB.out i hb⟩) (by have := bitsL_len s; omega), HAL.out, HTE.out]
            rfl)
          rw [HDPT.out] at hbx
          obtain ⟨nb, hnb⟩ : ∃ nb, t.depth (bitsL s) = nb := ⟨_, rfl⟩
          rw [hnb] at hbx
          have HNB := Lib.hid hnb
          have HBX := Lib.hid hbx
          have HGR := Lib.hid hgr
          have HDP := Lib.hid hdp
          have HK := Lib.hid hK
          simp only [World.size_alloc] at hD
          have hgc : ∀ k o, k < w5.heap.size → k ≠ mp → W.cell? ⟨k, o, none⟩ = w5.cell? ⟨k, o, none⟩ := fun k o hk hne => cell_of_heap (hgr.block k hk (fun e => hne (Option.some.inj e))) o
          have y2 := (hgc w.heap.size 0 hz50 (by omega)).trans f2
          have y3 := (hgc (w.heap.size + 1) 0 hz5 (by omega)).trans f3
          have yC := (hgc C 4 v1 HE5.out.ne).trans (HE5.out.court.box.cell 4 _ rfl)
          have hsW := hgr.size
          clear hgc hbx hgr hdp hnb f2 f3 k3 hK
          gi_wp2
          refine wpIn_region_cls (openWide _) 6 [.pointer (some ⟨C, 0, none⟩), .pointer (some ⟨C, 0, none⟩), .pointer (some ⟨C, 4, none⟩), .map (some mp), .int .u64 (s : Int), .int .i64 nb] (fun W' => Below W.heap.size W W') (by kernel_rfl) (by kernel_rfl) rfl (Below.refl _ _).drew ?_
          iterate 6
            refine wpCls_do rfl (fun W' hw' => ?_) ?_
            · have hw' : Below W.heap.size W W' := hw'
              have g2 := (hw'.cell (p := ⟨w.heap.size, 0, none⟩) (show w.heap.size < W.heap.size by omega)).trans y2
              have g3 := (hw'.cell (p := ⟨w.heap.size + 1, 0, none⟩) (show w.heap.size + 1 < W.heap.size by omega)).trans y3
              have g4 := (hw'.cell (p := ⟨C, 4, none⟩) (show C < W.heap.size by omega)).trans yC
              have g8 := (hw'.cell (p := ⟨w5.heap.size, 0, none⟩) HBX.out.lt).trans HBX.out.cell
              clear y2 y3 yC
              go_simp
              done
            try simp only [Act.put, List.setIfInBounds_toArray, List.set_cons_succ, List.set_cons_zero]
          refine wpCls_nil ?_
          intro W' hw'
          have hb' : Below W.heap.size W W' := hw'
          have g8 := (hb'.cell (p := ⟨w5.heap.size, 0, none⟩) HBX.out.lt).trans HBX.out.cell
          obtain ⟨W2, hup, hg2, hs2, hd2⟩ := update_dep (HDP.out.mono hb') h64 HNB.out.symm
          have q8 := (cell_of_heap (hg2.block w5.heap.size (Nat.lt_of_lt_of_le HBX.out.lt hb'.size) (fun e => by injection e with e; omega)) 0).trans g8
          have HG2 := Lib.hid hg2
          have HD2 := Lib.hid hd2
          have HB' := Lib.hid hb'
          have hK2 := (hg2.block D (Nat.lt_of_lt_of_le (Array.getElem?_eq_some_iff.1 HK.out).1 hb'.size) (fun e => by injection e with e; omega)).trans ((hb'.block D (Array.getElem?_eq_some_iff.1 HK.out).1).trans HK.out)
          have HK2 := Lib.hid hK2
          simp only [List.drop_succ_cons, List.drop_zero]
          clear hw' hb' hg2 hd2 y2 y3 yC g8 hK2
          gi_wp2
          refine ⟨by simp, .inl ⟨_, _, rfl, run_takeDeferred HK2.out, ?_⟩⟩
          refine ⟨.int .i64 nb, by simp [results, Tryd.results28], by rw [HNB.out], ?_, ?_⟩
          · exact grown_put (grown_trans (grown_trans (grown_trans (grown_below HB5.out) HGR.out) (grown_below HB'.out)) HG2.out) (by omega) _
          · exact HD2.out.put (by omega) _
        case stop =>
          rintro D c pre W _ _ h _
          exact h.elim
      · have HZ := Lib.hid (HLT.out rfl)
        gi_wp2
        refine ⟨.int .i64 lv, by simp [results, Tryd.results28], ?_⟩
        exact ⟨by rw [HZ.out], grown_below HB5.out, HE5.out.dep⟩
theorem enough_any {W0 : World} {C mp s0 : Nat} {Aw Af : Option Addr} {cw cf : Nat} {t : Qt} (ok : t.Ok) : ∀ (k s : Nat), s < k → s < 64 → (∀ i : Nat, s.testBit i = true → i < t.nw) → EnoughAt W0 C mp s0 Aw Af cw cf t s
  | 0, s, h, _, _ => by omega
  | k + 1, s, h, h64, hsub => enough_step ok h64 hsub fun s' hs' hsub' => enough_any ok k s' (by omega) (by omega) hsub'
end Go.Proofs.YthnojgdckkdcgaaDoor

namespace Go.Proofs.YthnojgdckkdcgaaDoor
open Go.RowKit Go.Sort Go.Shelf
section
variable {P : Program} {ops : Array Oper} {md : Region.Mode} {F : Fence} {k : Nat}
end
end Go.Proofs.YthnojgdckkdcgaaDoor

namespace Go.Proofs.YthnojgdckkdcgaaDoor
open Go.RowKit Go.Sort Go.Shelf
theorem BoxAt.not_map {w : World} {a mp : Nat} {v : Value} {cs : List Value} {es : Array MapEntry} {clock : Nat} (h : BoxAt w a (v :: cs)) (hm : w.heap[mp]? = some (.map es clock)) : a ≠ mp := by
  intro e
  subst e
  have := h.cell 0 v rfl
  simp [World.cell?, hm] at this
theorem denv_ask {W0 w1 : World} {C mp s0 : Nat} {Aw Af : Option Addr} {cw cf : Nat} {t : Qt} (hb : Below W0.heap.size W0 w1) (hc : CourtAt w1 C Aw Af cw cf t s0 mp) (hm : w1.heap[mp]? = some (.map #[] 0)) (hT : QAt W0 Aw Af t) (hB : TabAt W0) (hbase : W0.heap.size ≤ mp) : DEnv W0 w1 C mp s0 Aw Af cw cf t :=
  ⟨hb, hc, DepMap.empty hm, hT, hB, hbase, hc.box.not_map hm⟩
/-- what Depth hands back -/
noncomputable def Qt.depthOut (t : Qt) : Int := if t.knowErr true = 0 then t.depth t.leftL else 0
set_option maxHeartbeats 2000000 in
set_option maxRecDepth 100000 in
theorem depthQ_any (Aw Af : Option Addr) (cw cf : Nat) (t : Qt) (w : World) (hs : t.Small) (hT : QAt w Aw Af t) (hB : TabAt w) :
    Calls Tryd.prog 12 #[.agg #[.int .i64 t.wells, .slice Aw t.nw cw, .slice Af t.nf cf]] w fun e w' => e = .returned (.tuple #[.int .i64 t.depthOut, .int .i64 (t.knowErr true)]) ∧ Below w.heap.size w w' := by
  have hb0 := bAlloc (Below.refl w.heap.size w) (.cells #[.int .i64 t.wells, .slice Aw t.nw cw, .slice Af t.nf cf] 39)
  have HT := Lib.hid (hT.mono hb0)
  have HTB := Lib.hid (hB.mono hb0)
  have HB := Lib.hid hb0
  clear hT hb0 hB
  by_cases he : t.knowErr true = 0
  · obtain ⟨ok, _, _⟩ := knowErr_zero he
    have HKE := Lib.hid he
    have HOK := Lib.hid ok
    obtain ⟨s, hsk⟩ : ∃ s, t.maskTo t.nw = s := ⟨_, rfl⟩
    have HBM := Lib.hid (show bitsL s = t.leftL by rw [← hsk]; exact bits_mask t ok.nw)
    have H64 := Lib.hid (show s < 64 by rw [← hsk]; exact mask_64 t ok.nw)
    have HSUB := Lib.hid (show ∀ i : Nat, s.testBit i = true → i < t.nw by rw [← hsk]; exact mask_sub)
    have HSK := Lib.hid hsk
    clear hsk ok he
    go_enter Tryd.func12, Tryd.ntmps12
    go_wp2_with fail
    refine (openQ_any _ _ _ _ t _ _ hs HT.out).mono ?_
    rintro e w1 ⟨⟨_, hk⟩, hb1⟩
    obtain ⟨C, mp, rfl, hc, _, hm, hbm⟩ := hk HKE.out
    rw [HSK.out] at hc
    have HD := Lib.hid (denv_ask hb1 hc hm HT.out HTB.out hbm)
    have x1 := hc.box.lt
    have y1 := hc.box.cell 3 _ rfl
    clear hk hc hb1 hm hbm
    go_wp2_with fail
    refine (enough_any HOK.out (s + 1) s (Nat.lt_succ_self s) H64.out HSUB.out w1 HD.out).mono ?_
    rintro e w2 ⟨rfl, hg, hd⟩
    have HD2 := Lib.hid (HD.out.step hg hd)
    clear hg hd
    go_wp2_with fail
    go_ret2
    refine ⟨?_, bTrans HB.out HD2.out.below⟩
    rw [HKE.out, HBM.out]
    unfold Qt.depthOut
    rw [if_pos HKE.out]
    rfl
  · have HDO := Lib.hid (show t.depthOut = 0 by unfold Qt.depthOut; rw [if_neg he])
    obtain ⟨er, her⟩ : ∃ er, t.knowErr true = er := ⟨_, rfl⟩
    have HKE := Lib.hid her
    rw [her] at he
    have HNZ := Lib.hid he
    have hd1 : decide (er = 0) = false := by simp [he]
    have hd2 : (er == 0) = false := by simp [he]
    clear he her
    go_enter Tryd.func12, Tryd.ntmps12
    go_wp2_with fail
    refine (openQ_any _ _ _ _ t _ _ hs HT.out).mono ?_
    rintro e w1 ⟨⟨hk, _⟩, hb1⟩
    rw [HKE.out] at hk
    obtain rfl := hk HNZ.out
    have HB1 := Lib.hid hb1
    clear hk hb1
    go_wp2_with fail
    go_ret2
    exact ⟨by rw [HDO.out, HKE.out]; rfl, bTrans HB.out HB1.out⟩
end Go.Proofs.YthnojgdckkdcgaaDoor

namespace Go.Proofs.YthnojgdckkdcgaaDoor
open Go.RowKit Go.Sort Go.Shelf
section
variable {P : Program} {ops : Array Oper} {md : Region.Mode} {n : Nat} {F : Fence} {Cl : Option Nat → World → Prop} {val : Nat → Value}
/-- the values of the first operations; none: a letter -/
def wpOne (P : Program) (ops : Array Oper) (Cl : Option Nat → World → Prop) (val : Nat → Value) (b : Nat) (Q : Act → Prop) : List Oper → List (Option Value) → Act → Prop
  | _, [], a => Q a
  | o :: rest, some c :: cs, a => (if Region.wanted o (yielded ops a.tmps) then ∀ ob w', Cl ob w' → clsAt P (Cl ob) o a w' c else c = undef) ∧ wpOne P ops Cl val b Q rest cs (a.put o.dst c)
  | o :: rest, none :: cs, a => (o.guard = none ∧ ∀ w', Cl none w' → ∃ b', clsAt P (Cl (some b')) o a w' (val b')) ∧ wpOne P ops Cl val b Q rest cs (a.put o.dst (val b))
  | [], _ :: _, _ => False
def oneV (val : Nat → Value) (b : Nat) (cs : List (Option Value)) (k : Nat) : Value :=
  match cs[k]? with
  | some (some c) => c
  | some none => val b
  | none => undef
theorem wpOne_nil {b : Nat} {Q : Act → Prop} {l : List Oper} {a : Act} (h : Q a) : wpOne P ops Cl val b Q l [] a := by cases l <;> exact h
theorem wpOne_do {b : Nat} {Q : Act → Prop} {o : Oper} {rest : List Oper} {c : Value} {cs : List (Option Value)} {a : Act} (hg : o.guard = none) (h1 : ∀ ob w', Cl ob w' → clsAt P (Cl ob) o a w' c) (h2 : wpOne P ops Cl val b Q rest cs (a.put o.dst c)) : wpOne P ops Cl val b Q (o :: rest) (some c :: cs) a := by
  refine ⟨?_, h2⟩
  unfold Region.wanted
  rw [hg, if_pos rfl]
  exact h1
theorem wpOne_new {b : Nat} {Q : Act → Prop} {o : Oper} {rest : List Oper} {cs : List (Option Value)} {a : Act} (hg : o.guard = none) (h1 : ∀ w', Cl none w' → ∃ b', clsAt P (Cl (some b')) o a w' (val b')) (h2 : wpOne P ops Cl val b Q rest cs (a.put o.dst (val b))) : wpOne P ops Cl val b Q (o :: rest) (none :: cs) a := ⟨⟨hg, h1⟩, h2⟩
theorem wpOne_at {b : Nat} {Q : Act → Prop} {cs0 : List (Option Value)} {a0 : Act} :
    ∀ (cs : List (Option Value)) (k : Nat) (l : List Oper), (∀ j, l[j]? = ops[k + j]?) → (∀ j, cs[j]? = cs0[k + j]?) → k + cs.length = cs0.length → wpOne P ops Cl val b Q l cs (frameOf ops (oneV val b cs0) (fun _ => true) a0 k) →
      (∀ j, k ≤ j → j < cs0.length → ∃ o, ops[j]? = some o ∧ ((cs0[j]? = some none → o.guard = none ∧ ∀ w', Cl none w' → ∃ b', clsAt P (Cl (some b')) o (frameOf ops (oneV val b cs0) (fun _ => true) a0 j) w' (val b')) ∧ (cs0[j]? ≠ some none → if Region.wanted o (yielded ops (frameOf ops (oneV val b cs0) (fun _ => true) a0 j).tmps) then ∀ ob w', Cl ob w' → clsAt P (Cl ob) o (frameOf ops (oneV val b cs0) (fun _ => true) a0 j) w' (oneV val b cs0 j) else oneV val b cs0 j = undef))) ∧ Q (frameOf ops (oneV val b cs0) (fun _ => true) a0 cs0.length)
  | [], k, l, _, hh, hn, H => by
    have e : k = cs0.length := by simpa using hn
    subst e
    exact ⟨fun j hj hj2 => by omega, by cases l <;> exact H⟩
  | c :: cs, k, [], hl, hh, hn, H => by cases c <;> exact H.elim
  | c :: cs, k, o :: l, hl, hh, hn, H => by
    have h0 : ops[k]? = some o := by simpa using (hl 0).symm
    have h1 : cs0[k]? = some c := by simpa using (hh 0).symm
    have step : ∀ v, oneV val b cs0 k = v → wpOne P ops Cl val b Q l cs ((frameOf ops (oneV val b cs0) (fun _ => true) a0 k).put o.dst v) → _ := fun v hv H2 => by
      have e1 : frameOf ops (oneV val b cs0) (fun _ => true) a0 (k + 1) = (frameOf ops (oneV val b cs0) (fun _ => true) a0 k).put o.dst v := by
        rw [frameOf, if_pos rfl]; simp [dstOf, h0, hv]
      exact wpOne_at cs (k + 1) l (fun j => by have := hl (j + 1); simpa [Nat.add_assoc, Nat.add_comm 1 j] using this) (fun j => by have := hh (j + 1); simpa [Nat.add_assoc, Nat.add_comm 1 j] using this) (by simp only [List.length_cons] at hn; omega) (by rw [e1]; exact H2)
    cases c with
    | some c =>
      have hv : oneV val b cs0 k = c := by unfold oneV; rw [h1]
      obtain ⟨H1, H2⟩ := H
      obtain ⟨g1, g2⟩ := step c hv H2
      refine ⟨fun j hj hj2 => ?_, g2⟩
      rcases Nat.eq_or_lt_of_le hj with e | e
      · subst e
        refine ⟨o, h0, ?_⟩
        refine ⟨fun e => (by rw [h1] at e; cases e), fun _ => ?_⟩
        rw [hv]
        exact H1
      · exact g1 j e hj2
    | none =>
      have hv : oneV val b cs0 k = val b := by unfold oneV; rw [h1]
      obtain ⟨H1, H2⟩ := H
      obtain ⟨g1, g2⟩ := step (val b) hv H2
      refine ⟨fun j hj hj2 => ?_, g2⟩
      rcases Nat.eq_or_lt_of_le hj with e | e
      · subst e
        refine ⟨o, h0, ?_⟩
        exact ⟨fun _ => H1, fun e => absurd h1 e⟩
      · exact g1 j e hj2
/-- the law -/
theorem wpIn_region_one {rid : Nat} {Q : Exit → Act → World → Prop} {a : Act} {w : World} {l : List Oper} (hF : Open F P) (m i0 : Nat) (cs : List (Option Value)) (Cl : Option Nat → World → Prop) (val : Nat → Value) (hm : P.follows .mixedOrders = true) (hB : (stirB .any l.toArray m && noDefer l.toArray) = true) (hn : cs.length = m)
    (hone : (List.range m).all (fun j => j == i0 || !((cs.map Option.isNone).getD j false)) = true) (hi0 : cs[i0]? = some none) (h0 : Cl none { w with drawn := w.drawn + 1 })
    (h : ∀ b, wpOne P l.toArray Cl val b (fun a' => ∀ w', Cl (some b) w' → wpListIn F n P l.toArray Q (l.drop m) a' w') l cs a) : (Code.region rid l.toArray true).wpIn F n P Q a w := by
  have hone' : ∀ j, cs[j]? = some none → j = i0 := fun j hj => by
    have hjm : j < m := by rw [← hn]; exact (List.getElem?_eq_some_iff.1 hj).1
    have := List.all_eq_true.1 hone j (List.mem_range.2 hjm)
    simp [List.getD, hj] at this
    exact this
  have hi0m : i0 < m := by rw [← hn]; exact (List.getElem?_eq_some_iff.1 hi0).1
  rw [Bool.and_eq_true] at hB
  obtain ⟨hB, hnd⟩ := hB
  unfold stirB at hB
  simp only [Bool.and_eq_true, decide_eq_true_eq, List.all_eq_true, List.mem_range, Bool.or_eq_true] at hB
  obtain ⟨⟨hord, hnl⟩, htail⟩ := hB
  have H := ordered_of hord
  have hsz : l.toArray.size = l.length := by simp
  have key0 := fun b => wpOne_at (P := P) (ops := l.toArray) (Cl := Cl) (val := val) (cs0 := cs) (a0 := a) cs 0 l (fun j => by simp) (fun j => by simp) (by omega) (h b)
  rw [hn] at key0
  have hVne : ∀ b b' k, k ≠ i0 → oneV val b cs k = oneV val b' cs k := fun b b' k hk => by
    unfold oneV
    cases e : cs[k]? with
    | none => rfl
    | some c => cases c with
      | none => exact absurd (hone' k e) hk
      | some c => rfl
  have hV0 : ∀ b, oneV val b cs i0 = val b := fun b => by unfold oneV; rw [hi0]
  have final : ∀ (b : Nat) (listed : Array Bool) (w' : World), Cl (some b) w' → (∀ j, j < m → listed.getD j false = true) → (∀ j, m ≤ j → listed.getD j false = false) → wpListIn F n P l.toArray Q (l.drop m) (frameOf l.toArray (oneV val b cs) (fun k => listed.getD k false) a l.toArray.size) w' := by
    intro b listed w' hc hall hno
    have e1 : frameOf l.toArray (oneV val b cs) (fun k => listed.getD k false) a m = frameOf l.toArray (oneV val b cs) (fun _ => true) a m := frameOf_congr m fun j hj => ⟨hall j hj, fun _ => rfl⟩
    have e2 : ∀ k, m ≤ k → frameOf l.toArray (oneV val b cs) (fun k => listed.getD k false) a k = frameOf l.toArray (oneV val b cs) (fun k => listed.getD k false) a m := by
      intro k
      induction k with
      | zero => intro hm'; obtain rfl : m = 0 := by omega
                rfl
      | succ k ih =>
        intro hm'
        rcases Nat.eq_or_lt_of_le hm' with e | e
        · rw [e]
        · rw [frameOf, ih (by omega), if_neg]; rw [hno k (by omega)]; exact Bool.false_ne_true
    rw [e2 _ hnl, e1]
    exact (key0 b).2 w' hc
  refine wpIn_region_any hm ?_
  refine wpAnyIn_inv (fun listed a' w' => ((∀ j, m ≤ j → listed.getD j false = false) ∧ ∃ b ob, (listed.getD i0 false = true → ob = some b) ∧ (listed.getD i0 false = false → ob = none) ∧ a' = frameOf l.toArray (oneV val b cs) (fun k => listed.getD k false) a l.toArray.size ∧ Cl ob w') ∨
      ∃ k, m ≤ k ∧ (∀ j, j < k → listed.getD j false = true) ∧ (∀ j, k ≤ j → listed.getD j false = false) ∧ wpListIn F n P l.toArray Q (l.drop k) a' w') ?_ ?_ _ _ _ _ (left_le _ _) Shut.none (.inl ⟨fun j _ => ?_, 0, none, fun h => ?_, fun _ => rfl, ?_, h0⟩)
  · intro listed a' w' i hsh hI hr
    obtain ⟨hun, oi, hoi, _⟩ := mem_ready.1 hr
    have hi : i < l.toArray.size := (Array.getElem?_eq_some_iff.1 hoi).1
    have hil : i < listed.size := by rw [hsh.size]; exact hi
    have hunf := listed_both hun
    have hset : (listed.setIfInBounds i true).getD i false = true := set_same hil false
    have tailstep : ∀ k, m ≤ k → (∀ j, j < k → listed.getD j false = true) → (∀ j, k ≤ j → listed.getD j false = false) → m ≤ i → wpListIn F n P l.toArray Q (l.drop k) a' w' →
        wpOpIn F n P l.toArray Q i (fun a'' w'' => ((∀ j, m ≤ j → (listed.setIfInBounds i true).getD j false = false) ∧ ∃ b ob, ((listed.setIfInBounds i true).getD i0 false = true → ob = some b) ∧ ((listed.setIfInBounds i true).getD i0 false = false → ob = none) ∧ a'' = frameOf l.toArray (oneV val b cs) (fun k => (listed.setIfInBounds i true).getD k false) a l.toArray.size ∧ Cl ob w'') ∨
          ∃ k, m ≤ k ∧ (∀ j, j < k → (listed.setIfInBounds i true).getD j false = true) ∧ (∀ j, k ≤ j → (listed.setIfInBounds i true).getD j false = false) ∧ wpListIn F n P l.toArray Q (l.drop k) a'' w'') a' w' := by
      intro k hnk hall hno hni hw
      have him : i = k := by
        rcases Nat.lt_trichotomy i k with h' | h' | h'
        · rw [hall i h'] at hunf; cases hunf
        · exact h'
        · have h1 := ((htail i hi).resolve_left (by omega)) k h'
          have h2 := reach_listed hsh 6 i k (fun j hj => waits_listed hr hj) h1
          rw [hno k (Nat.le_refl _)] at h2; cases h2
      subst him
      have hli : l[i]? = some oi := by simpa using hoi
      have hdrop : l.drop i = oi :: l.drop (i + 1) := by
        have hlt : i < l.length := by omega
        rw [List.drop_eq_getElem_cons hlt]
        congr 1
        rw [List.getElem?_eq_getElem hlt] at hli
        exact Option.some.inj hli
      rw [hdrop] at hw
      simp only [wpListIn] at hw
      have hall' : ∀ j, j < i + 1 → (listed.setIfInBounds i true).getD j false = true := fun j hj => by
        rcases Nat.lt_or_ge j i with h' | h'
        · rw [getD_set_ne false (by omega)]; exact hall j h'
        · obtain rfl : j = i := by omega
          exact hset
      have hno' : ∀ j, i + 1 ≤ j → (listed.setIfInBounds i true).getD j false = false := fun j hj => by
        rw [getD_set_ne false (by omega)]; exact hno j (by omega)
      unfold Go.wpOpIn
      simp only [hoi]
      split
      · rename_i hwt
        rw [if_pos hwt] at hw
        exact Oper.wpIn_mono (fun a'' w'' h'' => .inr ⟨i + 1, by omega, hall', hno', h''⟩) hw
      · rename_i hwt
        rw [if_neg hwt] at hw
        exact ⟨fun f _ => hF.fn f, .inr ⟨i + 1, by omega, hall', hno', by first | exact hw.2 | exact hw⟩⟩
    rcases hI with ⟨hno, b, ob, hob, hob', rfl, hc⟩ | ⟨k, hnk, hall, hno, hw⟩
    · rcases Nat.lt_or_ge i m with hin | hin
      · obtain ⟨o', ho', hask⟩ := (key0 b).1 i (Nat.zero_le _) hin
        obtain rfl : oi = o' := Option.some.inj (hoi.symm.trans ho')
        have hsee := H.sees (V := oneV val b cs) (V' := oneV val b cs) (M := fun _ => true) (a := a) hsh hoi hr (fun k _ hk => by cases hk) (fun _ _ => rfl)
        have hput : ∀ b', (∀ k, listed.getD k false = true → oneV val b cs k = oneV val b' cs k) → (frameOf l.toArray (oneV val b cs) (fun k => listed.getD k false) a l.toArray.size).put oi.dst (oneV val b' cs i) = frameOf l.toArray (oneV val b' cs) (fun k => (listed.setIfInBounds i true).getD k false) a l.toArray.size := fun b' hbb => by
          have e1 : dstOf l.toArray i = oi.dst := by simp [dstOf, hoi]
          rw [H.frame_put hsh hi hun, e1]
          congr 1
          exact frameOf_congr _ fun j _ => ⟨rfl, fun hj => hbb j hj⟩
        unfold Go.wpOpIn
        simp only [hoi]
        rw [wanted_of_slots hsee]
        by_cases hii : i = i0
        · subst hii
          obtain ⟨hg, hask⟩ := hask.1 hi0
          have hwt : Region.wanted oi (yielded l.toArray (frameOf l.toArray (oneV val b cs) (fun _ => true) a i).tmps) = true := by unfold Region.wanted; rw [hg]
          rw [if_pos hwt]
          obtain rfl := hob' hunf
          obtain ⟨b', h1⟩ := hask w' hc
          refine wpIn_of_cls hF (noDefer_spec hnd hoi) (Cl := Cl (some b')) (v := val b') ?_ fun w'' hc' => .inl ⟨fun j hj => by rw [getD_set_ne false (by omega)]; exact hno j hj, b', some b', fun _ => rfl, fun h => (by rw [hset] at h; cases h), ?_, hc'⟩
          · unfold clsAt at h1 ⊢
            rwa [exec_of_slots (ops := l.toArray) (fun cs b => Region.noSelect_spec H.sel i oi cs b hoi) hsee]
          · rw [← hV0 b']
            exact hput b' fun k hk => hVne b b' k fun e => by subst e; rw [hunf] at hk; cases hk
        · replace hask := hask.2 (fun e => hii (hone' i e))
          have hother : (listed.setIfInBounds i true).getD i0 false = listed.getD i0 false := getD_set_ne false hii
          have hnext : ∀ w'', Cl ob w'' → ((∀ j, m ≤ j → (listed.setIfInBounds i true).getD j false = false) ∧ ∃ b2 ob2, ((listed.setIfInBounds i true).getD i0 false = true → ob2 = some b2) ∧ ((listed.setIfInBounds i true).getD i0 false = false → ob2 = none) ∧ (frameOf l.toArray (oneV val b cs) (fun k => listed.getD k false) a l.toArray.size).put oi.dst (oneV val b cs i) = frameOf l.toArray (oneV val b2 cs) (fun k => (listed.setIfInBounds i true).getD k false) a l.toArray.size ∧ Cl ob2 w'') := fun w'' hc' =>
            ⟨fun j hj => by rw [getD_set_ne false (by omega)]; exact hno j hj, b, ob, fun h => hob (hother ▸ h), fun h => hob' (hother ▸ h), hput b fun _ _ => rfl, hc'⟩
          by_cases hwt : Region.wanted oi (yielded l.toArray (frameOf l.toArray (oneV val b cs) (fun _ => true) a i).tmps) = true
          · rw [if_pos hwt] at hask
            rw [if_pos hwt]
            refine wpIn_of_cls hF (noDefer_spec hnd hoi) (Cl := Cl ob) (v := oneV val b cs i) ?_ fun w'' hc' => .inl (hnext w'' hc')
            have h1 := hask ob w' hc
            unfold clsAt at h1 ⊢
            rwa [exec_of_slots (ops := l.toArray) (fun cs b => Region.noSelect_spec H.sel i oi cs b hoi) hsee]
          · rw [if_neg hwt] at hask
            rw [if_neg hwt]
            refine ⟨fun f _ => hF.fn f, .inl ?_⟩
            rw [← hask]
            exact hnext w' hc
      · have hall : ∀ j, j < m → listed.getD j false = true := fun j hj => reach_listed hsh 6 i j (fun k hk => waits_listed hr hk) (((htail i hi).resolve_left (by omega)) j (by omega))
        obtain rfl := hob (hall i0 hi0m)
        exact tailstep m (Nat.le_refl _) hall hno hin (final b listed w' hc hall hno)
    · have hni : m ≤ i := by
        rcases Nat.lt_or_ge i m with h' | h'
        · rw [hall i (by omega)] at hunf; cases hunf
        · exact h'
      exact tailstep k hnk hall hno hni hw
  · intro listed a' w' hsh hI hr
    have hall := H.all hsh hr
    rcases hI with ⟨hno, b, ob, hob, hob', rfl, hc⟩ | ⟨k, hnk, hall', hno, hw⟩
    · have hnn : m = l.length := by
        rcases Nat.lt_or_ge m l.length with h' | h'
        · have := hall m (by omega); rw [hno m (Nat.le_refl _)] at this; cases this
        · omega
      obtain rfl := hob (hall i0 (by omega))
      have := final b listed w' hc (fun j hj => hall j (by omega)) hno
      rw [hnn, List.drop_length] at this
      exact this
    · have hmm : l.length ≤ k := by
        rcases Nat.lt_or_ge k l.length with h' | h'
        · have := hall k (by omega); rw [hno k (Nat.le_refl _)] at this; cases this
        · exact h'
      rw [List.drop_eq_nil_of_le hmm] at hw
      exact hw
  · rcases Nat.lt_or_ge j l.length with h' | h' <;> simp [h']
  · rcases Nat.lt_or_ge i0 l.length with h' | h' <;> simp [h'] at h
  · refine (frameOf_none (fun k => ?_) _).symm
    rcases Nat.lt_or_ge k l.length with h' | h' <;> simp [h']
end
end Go.Proofs.YthnojgdckkdcgaaDoor

