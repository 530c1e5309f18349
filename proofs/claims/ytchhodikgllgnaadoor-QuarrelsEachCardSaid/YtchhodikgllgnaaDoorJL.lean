/- Parts joined. -/
import Derived.Test.YtchhodikgllgnaaDoorJH
import Derived.Test.YtchhodikgllgnaaDoorJK
import Derived.Test.YtchhodikgllgnaaDoorJJ
import Derived.Test.YtchhodikgllgnaaDoorJI
import Derived.Test.YtchhodikgllgnaaDoorJG
set_option linter.unusedSimpArgs false
set_option linter.unusedVariables false
/- Walks of the law 05: SameTests. Conditions: lengths are Go's. -/
namespace Go.Proofs.YtchhodikgllgnaaDoor
open Go.RowKit Go.Sort
set_option maxHeartbeats 2000000 in
set_option maxRecDepth 100000 in
theorem sameTests_any (A B : Option Addr) (c c' : Nat) (l l' : List Tp) (w : World) (h1 : l.length ≤ 100000) (h2 : l'.length ≤ 100000) (hA : RowAt w A (tstE.cells l)) (hB : RowAt w B (tstE.cells l')) :
    Calls Tryd.prog 24 #[.slice A l.length c, .slice B l'.length c'] w fun e w' => e = .returned (.bool (decide (l = l'))) ∧ Below w.heap.size w w' := by
  have HA := Lib.hid hA
  have HB := Lib.hid hB
  clear hA hB
  obtain ⟨n, hn⟩ : ∃ n, l.length = n := ⟨_, rfl⟩
  obtain ⟨m, hm⟩ : ∃ m, l'.length = m := ⟨_, rfl⟩
  rw [hn] at h1 ⊢
  rw [hm] at h2 ⊢
  have HN := Lib.hid hn
  have HM := Lib.hid hm
  clear hn hm
  by_cases he : n = m
  · subst he
    go_enter Tryd.func24, Tryd.ntmps24
    go_wp2_with fail
    go_loopw [5] (fun i wr => ∃ k : Nat, k ≤ n ∧ i = .int .i64 k ∧ (∀ k' : Nat, k' < k → l[k']? = l'[k']?) ∧ Below w.heap.size w wr) (fun i _ => n - (intOf i).toNat)
    case atStart => exact ⟨0, Nat.zero_le _, rfl, fun k' hk' => absurd hk' (Nat.not_lt_zero _), Below.refl _ _⟩
    case round =>
      obtain ⟨k, hk, rfl, hall, hbel⟩ := hrel
      have HL := Lib.hid hbel
      have HALL := Lib.hid hall
      clear hall hbel
      by_cases hlt : k < n
      · obtain ⟨x, hx⟩ : ∃ x, l[k]? = some x := ⟨_, List.getElem?_eq_getElem (by rw [HN.out]; exact hlt)⟩
        obtain ⟨y, hy⟩ : ∃ y, l'[k]? = some y := ⟨_, List.getElem?_eq_getElem (by rw [HM.out]; exact hlt)⟩
        obtain ⟨b, o, rfl, hb, c0, c1⟩ := SliceE.tst (HA.out.mono HL.out) hx
        obtain ⟨b2, o2, rfl, hb2, d0, d1⟩ := SliceE.tst (HB.out.mono HL.out) hy
        obtain ⟨p, q⟩ := x
        obtain ⟨p2, q2⟩ := y
        have k1 : (k : Int) < (n : Int) := by omega
        have k0 : (0 : Int) ≤ (k : Int) := by omega
        obtain ⟨bs, hbs⟩ : ∃ bs, sameT p q p2 q2 = bs := ⟨_, rfl⟩
        have HBS := Lib.hid (show decide (((p, q) : Tp) = (p2, q2)) = bs by rw [← sameT_nat, hbs])
        have HX := Lib.hid hx
        have HY := Lib.hid hy
        clear hx hy
        cases bs
        · have HNE := Lib.hid (show decide (l = l') = false by
            refine decide_eq_false fun e => ?_
            subst e
            have := HX.out.symm.trans HY.out
            injection this with this
            exact absurd this (of_decide_eq_false HBS.out))
          go_wp2_with fail
          refine wp_region_quiet_below (by kernel_rfl) (by kernel_rfl) ?_
          repeat (go_big_quiet_step ((fail)))
          refine wpQuiet_nil ?_
          intro w3 hw3
          have HB3 := Lib.hid (bTrans HL.out (below_of_regrown hw3))
          clear hw3
          go_wp2_with fail
          go_ret
          exact ⟨ret_bool (by rw [HNE.out]), HB3.out⟩
        · have HAX := Lib.hid (show ∀ k' : Nat, k' < k + 1 → l[k']? = l'[k']? from fun k' hk' => by
            rcases Nat.lt_or_ge k' k with h | h
            · exact HALL.out k' h
            · obtain rfl : k' = k := by omega
              rw [HX.out, HY.out, of_decide_eq_true HBS.out])
          go_wp2_with fail
          refine wp_region_quiet_below (by kernel_rfl) (by kernel_rfl) ?_
          repeat (go_big_quiet_step ((fail)))
          refine wpQuiet_nil ?_
          intro w3 hw3
          have HB3 := Lib.hid (bTrans HL.out (below_of_regrown hw3))
          clear hw3
          go_wp2_with fail
          go_roundw
          case rel =>
            first
            | exact ⟨k + 1, by omega, by go_num, HAX.out, HB3.out⟩
            | ((repeat apply Exists.intro)
               refine ⟨⟨k + 1, by omega, ?_, HAX.out, HB3.out⟩, rfl⟩
               go_num)
          case measure => simp [intOf]; omega
      · obtain rfl : k = n := by omega
        have HEQ := Lib.hid (show decide (l = l') = true by
          refine decide_eq_true (List.ext_getElem? fun i => ?_)
          rcases Nat.lt_or_ge i k with h | h
          · exact HALL.out i h
          · rw [List.getElem?_eq_none (by rw [HN.out]; exact h), List.getElem?_eq_none (by rw [HM.out]; exact h)])
        go_wp2_with fail
        go_ret
        exact ⟨ret_bool (by rw [HEQ.out]), HL.out⟩
  · have g0 : ((n : Int) == (m : Int)) = false := by simp; omega
    have g1 : ((n : Int) != (m : Int)) = true := by simp; omega
    have HNE := Lib.hid (show decide (l = l') = false from decide_eq_false fun e => he (by rw [← HN.out, ← HM.out, e]))
    clear he
    go_enter Tryd.func24, Tryd.ntmps24
    go_wp2_with fail
    go_ret
    exact ⟨ret_bool (by rw [HNE.out]), Below.refl _ _⟩
end Go.Proofs.YtchhodikgllgnaaDoor
/- Walks of the reference 05: Tests. Condition: at most 4 wells. -/
namespace Go.Proofs.YtchhodikgllgnaaDoor
open Go.RowKit Go.Sort
set_option maxHeartbeats 4000000 in
set_option maxRecDepth 100000 in
theorem tests5_any (Aw Af : Option Addr) (cw cf m : Nat) (t : Qt) (w : World) (hm : t.wells = (m : Int)) (m4 : m ≤ 4) :
    Calls Tryd.prog 81 #[.agg #[.int .i64 t.wells, .slice Aw t.nw cw, .slice Af t.nf cf]] w fun e w' => (∃ v, e = .returned v ∧ OwnE tstE w' w.heap.size v t.tests) ∧ Below w.heap.size w w' := by
  have HTE := Lib.hid (show t.tests = testsL m by unfold Qt.tests; rw [hm]; rfl)
  have HB := Lib.hid (bAlloc (Below.refl w.heap.size w) (.cells #[.int .i64 m, .slice Aw t.nw cw, .slice Af t.nf cf] 25))
  rw [HTE.out, hm]
  clear hm
  go_enter Tryd.func81, Tryd.ntmps81
  go_wp2_with fail
  go_loopw [3, 4] (fun v i wr => ∃ p : Nat, p ≤ m ∧ i = .int .i64 p ∧ OwnE tstE wr (w.heap.size + 1) v (testsTo m p 0) ∧ Below (w.heap.size + 1) (w.alloc (.cells #[.int .i64 m, .slice Aw t.nw cw, .slice Af t.nf cf] 25)) wr) (fun _ i _ => m - (intOf i).toNat)
  case atStart => exact ⟨0, Nat.zero_le _, rfl, OwnE.nil _ _ _, by have := Below.refl (w.alloc (.cells #[.int .i64 m, .slice Aw t.nw cw, .slice Af t.nf cf] 25)).heap.size (w.alloc (.cells #[.int .i64 m, .slice Aw t.nw cw, .slice Af t.nf cf] 25)); simpa using this⟩
  case round =>
    obtain ⟨p, hp, rfl, hown, hbel⟩ := hrel
    have HO := Lib.hid hown
    have HL := Lib.hid hbel
    have y0 := (hbel.cell (p := ⟨w.heap.size, 0, none⟩) (by show w.heap.size < w.heap.size + 1; omega)).trans (show _ = some (.int .i64 m) by simp [go_sem])
    have hz := hbel.size
    simp only [World.size_alloc] at hz
    have hy : w.heap.size < wr.heap.size := by omega
    clear hown hbel
    by_cases hpm : p < m
    · have p1 : (p : Int) < (m : Int) := by omega
      go_wp2_with fail
      clear y0 hz hy
      go_loopw [3, 5] (fun v i wx => ∃ q : Nat, q ≤ m ∧ i = .int .i64 q ∧ OwnE tstE wx (w.heap.size + 1) v (testsTo m p q) ∧ Below (w.heap.size + 1) (w.alloc (.cells #[.int .i64 m, .slice Aw t.nw cw, .slice Af t.nf cf] 25)) wx) (fun _ i _ => m - (intOf i).toNat)
      case atStart => exact ⟨0, Nat.zero_le _, rfl, HO.out, HL.out⟩
      case round =>
        obtain ⟨q, hq, rfl, hown, hbel⟩ := hrel
        have HO2 := Lib.hid hown
        have HL2 := Lib.hid hbel
        have y0 := (hbel.cell (p := ⟨w.heap.size, 0, none⟩) (by show w.heap.size < w.heap.size + 1; omega)).trans (show _ = some (.int .i64 m) by simp [go_sem])
        have hz := hbel.size
        simp only [World.size_alloc] at hz
        have hy : w.heap.size < wr.heap.size := by omega
        clear hown hbel
        by_cases hqm : q < m
        · have q1 : (q : Int) < (m : Int) := by omega
          have HLE := Lib.hid (show (testsTo m p q).length ≤ 100000 by rw [testsTo_len]; have : p * m ≤ 4 * 4 := Nat.mul_le_mul (by omega) m4; omega)
          go_wp2_with (at_builtin; refine wpList_snocE tstG _ rfl (Operand.tmp 18) (Operand.tmp 22) rfl (w.heap.size + 1) _ (testsTo m p q) (p, q) rfl ?q1 wr.heap.size rfl ?q2 HLE.out ?q4 ?_)
          case q1 => exact HO2.out.mono (bAlloc (Below.refl _ _) _)
          case q2 =>
            intro a u hu
            match a, hu with
            | 0, hu =>
              obtain rfl : Value.int .i64 p = u := by simpa [tstE] using hu
              simp [go_sem]
            | 1, hu =>
              obtain rfl : Value.int .i64 q = u := by simpa [tstE] using hu
              simp [go_sem]
          case q4 => simp; omega
          intro v' w5 hown5 hb5 _ _
          have HO5 := Lib.hid ((testsTo_snoc m p q) ▸ hown5)
          have HL5 := Lib.hid (hb5 (w.heap.size + 1) _ (Nat.le_refl _) (HL2.out.trans ((bAlloc (Below.refl wr.heap.size wr) _).mono (by omega))))
          clear hown5 hb5
          go_wp2_with fail
          go_roundw
          case rel =>
            first
            | exact ⟨q + 1, by omega, by go_num, HO5.out, HL5.out⟩
            | ((repeat apply Exists.intro)
               refine ⟨⟨q + 1, by omega, ?_, HO5.out, HL5.out⟩, rfl⟩
               go_num)
          case measure => simp [intOf]; omega
        · obtain rfl : q = m := by omega
          have HO5 := Lib.hid ((testsTo_row q p) ▸ HO2.out)
          go_wp2_with fail
          go_roundw
          case rel =>
            first
            | exact ⟨p + 1, by omega, by go_num, HO5.out, HL2.out⟩
            | ((repeat apply Exists.intro)
               refine ⟨⟨p + 1, by omega, ?_, HO5.out, HL2.out⟩, rfl⟩
               go_num)
          case measure => simp [intOf]; omega
    · obtain rfl : p = m := by omega
      have HO5 := Lib.hid ((testsTo_all p) ▸ HO.out)
      go_wp2_with fail
      go_ret
      exact ⟨⟨_, rfl, HO5.out.lower (by omega)⟩, bTrans HB.out (by have := HL.out; simpa using this)⟩
end Go.Proofs.YtchhodikgllgnaaDoor
/- Walks of the reference 05: Apart. Conditions: a valid town, a test and worlds of it. -/
namespace Go.Proofs.YtchhodikgllgnaaDoor
open Go.RowKit Go.Sort
set_option maxHeartbeats 2000000 in
theorem apart5_any (Aw Af : Option Addr) (cw cf : Nat) (t : Qt) (p q i j : Nat) (w : World) (ok : t.Ok) (hT : QAt w Aw Af t) (hp : (p : Int) < t.wells) (hq : (q : Int) < t.wells) (hi : i < t.nw) (hj : j < t.nw) :
    Calls Tryd.prog 120 #[.agg #[.int .i64 t.wells, .slice Aw t.nw cw, .slice Af t.nf cf], .agg #[.int .i64 p, .int .i64 q], .int .i64 i, .int .i64 j] w fun e w' => e = .returned (.bool (t.apart (p, q) i j)) ∧ Below w.heap.size w w' := by
  have hb0 := bAlloc (bAlloc (Below.refl w.heap.size w) (.cells #[.int .i64 t.wells, .slice Aw t.nw cw, .slice Af t.nf cf] 25)) (.cells #[.int .i64 p, .int .i64 q] 27)
  have HB := Lib.hid hb0
  obtain ⟨u, hu⟩ : ∃ u, t.F (i : Int) (p, q) = u := ⟨_, rfl⟩
  obtain ⟨v, hv⟩ : ∃ v, t.F (j : Int) (p, q) = v := ⟨_, rfl⟩
  have HF1 := Lib.hid (fun (w' : World) (hb : Below ((w.alloc (.cells #[.int .i64 t.wells, .slice Aw t.nw cw, .slice Af t.nf cf] 25)).alloc (.cells #[.int .i64 p, .int .i64 q] 27)).heap.size ((w.alloc (.cells #[.int .i64 t.wells, .slice Aw t.nw cw, .slice Af t.nf cf] 25)).alloc (.cells #[.int .i64 p, .int .i64 q] 27)) w') => (hu ▸ fallAt_F t i p q ▸ fall5_any Aw Af cw cf t i p q w' ok hi hp hq ((hT.mono hb0).mono hb) : Calls Tryd.prog 63 #[.agg #[.int .i64 t.wells, .slice Aw t.nw cw, .slice Af t.nf cf], .int .i64 i, .int .i64 p, .int .i64 q] w' fun e w'' => e = .returned (.int .i64 u) ∧ Below w'.heap.size w' w''))
  have HF2 := Lib.hid (fun (w' : World) (hb : Below ((w.alloc (.cells #[.int .i64 t.wells, .slice Aw t.nw cw, .slice Af t.nf cf] 25)).alloc (.cells #[.int .i64 p, .int .i64 q] 27)).heap.size ((w.alloc (.cells #[.int .i64 t.wells, .slice Aw t.nw cw, .slice Af t.nf cf] 25)).alloc (.cells #[.int .i64 p, .int .i64 q] 27)) w') => (hv ▸ fallAt_F t j p q ▸ fall5_any Aw Af cw cf t j p q w' ok hj hp hq ((hT.mono hb0).mono hb) : Calls Tryd.prog 63 #[.agg #[.int .i64 t.wells, .slice Aw t.nw cw, .slice Af t.nf cf], .int .i64 j, .int .i64 p, .int .i64 q] w' fun e w'' => e = .returned (.int .i64 v) ∧ Below w'.heap.size w' w''))
  have HR := Lib.hid (show t.apart (p, q) i j = (u != v) by unfold Qt.apart; rw [hu, hv])
  clear hb0 hT ok hu hv hp hq hi hj
  go_enter Tryd.func120, Tryd.ntmps120
  go_wp2_with fail
  refine wp_region_quiet_below (by kernel_rfl) (by kernel_rfl) ?_
  repeat (go_big_quiet_step (((first | (go_at_call 63; with_reducible exact Calls.regrown_of (HF1.out _ (below_regrown _ _ _))) | (go_at_call 63; with_reducible exact Calls.regrown_of (HF2.out _ (below_regrown _ _ _)))))))
  refine wpQuiet_nil ?_
  intro w9 hw9
  have HB9 := Lib.hid (bTrans HB.out (below_of_regrown hw9))
  clear hw9
  go_wp2_with fail
  go_ret
  exact ⟨ret_bool (by rw [HR.out]), HB9.out⟩
end Go.Proofs.YtchhodikgllgnaaDoor
/- Walks of the reference 05: some. Conditions: a valid town, tests and worlds of it. -/
namespace Go.Proofs.YtchhodikgllgnaaDoor
open Go.RowKit Go.Sort
set_option maxHeartbeats 2000000 in
set_option maxRecDepth 100000 in
theorem some5_any (Aw Af A : Option Addr) (cw cf c : Nat) (t : Qt) (l : List Tp) (i j : Nat) (w : World) (ok : t.Ok) (hT : QAt w Aw Af t) (hl : t.TestsOk l) (hlen : l.length ≤ 100000) (hA : RowAt w A (tstE.cells l)) (hi : i < t.nw) (hj : j < t.nw) :
    Calls Tryd.prog 84 #[.agg #[.int .i64 t.wells, .slice Aw t.nw cw, .slice Af t.nf cf], .slice A l.length c, .int .i64 i, .int .i64 j] w fun e w' => e = .returned (.bool (t.someB l i j)) ∧ Below w.heap.size w w' := by
  have hb0 := bAlloc (Below.refl w.heap.size w) (.cells #[.int .i64 t.wells, .slice Aw t.nw cw, .slice Af t.nf cf] 25)
  have HB := Lib.hid hb0
  have HT := Lib.hid (hT.mono hb0)
  have HA := Lib.hid (hA.mono hb0)
  have HOK := Lib.hid ok
  have HLO := Lib.hid hl
  have HI := Lib.hid hi
  have HJ := Lib.hid hj
  obtain ⟨n, hn⟩ : ∃ n, l.length = n := ⟨_, rfl⟩
  rw [hn] at hlen ⊢
  have HN := Lib.hid hn
  clear hb0 hT hA ok hl hi hj hn
  go_enter Tryd.func84, Tryd.ntmps84
  go_wp2_with fail
  go_loopw [9] (fun s wr => ∃ k : Nat, k ≤ n ∧ s = .int .i64 k ∧ t.someB (l.take k) i j = false ∧ Below (w.alloc (.cells #[.int .i64 t.wells, .slice Aw t.nw cw, .slice Af t.nf cf] 25)).heap.size (w.alloc (.cells #[.int .i64 t.wells, .slice Aw t.nw cw, .slice Af t.nf cf] 25)) wr) (fun s _ => n - (intOf s).toNat)
  case atStart => exact ⟨0, Nat.zero_le _, rfl, rfl, Below.refl _ _⟩
  case round =>
    obtain ⟨k, hk, rfl, hno, hbel⟩ := hrel
    have HNO := Lib.hid hno
    have HL := Lib.hid hbel
    obtain ⟨bc3, bf3⟩ := bcell hbel
    have hz3 := hbel.size
    simp only [World.size_alloc] at hz3
    have hy3 : w.heap.size < wr.heap.size := by omega
    clear hbel hno
    by_cases hlt : k < n
    · obtain ⟨x, hx⟩ : ∃ x, l[k]? = some x := ⟨_, List.getElem?_eq_getElem (by rw [HN.out]; exact hlt)⟩
      obtain ⟨b, o, rfl, hb, c0, c1⟩ := SliceE.tst (HA.out.mono HL.out) hx
      have hxo := HLO.out x (List.mem_of_getElem? hx)
      obtain ⟨p, q⟩ := x
      have k1 : (k : Int) < (n : Int) := by omega
      have k0 : (0 : Int) ≤ (k : Int) := by omega
      obtain ⟨ba, hba⟩ : ∃ ba, t.apart (p, q) i j = ba := ⟨_, rfl⟩
      have HF := Lib.hid (fun (w' : World) (hb : Below wr.heap.size wr w') => (hba ▸ apart5_any Aw Af cw cf t p q i j w' HOK.out ((HT.out.mono HL.out).mono hb) hxo.1 hxo.2 HI.out HJ.out : Calls Tryd.prog 120 #[.agg #[.int .i64 t.wells, .slice Aw t.nw cw, .slice Af t.nf cf], .agg #[.int .i64 p, .int .i64 q], .int .i64 i, .int .i64 j] w' fun e w'' => e = .returned (.bool ba) ∧ Below w'.heap.size w' w''))
      have HST := Lib.hid (show t.someB (l.take (k + 1)) i j = ba by
        have h := HNO.out
        unfold Qt.someB at h ⊢
        rw [List.take_add_one, hx, List.any_append, h]
        simp [hba])
      have HIN := Lib.hid (show ba = true → t.someB l i j = true from fun e => by
        unfold Qt.someB
        rw [List.any_eq_true]
        exact ⟨_, List.mem_of_getElem? hx, by rw [hba]; exact e⟩)
      clear hx hxo hba
      go_wp2_with fail
      refine wp_region_quiet_below (by kernel_rfl) (by kernel_rfl) ?_
      repeat (go_big_quiet_step (((go_at_call 120; with_reducible exact Calls.regrown_of (HF.out _ (below_regrown _ _ _))))))
      refine wpQuiet_nil ?_
      intro w9 hw9
      have HL9 := Lib.hid (bTrans HL.out (below_of_regrown hw9))
      clear hw9
      cases ba
      · go_wp2_with fail
        go_roundw
        case rel =>
          first
          | exact ⟨k + 1, by omega, by go_num, HST.out, HL9.out⟩
          | ((repeat apply Exists.intro)
             refine ⟨⟨k + 1, by omega, ?_, HST.out, HL9.out⟩, rfl⟩
             go_num)
        case measure => simp [intOf]; omega
      · have HY := Lib.hid (HIN.out (by trivial))
        go_wp2_with fail
        go_ret
        exact ⟨ret_bool (by rw [HY.out]), bTrans HB.out HL9.out⟩
    · obtain rfl : k = n := by omega
      have HZ := Lib.hid (show t.someB l i j = false by have := HNO.out; rwa [List.take_of_length_le (by rw [HN.out]; exact Nat.le_refl _)] at this)
      go_wp2_with fail
      go_ret
      exact ⟨ret_bool (by rw [HZ.out]), bTrans HB.out HL.out⟩
end Go.Proofs.YtchhodikgllgnaaDoor
/- Walks of the reference 05: Shown. Conditions: a valid town, a test and worlds of it. -/
namespace Go.Proofs.YtchhodikgllgnaaDoor
open Go.RowKit Go.Sort
set_option maxHeartbeats 3000000 in
set_option maxRecDepth 100000 in
theorem shown5_any (Aw Af A : Option Addr) (cw cf c : Nat) (t : Qt) (p q : Nat) (L : List Int) (f : Int) (w : World) (ok : t.Ok) (hT : QAt w Aw Af t) (hp : (p : Int) < t.wells) (hq : (q : Int) < t.wells) (hL : ∀ a, a ∈ L → ∃ i : Nat, i < t.nw ∧ a = i) (hlen : L.length ≤ 100) (hA : RowAt w A (numL L)) :
    Calls Tryd.prog 47 #[.agg #[.int .i64 t.wells, .slice Aw t.nw cw, .slice Af t.nf cf], .agg #[.int .i64 p, .int .i64 q], .slice A L.length c, .int .i64 f] w fun e w' => (∃ v, e = .returned v ∧ OwnL w' w.heap.size v (t.shown (p, q) L f)) ∧ Below w.heap.size w w' := by
  have hb0 := bAlloc (bAlloc (Below.refl w.heap.size w) (.cells #[.int .i64 t.wells, .slice Aw t.nw cw, .slice Af t.nf cf] 25)) (.cells #[.int .i64 p, .int .i64 q] 27)
  have HB := Lib.hid hb0
  have HT := Lib.hid (hT.mono hb0)
  have HA := Lib.hid (hA.mono hb0)
  have HOK := Lib.hid ok
  have HLL := Lib.hid hL
  have HP := Lib.hid hp
  have HQ := Lib.hid hq
  obtain ⟨n, hn⟩ : ∃ n, L.length = n := ⟨_, rfl⟩
  rw [hn] at hlen ⊢
  have HN := Lib.hid hn
  clear hb0 hT hA ok hL hp hq hn
  go_enter Tryd.func47, Tryd.ntmps47
  go_wp2_with fail
  go_loopw [9, 10] (fun v s wr => ∃ k : Nat, k ≤ n ∧ s = .int .i64 k ∧ OwnL wr ((w.alloc (.cells #[.int .i64 t.wells, .slice Aw t.nw cw, .slice Af t.nf cf] 25)).alloc (.cells #[.int .i64 p, .int .i64 q] 27)).heap.size v (t.shown (p, q) (L.take k) f) ∧ Below ((w.alloc (.cells #[.int .i64 t.wells, .slice Aw t.nw cw, .slice Af t.nf cf] 25)).alloc (.cells #[.int .i64 p, .int .i64 q] 27)).heap.size ((w.alloc (.cells #[.int .i64 t.wells, .slice Aw t.nw cw, .slice Af t.nf cf] 25)).alloc (.cells #[.int .i64 p, .int .i64 q] 27)) wr) (fun _ s _ => n - (intOf s).toNat)
  case atStart => exact ⟨0, Nat.zero_le _, rfl, OwnL.nil _ _, Below.refl _ _⟩
  case round =>
    obtain ⟨k, hk, rfl, hown, hbel⟩ := hrel
    have HO := Lib.hid hown
    have HL := Lib.hid hbel
    obtain ⟨bc3, bf3⟩ := bcell hbel
    have hz3 := hbel.size
    simp only [World.size_alloc] at hz3
    have hy3 : w.heap.size < wr.heap.size := by omega
    have hy4 : w.heap.size + 1 < wr.heap.size := by omega
    clear hbel hown
    by_cases hlt : k < n
    · obtain ⟨a, ha⟩ : ∃ a, L[k]? = some a := ⟨_, List.getElem?_eq_getElem (by rw [HN.out]; exact hlt)⟩
      obtain ⟨x, hx, rfl⟩ := HLL.out a (List.mem_of_getElem? ha)
      obtain ⟨bs, os, hAs, hbs, cs⟩ := (HA.out.mono HL.out).num ha
      subst hAs
      have k1 : (k : Int) < (n : Int) := by omega
      have k0 : (0 : Int) ≤ (k : Int) := by omega
      obtain ⟨v, hv⟩ : ∃ v, t.F (x : Int) (p, q) = v := ⟨_, rfl⟩
      have HF := Lib.hid (fun (w' : World) (hb : Below wr.heap.size wr w') => (hv ▸ fallAt_F t x p q ▸ fall5_any Aw Af cw cf t x p q w' HOK.out hx HP.out HQ.out ((HT.out.mono HL.out).mono hb) : Calls Tryd.prog 63 #[.agg #[.int .i64 t.wells, .slice Aw t.nw cw, .slice Af t.nf cf], .int .i64 x, .int .i64 p, .int .i64 q] w' fun e w'' => e = .returned (.int .i64 v) ∧ Below w'.heap.size w' w''))
      obtain ⟨bg, hbg⟩ : ∃ bg, (v == f) = bg := ⟨_, rfl⟩
      have HST := Lib.hid (show t.shown (p, q) (L.take (k + 1)) f = t.shown (p, q) (L.take k) f ++ (if bg then [(x : Int)] else []) by
        unfold Qt.shown
        rw [List.take_add_one, ha, List.filter_append]
        congr 1
        simp [hv, hbg, List.filter_cons])
      have HLE := Lib.hid (show (t.shown (p, q) (L.take k) f).length ≤ 1000 by unfold Qt.shown; have h1 := List.length_filter_le (fun w => t.F w (p, q) == f) (L.take k); have h2 := List.length_take_le k L; omega)
      clear ha hx hv
      go_wp2_with fail
      refine wp_region_quiet_below (by kernel_rfl) (by kernel_rfl) ?_
      repeat (go_big_quiet_step (((go_at_call 63; with_reducible exact Calls.regrown_of (HF.out _ (below_regrown _ _ _))))))
      refine wpQuiet_nil ?_
      intro w9 hw9
      have hb9 := below_of_regrown hw9
      have HO9 := Lib.hid (HO.out.mono hb9)
      have HL9 := Lib.hid (bTrans HL.out hb9)
      have hz9 := HL9.out.size
      have c9 := (hb9.cell (p := ⟨bs, os + k, none⟩) hbs).trans cs
      have hb99 := Nat.lt_of_lt_of_le hbs hb9.size
      simp only [World.size_alloc] at hz9
      clear hw9 hb9 bc3 bf3 cs hbs
      cases bg
      · have HS := Lib.hid (show t.shown (p, q) (L.take (k + 1)) f = t.shown (p, q) (L.take k) f by rw [HST.out]; simp)
        go_wp2_with fail
        go_roundw
        case rel =>
          first
          | exact ⟨k + 1, by omega, by go_num, by rw [HS.out]; exact HO9.out, HL9.out⟩
          | ((repeat apply Exists.intro)
             refine ⟨⟨k + 1, by omega, ?_, by rw [HS.out]; exact HO9.out, HL9.out⟩, rfl⟩
             go_num)
        case measure => simp [intOf]; omega
      · have HS := Lib.hid (show t.shown (p, q) (L.take (k + 1)) f = t.shown (p, q) (L.take k) f ++ [(x : Int)] by rw [HST.out]; simp)
        go_wp2_with (at_builtin; refine wpList_snoc _ rfl (Operand.tmp 29) (Operand.tmp 34) rfl (w.heap.size + 1 + 1) _ (t.shown (p, q) (L.take k) f) rfl ?q1 w9.heap.size x rfl ?q2 HLE.out ?q3 ?_)
        case q1 =>
          have h := HO9.out
          simp only [World.size_alloc] at h
          exact h.mono (bAlloc (Below.refl _ _) _)
        case q3 => first | omega | (simp <;> omega) | simp [go_sem]
        intro v' w5 hown5 hb5
        have HO5 := Lib.hid hown5
        have HL5 := Lib.hid (hb5 (w.heap.size + 1 + 1) _ (Nat.le_refl _) (show Below (w.heap.size + 1 + 1) ((w.alloc (.cells #[.int .i64 t.wells, .slice Aw t.nw cw, .slice Af t.nf cf] 25)).alloc (.cells #[.int .i64 p, .int .i64 q] 27)) _ by have := bAlloc HL9.out (.cells #[.int .i64 x] 3); simpa using this))
        clear hown5 hb5
        go_wp2_with fail
        go_roundw
        case rel =>
          have h1 := HO5.out
          have h2 := HL5.out
          first
          | exact ⟨k + 1, by omega, by go_num, by rw [HS.out]; simpa using h1, by simpa using h2⟩
          | ((repeat apply Exists.intro)
             refine ⟨⟨k + 1, by omega, ?_, by rw [HS.out]; simpa using h1, by simpa using h2⟩, rfl⟩
             go_num)
        case measure => simp [intOf]; omega
    · obtain rfl : k = n := by omega
      have HZ := Lib.hid (show t.shown (p, q) (L.take k) f = t.shown (p, q) L f by rw [List.take_of_length_le (by rw [HN.out]; exact Nat.le_refl _)])
      have HO5 := Lib.hid (HZ.out ▸ HO.out)
      go_wp2_with fail
      go_ret
      exact ⟨⟨_, rfl, HO5.out.lower (by simp; omega)⟩, bTrans HB.out HL.out⟩
end Go.Proofs.YtchhodikgllgnaaDoor
/- Walks of the reference 05: AllApart. Conditions: a valid town, tests and worlds of it. -/
namespace Go.Proofs.YtchhodikgllgnaaDoor
open Go.RowKit Go.Sort
set_option maxHeartbeats 4000000 in
set_option maxRecDepth 100000 in
theorem allApart5_any (Aw Af A B : Option Addr) (cw cf c cl : Nat) (t : Qt) (l : List Tp) (L : List Int) (w : World) (ok : t.Ok) (hT : QAt w Aw Af t) (hl : t.TestsOk l) (hll : l.length ≤ 100000) (hA : RowAt w A (tstE.cells l)) (hL : ∀ a, a ∈ L → ∃ i : Nat, i < t.nw ∧ a = i) (hlen : L.length ≤ 100) (hB : RowAt w B (numL L)) :
    Calls Tryd.prog 29 #[.agg #[.int .i64 t.wells, .slice Aw t.nw cw, .slice Af t.nf cf], .slice A l.length c, .slice B L.length cl] w fun e w' => e = .returned (.bool (t.allApart l L)) ∧ Below w.heap.size w w' := by
  have hb0 := bAlloc (Below.refl w.heap.size w) (.cells #[.int .i64 t.wells, .slice Aw t.nw cw, .slice Af t.nf cf] 25)
  have HB0 := Lib.hid hb0
  have HT := Lib.hid (hT.mono hb0)
  have HA := Lib.hid (hA.mono hb0)
  have HBR := Lib.hid (hB.mono hb0)
  have HOK := Lib.hid ok
  have HLO := Lib.hid hl
  have HLL := Lib.hid hL
  obtain ⟨m, hm⟩ : ∃ m : Nat, t.wells = (m : Int) := ⟨t.wells.toNat, by have := ok.w0; omega⟩
  have m4 : m ≤ 4 := by have := ok.w1; omega
  have HTS := Lib.hid (fun w' => tests5_any Aw Af cw cf m t w' hm m4)
  have HTL := Lib.hid (show t.tests.length ≤ 100000 by unfold Qt.tests; rw [testsL_len, hm, Int.toNat_natCast]; have : m * m ≤ 4 * 4 := Nat.mul_le_mul m4 m4; omega)
  have HTO := Lib.hid (show t.TestsOk t.tests from fun x hx => by
    have := testsL_mem.1 hx
    have := ok.w0
    omega)
  obtain ⟨n, hn⟩ : ∃ n, L.length = n := ⟨_, rfl⟩
  obtain ⟨nl, hnl⟩ : ∃ nl, l.length = nl := ⟨_, rfl⟩
  have HALL := Lib.hid (show t.allApart l L = !anyB (fun i => anyB (fun k => t.someB t.tests (intL0 L i) (intL0 L k) && !t.someB l (intL0 L i) (intL0 L k)) i) n by unfold Qt.allApart; rw [hn])
  rw [hn] at hlen ⊢
  rw [hnl] at hll ⊢
  have HN := Lib.hid hn
  have HNL := Lib.hid hnl
  clear hb0 hT hA hB ok hl hL hn hnl hm
  go_enter Tryd.func29, Tryd.ntmps29
  go_wp2_with fail
  refine (HTS.out _).mono ?_
  rintro e w1 ⟨⟨v, rfl, hv⟩, hb1⟩
  obtain ⟨At, ct, rfl, hrt⟩ := hv.read
  obtain ⟨nt, hnt⟩ : ∃ nt, t.tests.length = nt := ⟨_, rfl⟩
  rw [hnt]
  have HNT := Lib.hid hnt
  have HRT := Lib.hid hrt
  have HB1 := Lib.hid hb1
  clear hv hrt hb1 hnt
  go_wp2_with fail
  go_loopw [8] (fun s wr => ∃ i : Nat, i ≤ n ∧ s = .int .i64 i ∧ anyB (fun i => anyB (fun k => t.someB t.tests (intL0 L i) (intL0 L k) && !t.someB l (intL0 L i) (intL0 L k)) i) i = false ∧ Below w1.heap.size w1 wr) (fun s _ => n - (intOf s).toNat)
  case atStart => exact ⟨0, Nat.zero_le _, rfl, rfl, Below.refl _ _⟩
  case round =>
    obtain ⟨i, hi, rfl, hno, hbel⟩ := hrel
    have HNO := Lib.hid hno
    have HL := Lib.hid hbel
    clear hno hbel
    by_cases hlt : i < n
    · have i1 : (i : Int) < (n : Int) := by omega
      go_wp2_with fail
      go_loopw [9] (fun s wx => ∃ k : Nat, k ≤ i ∧ s = .int .i64 k ∧ anyB (fun k => t.someB t.tests (intL0 L i) (intL0 L k) && !t.someB l (intL0 L i) (intL0 L k)) k = false ∧ Below w1.heap.size w1 wx) (fun s _ => i - (intOf s).toNat)
      case atStart => exact ⟨0, Nat.zero_le _, rfl, rfl, HL.out⟩
      case round =>
        obtain ⟨k, hk, rfl, hno, hbel⟩ := hrel
        have HNK := Lib.hid hno
        have HX := Lib.hid hbel
        have HXB := Lib.hid (bTrans HB1.out hbel)
        obtain ⟨bc3, bf3⟩ := bcell (bTrans HB1.out hbel)
        have hz3 := (bTrans HB1.out hbel).size
        simp only [World.size_alloc] at hz3
        have hy3 : w.heap.size < wr.heap.size := by omega
        clear hno hbel
        by_cases hlk : k < i
        · obtain ⟨a, ha⟩ : ∃ a, L[i]? = some a := ⟨_, List.getElem?_eq_getElem (by rw [HN.out]; exact hlt)⟩
          obtain ⟨b, hb⟩ : ∃ b, L[k]? = some b := ⟨_, List.getElem?_eq_getElem (by rw [HN.out]; omega)⟩
          obtain ⟨x, hx, rfl⟩ := HLL.out a (List.mem_of_getElem? ha)
          obtain ⟨y, hy, rfl⟩ := HLL.out b (List.mem_of_getElem? hb)
          obtain ⟨bs, os, hBs, hbs, cs⟩ := (HBR.out.mono HXB.out).num ha
          obtain ⟨bs2, os2, hBs2, _, cs2⟩ := (HBR.out.mono HXB.out).num hb
          subst hBs
          simp only [Option.some.injEq, Addr.mk.injEq, and_true] at hBs2
          obtain ⟨rfl, rfl⟩ := hBs2
          have e1 : intL0 L i = (x : Int) := by unfold intL0; rw [ha]; rfl
          have e2 : intL0 L k = (y : Int) := by unfold intL0; rw [hb]; rfl
          obtain ⟨b1, h1⟩ : ∃ b1, t.someB t.tests x y = b1 := ⟨_, rfl⟩
          obtain ⟨b2, h2⟩ : ∃ b2, t.someB l x y = b2 := ⟨_, rfl⟩
          have HS1 := Lib.hid (fun (w' : World) (hb : Below wr.heap.size wr w') => (by
            have := some5_any Aw Af At cw cf ct t t.tests x y w' HOK.out ((HT.out.mono HXB.out).mono hb) HTO.out HTL.out ((HRT.out.mono HX.out).mono hb) hx hy
            rw [HNT.out, h1] at this
            exact this : Calls Tryd.prog 84 #[.agg #[.int .i64 t.wells, .slice Aw t.nw cw, .slice Af t.nf cf], .slice At nt ct, .int .i64 x, .int .i64 y] w' fun e w'' => e = .returned (.bool b1) ∧ Below w'.heap.size w' w''))
          have HS2 := Lib.hid (fun (w' : World) (hb : Below wr.heap.size wr w') => (by
            have := some5_any Aw Af A cw cf c t l x y w' HOK.out ((HT.out.mono HXB.out).mono hb) HLO.out (by rw [HNL.out]; exact hll) ((HA.out.mono HXB.out).mono hb) hx hy
            rw [HNL.out, h2] at this
            exact this : Calls Tryd.prog 84 #[.agg #[.int .i64 t.wells, .slice Aw t.nw cw, .slice Af t.nf cf], .slice A nl c, .int .i64 x, .int .i64 y] w' fun e w'' => e = .returned (.bool b2) ∧ Below w'.heap.size w' w''))
          have HST := Lib.hid (show (fun k => t.someB t.tests (intL0 L i) (intL0 L k) && !t.someB l (intL0 L i) (intL0 L k)) k = (b1 && !b2) by
            show (t.someB t.tests (intL0 L i) (intL0 L k) && !t.someB l (intL0 L i) (intL0 L k)) = _
            rw [e1, e2, h1, h2])
          have k1 : (k : Int) < (i : Int) := by omega
          have k2 : (k : Int) < (n : Int) := by omega
          have k0 : (0 : Int) ≤ (k : Int) := by omega
          have i0 : (0 : Int) ≤ (i : Int) := by omega
          clear ha hb hx hy e1 e2 h1 h2
          rcases two_ways b1 b2 with rfl | ⟨rfl, rfl⟩ | ⟨rfl, rfl⟩
          all_goals
            go_wp2_with fail
            refine wp_region_quiet_below (by kernel_rfl) (by kernel_rfl) ?_
            repeat (go_big_quiet_step (((first | (go_at_call 84; with_reducible exact Calls.regrown_of (HS1.out _ (below_regrown _ _ _))) | (go_at_call 84; with_reducible exact Calls.regrown_of (HS2.out _ (below_regrown _ _ _)))))))
            refine wpQuiet_nil ?_
            intro w9 hw9
            have HX9 := Lib.hid (bTrans HX.out (below_of_regrown hw9))
            have HXB9 := Lib.hid (bTrans HXB.out (below_of_regrown hw9))
            clear hw9
          · have HY := Lib.hid (anyB_step HNK.out (HST.out.trans (by simp)))
            go_wp2_with fail
            go_roundw
            case rel =>
              first
              | exact ⟨k + 1, by omega, by go_num, HY.out, HX9.out⟩
              | ((repeat apply Exists.intro)
                 refine ⟨⟨k + 1, by omega, ?_, HY.out, HX9.out⟩, rfl⟩
                 go_num)
            case measure => simp [intOf]; omega
          · have HY := Lib.hid (show t.allApart l L = false by
              rw [HALL.out, Bool.not_eq_false']
              exact anyB_hit hlt (show (fun i => anyB (fun k => t.someB t.tests (intL0 L i) (intL0 L k) && !t.someB l (intL0 L i) (intL0 L k)) i) i = true from anyB_hit hlk HST.out))
            go_wp2_with fail
            go_ret
            exact ⟨ret_bool (by rw [HY.out]), bTrans HB0.out HXB9.out⟩
          · have HY := Lib.hid (anyB_step HNK.out (HST.out.trans (by simp)))
            go_wp2_with fail
            go_roundw
            case rel =>
              first
              | exact ⟨k + 1, by omega, by go_num, HY.out, HX9.out⟩
              | ((repeat apply Exists.intro)
                 refine ⟨⟨k + 1, by omega, ?_, HY.out, HX9.out⟩, rfl⟩
                 go_num)
            case measure => simp [intOf]; omega
        · obtain rfl : k = i := by omega
          have HY := Lib.hid (anyB_step HNO.out HNK.out)
          have k1 : ¬ (k : Int) < (k : Int) := by omega
          go_wp2_with fail
          go_roundw
          case rel =>
            first
            | exact ⟨k + 1, by omega, by go_num, HY.out, HX.out⟩
            | ((repeat apply Exists.intro)
               refine ⟨⟨k + 1, by omega, ?_, HY.out, HX.out⟩, rfl⟩
               go_num)
          case measure => simp [intOf]; omega
    · obtain rfl : i = n := by omega
      have HZ := Lib.hid (show t.allApart l L = true by rw [HALL.out, HNO.out]; rfl)
      go_wp2_with fail
      go_ret
      exact ⟨ret_bool (by rw [HZ.out]), bTrans HB0.out (bTrans HB1.out HL.out)⟩
end Go.Proofs.YtchhodikgllgnaaDoor
/- Walks of the reference 05: Between. Conditions: lengths are Go's. -/
namespace Go.Proofs.YtchhodikgllgnaaDoor
open Go.RowKit Go.Sort
/-- the span after k rounds of the reference -/
def spanK (g : Nat → Int) (k : Nat) : Int × Int := if k = 0 then (g 0, g 0) else spanN g k
theorem spanK_step (g : Nat → Int) (k : Nat) : spanK g (k + 1) = (min (spanK g k).1 (g k), max (spanK g k).2 (g k)) := by
  rcases Nat.eq_zero_or_pos k with h0 | h0
  · subst h0
    show spanN g 1 = (min (g 0) (g 0), max (g 0) (g 0))
    rw [Int.min_self, Int.max_self]
    rfl
  · obtain ⟨j, rfl⟩ : ∃ j, k = j + 1 := ⟨k - 1, by omega⟩
    unfold spanK
    rw [if_neg (by omega), if_neg (by omega)]
    rfl
theorem spanK_pos {g : Nat → Int} {k : Nat} (h : 0 < k) : spanK g k = spanN g k := if_neg (by omega)
theorem min_if (a b : Int) : (if b < a then b else a) = min a b := by split <;> omega
theorem max_if (a b : Int) : (if a < b then b else a) = max a b := by split <;> omega
set_option maxHeartbeats 4000000 in
set_option maxRecDepth 100000 in
theorem between5_any (Aw Af : Option Addr) (cw cf : Nat) (t : Qt) (p q : Int) (w : World) (hs : t.Small) (hT : QAt w Aw Af t) :
    Calls Tryd.prog 33 #[.agg #[.int .i64 t.wells, .slice Aw t.nw cw, .slice Af t.nf cf], .int .i64 p, .int .i64 q] w fun e w' => e = .returned (.tuple #[.agg #[.int .i64 (t.betweenV p q).1, .int .i64 (t.betweenV p q).2], .int .i64 (t.knowErr (t.wellB p && t.wellB q))]) ∧ Below w.heap.size w w' := by
  have hb0 := bAlloc (bAlloc (Below.refl w.heap.size w) (.cells #[.int .i64 t.wells, .slice Aw t.nw cw, .slice Af t.nf cf] 25)) (.cells #[.int .i64 0, .int .i64 0] 47)
  have HT := Lib.hid (hT.mono hb0)
  have HB := Lib.hid hb0
  clear hT hb0
  obtain ⟨b1, h1⟩ : ∃ b, t.wellB p = b := ⟨_, rfl⟩
  obtain ⟨b2, h2⟩ : ∃ b, t.wellB q = b := ⟨_, rfl⟩
  have HC1 := Lib.hid (fun w => h1 ▸ isWell5_any Aw Af cw cf t p w : ∀ w : World, Calls Tryd.prog 37 #[.agg #[.int .i64 t.wells, .slice Aw t.nw cw, .slice Af t.nf cf], .int .i64 p] w fun e w' => e = .returned (.bool b1) ∧ Below w.heap.size w w')
  have HC2 := Lib.hid (fun w => h2 ▸ isWell5_any Aw Af cw cf t q w : ∀ w : World, Calls Tryd.prog 37 #[.agg #[.int .i64 t.wells, .slice Aw t.nw cw, .slice Af t.nf cf], .int .i64 q] w fun e w' => e = .returned (.bool b2) ∧ Below w.heap.size w w')
  obtain ⟨bb, hbb⟩ : ∃ bb, (b1 && b2) = bb := ⟨_, rfl⟩
  obtain ⟨er, her⟩ : ∃ er, t.knowErr bb = er := ⟨_, rfl⟩
  have HCO := Lib.hid (fun (w' : World) (hb : Below ((w.alloc (.cells #[.int .i64 t.wells, .slice Aw t.nw cw, .slice Af t.nf cf] 25)).alloc (.cells #[.int .i64 0, .int .i64 0] 47)).heap.size ((w.alloc (.cells #[.int .i64 t.wells, .slice Aw t.nw cw, .slice Af t.nf cf] 25)).alloc (.cells #[.int .i64 0, .int .i64 0] 47)) w') => ((refKnown Aw Af cw cf t bb w' hs.1 hs.2.1 (HT.out.mono hb)).mono fun e w'' h => ⟨by
      obtain ⟨v, h1, h2, h3⟩ := h.1
      rw [her] at h1 h2 h3
      exact ⟨v, h1, fun he => (h2 he).lower hb.size, h3⟩, h.2⟩ : Calls Tryd.prog 74 #[.agg #[.int .i64 t.wells, .slice Aw t.nw cw, .slice Af t.nf cf], .bool bb] w' fun e w'' => (∃ v, e = .returned (.tuple #[v, .int .i64 er]) ∧ (er = 0 → OwnL w'' ((w.alloc (.cells #[.int .i64 t.wells, .slice Aw t.nw cw, .slice Af t.nf cf] 25)).alloc (.cells #[.int .i64 0, .int .i64 0] 47)).heap.size v t.leftL) ∧ (er ≠ 0 → v = .slice none 0 0)) ∧ Below w'.heap.size w' w''))
  have HE := Lib.hid (show t.knowErr (t.wellB p && t.wellB q) = er by rw [h1, h2, hbb, her])
  have HSV := Lib.hid (show t.betweenV p q = if er = 0 then t.between p.toNat q.toNat else (0, 0) by unfold Qt.betweenV; rw [h1, h2, hbb, her])
  rw [HE.out, HSV.out]
  have HKE := Lib.hid her
  have HG := Lib.hid hbb
  have HW1 := Lib.hid h1
  have HW2 := Lib.hid h2
  clear h1 h2 her hbb HE HSV
  by_cases he : er = 0
  · subst he
    obtain ⟨ok, rfl, hne⟩ := knowErr_zero HKE.out
    have hg := HG.out
    simp only [Bool.and_eq_true] at hg
    obtain ⟨rfl, rfl⟩ := hg
    have hp := inR_iff.1 ((wellB_ok ok p).symm.trans HW1.out)
    have hq := inR_iff.1 ((wellB_ok ok q).symm.trans HW2.out)
    obtain ⟨i, rfl⟩ : ∃ i : Nat, p = (i : Int) := ⟨p.toNat, by omega⟩
    obtain ⟨j, rfl⟩ : ∃ j : Nat, q = (j : Int) := ⟨q.toNat, by omega⟩
    have HP := Lib.hid (show (i : Int) < t.wells by omega)
    have HQ := Lib.hid (show (j : Int) < t.wells by omega)
    have HOK := Lib.hid ok
    obtain ⟨n, hn⟩ : ∃ n, t.leftL.length = n := ⟨_, rfl⟩
    have n6 : n ≤ 6 := by rw [← hn]; have := leftTo_len t t.nw; have := ok.nw; unfold Qt.leftL; omega
    have n0 : 0 < n := by rw [← hn]; exact List.length_pos_iff.2 hne
    rw [if_pos rfl, Int.toNat_natCast, Int.toNat_natCast]
    obtain ⟨g, hgg⟩ : ∃ g : Nat → Int, g = fun k => t.F (intL0 t.leftL k) (i, j) := ⟨_, rfl⟩
    have HGG := Lib.hid hgg
    obtain ⟨lo, hlo⟩ : ∃ lo, (t.between i j).1 = lo := ⟨_, rfl⟩
    obtain ⟨hi, hhi⟩ : ∃ hi, (t.between i j).2 = hi := ⟨_, rfl⟩
    have HLO := Lib.hid (show spanK g n = (lo, hi) by
      have e : t.between i j = (lo, hi) := Prod.ext hlo hhi
      rw [spanK_pos n0, ← e, between_of]
      unfold spanOf
      rw [hn, hgg])
    rw [hlo, hhi]
    have HN := Lib.hid hn
    clear hp hq hne ok hn hlo hhi hgg
    go_enter Tryd.func33, Tryd.ntmps33
    go_wp2_with fail
    refine wp_region_call 9 (fun v w2 => (∃ u, v = .tuple #[u, .int .i64 0] ∧ OwnL w2 ((w.alloc (.cells #[.int .i64 t.wells, .slice Aw t.nw cw, .slice Af t.nf cf] 25)).alloc (.cells #[.int .i64 0, .int .i64 0] 47)).heap.size u t.leftL) ∧ Below ((w.alloc (.cells #[.int .i64 t.wells, .slice Aw t.nw cw, .slice Af t.nf cf] 25)).alloc (.cells #[.int .i64 0, .int .i64 0] 47)).heap.size ((w.alloc (.cells #[.int .i64 t.wells, .slice Aw t.nw cw, .slice Af t.nf cf] 25)).alloc (.cells #[.int .i64 0, .int .i64 0] 47)) w2) (by kernel_rfl) (by decide +kernel) rfl ?_
    apply Exists.intro
    refine ⟨fun K hK => ?_, ?_, fun w1 hb1 K Q' hK => ?_, ?_⟩
    · skip
      repeat (first | (refine wpCalm_skip rfl ?_) | (refine wpCalm_step rfl (fun K hK => ?_); go_simp; (first | (refine hK _ ?_; clear hK K) | (apply Exists.intro; refine ⟨fun _ => ?_, hK _ ?_⟩; ((first | (go_at_call 37; with_reducible exact newer_of (HC1.out _)) | (go_at_call 37; with_reducible exact newer_of (HC2.out _)))); clear hK K))))
      refine wpCalm_nil ?_
      exact hK
    · rfl
    · go_simp
      refine (HCO.out w1 hb1).mono ?_
      rintro e w2 ⟨⟨v, rfl, ho, _⟩, hb2⟩
      exact hK _ w2 ⟨⟨v, rfl, ho (by trivial)⟩, bTrans hb1 hb2⟩
    rintro v w2 ⟨⟨u, rfl, ho⟩, hb2⟩
    have HL2 := Lib.hid ho
    have HB2 := Lib.hid hb2
    obtain ⟨A, c, rfl, _⟩ := ho.nums
    rw [HN.out]
    clear ho hb2
    apply Exists.intro
    refine ⟨fun K hK => ?_, fun w3 hb3 => ?_⟩
    · skip
      repeat (first | (refine wpCalm_skip rfl ?_) | (refine wpCalm_step rfl (fun K hK => ?_); go_simp; (first | (refine hK _ ?_; clear hK K) | (apply Exists.intro; refine ⟨fun _ => ?_, hK _ ?_⟩; (fail); clear hK K))))
      refine wpCalm_nil ?_
      exact hK
    have HL3 := Lib.hid (HL2.out.mono hb3)
    have HB3 := Lib.hid (bTrans HB2.out hb3)
    obtain ⟨bc3, bf3⟩ := bcell HB3.out
    have hz3 := HB3.out.size
    simp only [World.size_alloc] at hz3
    have hy3 : w.heap.size < w3.heap.size := by omega
    clear hb3
    -- what the fall is in the place k of the list
    have HFA := Lib.hid (show ∀ (w4 : World) (k x : Nat), Below w3.heap.size w3 w4 → t.leftL[k]? = some (x : Int) → x < t.nw → Calls Tryd.prog 63 #[.agg #[.int .i64 t.wells, .slice Aw t.nw cw, .slice Af t.nf cf], .int .i64 x, .int .i64 i, .int .i64 j] w4 fun e w'' => e = .returned (.int .i64 (g k)) ∧ Below w4.heap.size w4 w'' from fun w4 k x hb hk hx => by
      have h1 : g k = t.fallAt x i j := by rw [HGG.out, fallAt_F]; simp only [intL0, hk, Option.getD_some]
      rw [h1]
      exact fall5_any Aw Af cw cf t x i j w4 HOK.out hx HP.out HQ.out ((HT.out.mono HB3.out).mono hb))
    obtain ⟨A1, c1, e1, hrow⟩ := HL3.out.nums
    simp only [Value.slice.injEq] at e1
    obtain ⟨rfl, _, rfl⟩ := e1
    obtain ⟨a, ha⟩ : ∃ a, t.leftL[0]? = some a := ⟨_, List.getElem?_eq_getElem (by rw [HN.out]; omega)⟩
    obtain ⟨x, hx, _, rfl⟩ := (leftTo_mem t t.nw).1 (List.mem_of_getElem? ha)
    obtain ⟨bs, os, hA, hbs, cs⟩ := hrow.num ha
    subst hA
    rw [Nat.add_zero] at cs
    have k1 : (0 : Int) < (n : Int) := by omega
    have HF0 := Lib.hid (fun (w' : World) (hb : Below w3.heap.size w3 w') => HFA.out w' 0 x hb ha hx)
    obtain ⟨g0, hg0⟩ : ∃ g0, g 0 = g0 := ⟨_, rfl⟩
    rw [hg0] at HF0
    have HG0 := Lib.hid hg0
    clear hrow ha hx hg0
    go_wp2_with fail
    refine wp_region_quiet_below (by kernel_rfl) (by kernel_rfl) ?_
    repeat (go_big_quiet_step (((go_at_call 63; with_reducible exact Calls.regrown_of (HF0.out _ (below_regrown _ _ _))))))
    refine wpQuiet_nil ?_
    intro w4 hw4
    have hb4 := below_of_regrown hw4
    have HL4 := Lib.hid (HL3.out.mono hb4)
    have HD4 := Lib.hid hb4
    have HB4 := Lib.hid (bTrans HB3.out hb4)
    obtain ⟨bc4, bf4⟩ := bcell HB4.out
    have hz4 := HB4.out.size
    simp only [World.size_alloc] at hz4
    have hy4 : w.heap.size < w4.heap.size := by omega
    clear hw4 hb4 bc3 bf3 hz3 hy3 cs hbs HF0
    go_wp2_with fail
    clear bc4 bf4 hz4 hy4
    have HX4 := Lib.hid (BoxAt.two (w := w4.alloc (.cells #[.int .i64 g0, .int .i64 g0] 47)) (a := w4.heap.size) (x := .int .i64 g0) (y := .int .i64 g0) (by simp) (by simp [go_sem]) (by simp [go_sem]))
    have HS0 := Lib.hid (show (spanK g 0).1 = g0 ∧ (spanK g 0).2 = g0 from ⟨HG0.out, HG0.out⟩)
    go_loopw [12] (fun s wr => ∃ k : Nat, k ≤ n ∧ s = .int .i64 k ∧ BoxAt wr w4.heap.size [.int .i64 (spanK g k).1, .int .i64 (spanK g k).2] ∧ (∀ o, wr.frozen? ⟨w4.heap.size, o, none⟩ = false) ∧ Below w4.heap.size w4 wr) (fun s _ => n - (intOf s).toNat)
    case atStart => exact ⟨0, Nat.zero_le _, rfl, by rw [HS0.out.1, HS0.out.2]; exact HX4.out, fun o => by simp [go_sem], bAlloc (Below.refl _ _) _⟩
    case round =>
      obtain ⟨k, hk, rfl, hX, hZ, hbel⟩ := hrel
      have HX := Lib.hid hX
      have HZ := Lib.hid hZ
      have HL := Lib.hid hbel
      have HLB := Lib.hid (bTrans HB4.out hbel)
      have HLD := Lib.hid (bTrans HD4.out hbel)
      obtain ⟨bc5, bf5⟩ := bcell HLB.out
      have hz5 := HLB.out.size
      simp only [World.size_alloc] at hz5
      have hy5 : w.heap.size < wr.heap.size := by omega
      have hv5 : w.heap.size + 1 < wr.heap.size := by omega
      clear hX hZ hbel
      by_cases hlt : k < n
      · obtain ⟨A2, c2, e2, hrow⟩ := (HL4.out.mono HL.out).nums
        simp only [Value.slice.injEq] at e2
        obtain ⟨rfl, _, rfl⟩ := e2
        obtain ⟨a, ha⟩ : ∃ a, t.leftL[k]? = some a := ⟨_, List.getElem?_eq_getElem (by rw [HN.out]; omega)⟩
        obtain ⟨x, hx, _, rfl⟩ := (leftTo_mem t t.nw).1 (List.mem_of_getElem? ha)
        obtain ⟨bs2, os2, hA, hbs, cs⟩ := hrow.num ha
        simp only [Option.some.injEq, Addr.mk.injEq, and_true] at hA
        obtain ⟨rfl, rfl⟩ := hA
        have HF := Lib.hid (fun (w' : World) (hb : Below wr.heap.size wr w') => HFA.out w' k x (bTrans HLD.out hb) ha hx)
        obtain ⟨v, hv⟩ : ∃ v, g k = v := ⟨_, rfl⟩
        rw [hv] at HF
        obtain ⟨a1, ha1⟩ : ∃ a1, (spanK g k).1 = a1 := ⟨_, rfl⟩
        obtain ⟨a2, ha2⟩ : ∃ a2, (spanK g k).2 = a2 := ⟨_, rfl⟩
        rw [ha1, ha2] at HX
        obtain ⟨m2, hm2⟩ : ∃ m2, (if v < a1 then v else a1) = m2 := ⟨_, rfl⟩
        obtain ⟨x2, hx2⟩ : ∃ x2, (if a2 < v then v else a2) = x2 := ⟨_, rfl⟩
        have HR := Lib.hid (show (spanK g (k + 1)).1 = m2 ∧ (spanK g (k + 1)).2 = x2 by
          rw [spanK_step, ha1, ha2, hv, ← hm2, ← hx2, min_if, max_if]
          exact ⟨rfl, rfl⟩)
        have k1 : (k : Int) < (n : Int) := by omega
        have k0 : (0 : Int) ≤ (k : Int) := by omega
        clear hrow ha hx hv ha1 ha2
        go_wp2_with fail
        refine wp_region_quiet_below (by kernel_rfl) (by kernel_rfl) ?_
        repeat (go_big_quiet_step (((go_at_call 63; with_reducible exact Calls.regrown_of (HF.out _ (below_regrown _ _ _))))))
        refine wpQuiet_nil ?_
        intro w9 hw9
        have hb9 := below_of_regrown hw9
        have HX9 := Lib.hid (HX.out.mono hb9)
        have HZ9 := Lib.hid (fun o => (hb9.frozen (p := ⟨w4.heap.size, o, none⟩) HX.out.lt).trans (HZ.out o))
        have HL9 := Lib.hid (bTrans HL.out hb9)
        have u0 := HX9.out.lt
        have u1 := HX9.out.cell 0 _ rfl
        have u2 := HX9.out.cell 1 _ rfl
        have f0 := HZ9.out 0
        have f1 := HZ9.out 1
        clear hw9 hb9 cs hbs bc5 bf5 hz5 hy5 hv5 HF HX HZ
        go_wp2_with fail
        go_roundw
        case rel =>
          have hbx := HX9.out.put2 (.int .i64 m2) (.int .i64 x2)
          first
          | exact ⟨k + 1, by omega, by go_num, by rw [HR.out.1, HR.out.2]; exact hbx, frz_set (frz_set HZ9.out _ _) _ _, Below.setCell (p := ⟨w4.heap.size, 1, none⟩) (Below.setCell (p := ⟨w4.heap.size, 0, none⟩) HL9.out (by simp) (.int .i64 m2)) (by simp) (.int .i64 x2)⟩
          | ((repeat apply Exists.intro)
             refine ⟨⟨k + 1, by omega, ?_, by rw [HR.out.1, HR.out.2]; exact hbx, frz_set (frz_set HZ9.out _ _) _ _, Below.setCell (p := ⟨w4.heap.size, 1, none⟩) (Below.setCell (p := ⟨w4.heap.size, 0, none⟩) HL9.out (by simp) (.int .i64 m2)) (by simp) (.int .i64 x2)⟩, rfl⟩
             go_num)
        case measure => simp [intOf]; omega
      · obtain rfl : k = n := by omega
        have HE1 := Lib.hid (show (spanK g k).1 = lo ∧ (spanK g k).2 = hi by rw [HLO.out]; exact ⟨rfl, rfl⟩)
        rw [HE1.out.1, HE1.out.2] at HX
        have u0 := HX.out.lt
        have u1 := HX.out.cell 0 _ rfl
        have u2 := HX.out.cell 1 _ rfl
        go_wp2_with fail
        refine bodyPost_ret (v := .tuple #[.agg #[.int .i64 lo, .int .i64 hi], .int .i64 0]) (by simp [results, Tryd.results33, go_sem, *]) rfl ⟨rfl, ?_⟩
        exact Below.setCell (p := ⟨w.heap.size + 1, 1, none⟩) (Below.setCell (p := ⟨w.heap.size + 1, 0, none⟩) (bTrans HB.out HLB.out) (by simp <;> omega) (.int .i64 lo)) (by simp <;> omega) (.int .i64 hi)
  · have g0 : (er != 0) = true := by simp [he]
    have HNZ := Lib.hid he
    rw [if_neg he]
    clear he
    go_enter Tryd.func33, Tryd.ntmps33
    go_wp2_with fail
    rcases two_ways b1 b2 with rfl | ⟨rfl, rfl⟩ | ⟨rfl, rfl⟩
    all_goals
      obtain rfl := HG.out
      refine wp_region_call 9 (fun v w2 => v = .tuple #[.slice none 0 0, .int .i64 er] ∧ Below ((w.alloc (.cells #[.int .i64 t.wells, .slice Aw t.nw cw, .slice Af t.nf cf] 25)).alloc (.cells #[.int .i64 0, .int .i64 0] 47)).heap.size ((w.alloc (.cells #[.int .i64 t.wells, .slice Aw t.nw cw, .slice Af t.nf cf] 25)).alloc (.cells #[.int .i64 0, .int .i64 0] 47)) w2) (by kernel_rfl) (by decide +kernel) rfl ?_
      apply Exists.intro
      refine ⟨fun K hK => ?_, ?_, fun w1 hb1 K Q' hK => ?_, ?_⟩
      · skip
        repeat (first | (refine wpCalm_skip rfl ?_) | (refine wpCalm_step rfl (fun K hK => ?_); go_simp; (first | (refine hK _ ?_; clear hK K) | (apply Exists.intro; refine ⟨fun _ => ?_, hK _ ?_⟩; ((first | (go_at_call 37; with_reducible exact newer_of (HC1.out _)) | (go_at_call 37; with_reducible exact newer_of (HC2.out _)))); clear hK K))))
        refine wpCalm_nil ?_
        exact hK
      · rfl
      · go_simp
        refine (HCO.out w1 hb1).mono ?_
        rintro e w2 ⟨⟨v, rfl, _, ho⟩, hb2⟩
        exact hK _ w2 ⟨by rw [ho HNZ.out], bTrans hb1 hb2⟩
      rintro v w2 ⟨rfl, hb2⟩
      have HB2 := Lib.hid hb2
      clear hb2
      apply Exists.intro
      refine ⟨fun K hK => ?_, fun w3 hb3 => ?_⟩
      · skip
        repeat (first | (refine wpCalm_skip rfl ?_) | (refine wpCalm_step rfl (fun K hK => ?_); go_simp; (first | (refine hK _ ?_; clear hK K) | (apply Exists.intro; refine ⟨fun _ => ?_, hK _ ?_⟩; (fail); clear hK K))))
        refine wpCalm_nil ?_
        exact hK
      have HB3 := Lib.hid (bTrans HB2.out hb3)
      obtain ⟨bc3, bf3⟩ := bcell HB3.out
      have hz3 := HB3.out.size
      simp only [World.size_alloc] at hz3
      clear hb3
      go_wp2_with fail
      refine bodyPost_ret (v := .tuple #[.agg #[.int .i64 0, .int .i64 0], .int .i64 er]) (by simp [results, Tryd.results33, go_sem, *]) rfl ⟨rfl, ?_⟩
      exact Below.setCell (p := ⟨w.heap.size + 1, 1, none⟩) (Below.setCell (p := ⟨w.heap.size + 1, 0, none⟩) (bTrans HB.out HB3.out) (by simp <;> omega) (.int .i64 0)) (by simp <;> omega) (.int .i64 0)
end Go.Proofs.YtchhodikgllgnaaDoor
/- Walks of the reference 05: Total. Conditions: lengths are Go's. -/
namespace Go.Proofs.YtchhodikgllgnaaDoor
open Go.RowKit Go.Sort
set_option maxHeartbeats 4000000 in
set_option maxRecDepth 100000 in
theorem total5_any (Aw Af Ad : Option Addr) (cw cf cd nd : Nat) (t : Qt) (d : Nat → Int) (q : Int) (w : World) (hnd : nd ≤ 9223372036854775807) (hI : IntsAt w Ad nd d) (hs : t.Small) (hT : QAt w Aw Af t) :
    Calls Tryd.prog 56 #[.agg #[.int .i64 t.wells, .slice Aw t.nw cw, .slice Af t.nf cf], .slice Ad nd cd, .int .i64 q] w fun e w' => e = .returned (.tuple #[.agg #[.int .i64 (t.totalV nd d q).1, .int .i64 (t.totalV nd d q).2], .int .i64 (t.knowErr (t.drawsB nd d && t.wellB q))]) ∧ Below w.heap.size w w' := by
  have hb0 := bAlloc (bAlloc (Below.refl w.heap.size w) (.cells #[.int .i64 t.wells, .slice Aw t.nw cw, .slice Af t.nf cf] 25)) (.cells #[.int .i64 0, .int .i64 0] 47)
  have HT := Lib.hid (hT.mono hb0)
  have HID := Lib.hid (hI.mono hb0)
  have HB := Lib.hid hb0
  clear hT hb0 hI
  obtain ⟨b1, h1⟩ : ∃ b, t.drawsB nd d = b := ⟨_, rfl⟩
  obtain ⟨b2, h2⟩ : ∃ b, t.wellB q = b := ⟨_, rfl⟩
  have HC1 := Lib.hid (fun w' hb => h1 ▸ areDraws5_any Aw Af Ad cw cf cd nd t d w' hnd (HID.out.mono hb) : ∀ w' : World, Below ((w.alloc (.cells #[.int .i64 t.wells, .slice Aw t.nw cw, .slice Af t.nf cf] 25)).alloc (.cells #[.int .i64 0, .int .i64 0] 47)).heap.size ((w.alloc (.cells #[.int .i64 t.wells, .slice Aw t.nw cw, .slice Af t.nf cf] 25)).alloc (.cells #[.int .i64 0, .int .i64 0] 47)) w' → Calls Tryd.prog 59 #[.agg #[.int .i64 t.wells, .slice Aw t.nw cw, .slice Af t.nf cf], .slice Ad nd cd] w' fun e w'' => e = .returned (.bool b1) ∧ Below w'.heap.size w' w'')
  have HC2 := Lib.hid (fun w => h2 ▸ isWell5_any Aw Af cw cf t q w : ∀ w : World, Calls Tryd.prog 37 #[.agg #[.int .i64 t.wells, .slice Aw t.nw cw, .slice Af t.nf cf], .int .i64 q] w fun e w' => e = .returned (.bool b2) ∧ Below w.heap.size w w')
  obtain ⟨bb, hbb⟩ : ∃ bb, (b1 && b2) = bb := ⟨_, rfl⟩
  obtain ⟨er, her⟩ : ∃ er, t.knowErr bb = er := ⟨_, rfl⟩
  have HCO := Lib.hid (fun (w' : World) (hb : Below ((w.alloc (.cells #[.int .i64 t.wells, .slice Aw t.nw cw, .slice Af t.nf cf] 25)).alloc (.cells #[.int .i64 0, .int .i64 0] 47)).heap.size ((w.alloc (.cells #[.int .i64 t.wells, .slice Aw t.nw cw, .slice Af t.nf cf] 25)).alloc (.cells #[.int .i64 0, .int .i64 0] 47)) w') => ((refKnown Aw Af cw cf t bb w' hs.1 hs.2.1 (HT.out.mono hb)).mono fun e w'' h => ⟨by
      obtain ⟨v, h1, h2, h3⟩ := h.1
      rw [her] at h1 h2 h3
      exact ⟨v, h1, fun he => (h2 he).lower hb.size, h3⟩, h.2⟩ : Calls Tryd.prog 74 #[.agg #[.int .i64 t.wells, .slice Aw t.nw cw, .slice Af t.nf cf], .bool bb] w' fun e w'' => (∃ v, e = .returned (.tuple #[v, .int .i64 er]) ∧ (er = 0 → OwnL w'' ((w.alloc (.cells #[.int .i64 t.wells, .slice Aw t.nw cw, .slice Af t.nf cf] 25)).alloc (.cells #[.int .i64 0, .int .i64 0] 47)).heap.size v t.leftL) ∧ (er ≠ 0 → v = .slice none 0 0)) ∧ Below w'.heap.size w' w''))
  have HE := Lib.hid (show t.knowErr (t.drawsB nd d && t.wellB q) = er by rw [h1, h2, hbb, her])
  have HSV := Lib.hid (show t.totalV nd d q = if er = 0 then spanOf (t.lowers d nd q.toNat) t.leftL else (0, 0) by unfold Qt.totalV; rw [h1, h2, hbb, her])
  rw [HE.out, HSV.out]
  have HKE := Lib.hid her
  have HG := Lib.hid hbb
  have HW1 := Lib.hid h1
  have HW2 := Lib.hid h2
  clear h1 h2 her hbb HE HSV
  by_cases he : er = 0
  · subst he
    obtain ⟨ok, rfl, hne⟩ := knowErr_zero HKE.out
    have hg := HG.out
    simp only [Bool.and_eq_true] at hg
    obtain ⟨rfl, rfl⟩ := hg
    have hdm := (drawsB_iff.1 HW1.out).1
    have HDD := Lib.hid (drawsB_iff.1 HW1.out).2
    have HM := Lib.hid hdm
    have hq := inR_iff.1 ((wellB_ok ok q).symm.trans HW2.out)
    obtain ⟨j, rfl⟩ : ∃ j : Nat, q = (j : Int) := ⟨q.toNat, by omega⟩
    have HQ := Lib.hid (show (j : Int) < t.wells by omega)
    have HOK := Lib.hid ok
    obtain ⟨n, hn⟩ : ∃ n, t.leftL.length = n := ⟨_, rfl⟩
    have n6 : n ≤ 6 := by rw [← hn]; have := leftTo_len t t.nw; have := ok.nw; unfold Qt.leftL; omega
    have n0 : 0 < n := by rw [← hn]; exact List.length_pos_iff.2 hne
    rw [if_pos rfl, Int.toNat_natCast]
    obtain ⟨g, hgg⟩ : ∃ g : Nat → Int, g = fun k => t.lowers d nd j (intL0 t.leftL k) := ⟨_, rfl⟩
    have HGG := Lib.hid hgg
    obtain ⟨lo, hlo⟩ : ∃ lo, (spanOf (t.lowers d nd j) t.leftL).1 = lo := ⟨_, rfl⟩
    obtain ⟨hi, hhi⟩ : ∃ hi, (spanOf (t.lowers d nd j) t.leftL).2 = hi := ⟨_, rfl⟩
    have HLO := Lib.hid (show spanK g n = (lo, hi) by
      have e : spanOf (t.lowers d nd j) t.leftL = (lo, hi) := Prod.ext hlo hhi
      rw [spanK_pos n0, ← e]
      unfold spanOf
      rw [hn, hgg])
    rw [hlo, hhi]
    have HN := Lib.hid hn
    clear hdm hq hne ok hn hlo hhi hgg
    go_enter Tryd.func56, Tryd.ntmps56
    go_wp2_with fail
    refine wp_region_call 9 (fun v w2 => (∃ u, v = .tuple #[u, .int .i64 0] ∧ OwnL w2 ((w.alloc (.cells #[.int .i64 t.wells, .slice Aw t.nw cw, .slice Af t.nf cf] 25)).alloc (.cells #[.int .i64 0, .int .i64 0] 47)).heap.size u t.leftL) ∧ Below ((w.alloc (.cells #[.int .i64 t.wells, .slice Aw t.nw cw, .slice Af t.nf cf] 25)).alloc (.cells #[.int .i64 0, .int .i64 0] 47)).heap.size ((w.alloc (.cells #[.int .i64 t.wells, .slice Aw t.nw cw, .slice Af t.nf cf] 25)).alloc (.cells #[.int .i64 0, .int .i64 0] 47)) w2) (by kernel_rfl) (by decide +kernel) rfl ?_
    apply Exists.intro
    refine ⟨fun K hK => ?_, ?_, fun w1 hb1 K Q' hK => ?_, ?_⟩
    · skip
      repeat (first | (refine wpCalm_skip rfl ?_) | (refine wpCalm_step rfl (fun K hK => ?_); go_simp; (first | (refine hK _ ?_; clear hK K) | (apply Exists.intro; refine ⟨fun _ => ?_, hK _ ?_⟩; ((first | (go_at_call 59; with_reducible exact newer_of (HC1.out _ (below_regrown _ _ _))) | (go_at_call 37; with_reducible exact newer_of (HC2.out _)))); clear hK K))))
      refine wpCalm_nil ?_
      exact hK
    · rfl
    · go_simp
      refine (HCO.out w1 hb1).mono ?_
      rintro e w2 ⟨⟨v, rfl, ho, _⟩, hb2⟩
      exact hK _ w2 ⟨⟨v, rfl, ho (by trivial)⟩, bTrans hb1 hb2⟩
    rintro v w2 ⟨⟨u, rfl, ho⟩, hb2⟩
    have HL2 := Lib.hid ho
    have HB2 := Lib.hid hb2
    obtain ⟨A, c, rfl, _⟩ := ho.nums
    rw [HN.out]
    clear ho hb2
    apply Exists.intro
    refine ⟨fun K hK => ?_, fun w3 hb3 => ?_⟩
    · skip
      repeat (first | (refine wpCalm_skip rfl ?_) | (refine wpCalm_step rfl (fun K hK => ?_); go_simp; (first | (refine hK _ ?_; clear hK K) | (apply Exists.intro; refine ⟨fun _ => ?_, hK _ ?_⟩; (fail); clear hK K))))
      refine wpCalm_nil ?_
      exact hK
    have HL3 := Lib.hid (HL2.out.mono hb3)
    have HB3 := Lib.hid (bTrans HB2.out hb3)
    obtain ⟨bc3, bf3⟩ := bcell HB3.out
    have hz3 := HB3.out.size
    simp only [World.size_alloc] at hz3
    have hy3 : w.heap.size < w3.heap.size := by omega
    clear hb3
    -- what the fall is in the place k of the list
    have HFA := Lib.hid (show ∀ (w4 : World) (k x : Nat), Below w3.heap.size w3 w4 → t.leftL[k]? = some (x : Int) → x < t.nw → Calls Tryd.prog 66 #[.agg #[.int .i64 t.wells, .slice Aw t.nw cw, .slice Af t.nf cf], .int .i64 x, .slice Ad nd cd, .int .i64 j] w4 fun e w'' => e = .returned (.int .i64 (g k)) ∧ Below w4.heap.size w4 w'' from fun w4 k x hb hk hx => by
      have h1 : g k = t.lowers d nd j (x : Int) := by rw [HGG.out]; simp only [intL0, hk, Option.getD_some]
      rw [h1]
      exact lowers5_any Aw Af Ad cw cf cd nd t d x j w4 HOK.out ((HT.out.mono HB3.out).mono hb) ((HID.out.mono HB3.out).mono hb) HM.out HDD.out HQ.out hx)
    obtain ⟨A1, c1, e1, hrow⟩ := HL3.out.nums
    simp only [Value.slice.injEq] at e1
    obtain ⟨rfl, _, rfl⟩ := e1
    obtain ⟨a, ha⟩ : ∃ a, t.leftL[0]? = some a := ⟨_, List.getElem?_eq_getElem (by rw [HN.out]; omega)⟩
    obtain ⟨x, hx, _, rfl⟩ := (leftTo_mem t t.nw).1 (List.mem_of_getElem? ha)
    obtain ⟨bs, os, hA, hbs, cs⟩ := hrow.num ha
    subst hA
    rw [Nat.add_zero] at cs
    have k1 : (0 : Int) < (n : Int) := by omega
    have HF0 := Lib.hid (fun (w' : World) (hb : Below w3.heap.size w3 w') => HFA.out w' 0 x hb ha hx)
    obtain ⟨g0, hg0⟩ : ∃ g0, g 0 = g0 := ⟨_, rfl⟩
    rw [hg0] at HF0
    have HG0 := Lib.hid hg0
    clear hrow ha hx hg0
    go_wp2_with fail
    refine wp_region_quiet_below (by kernel_rfl) (by kernel_rfl) ?_
    repeat (go_big_quiet_step (((go_at_call 66; with_reducible exact Calls.regrown_of (HF0.out _ (below_regrown _ _ _))))))
    refine wpQuiet_nil ?_
    intro w4 hw4
    have hb4 := below_of_regrown hw4
    have HL4 := Lib.hid (HL3.out.mono hb4)
    have HD4 := Lib.hid hb4
    have HB4 := Lib.hid (bTrans HB3.out hb4)
    obtain ⟨bc4, bf4⟩ := bcell HB4.out
    have hz4 := HB4.out.size
    simp only [World.size_alloc] at hz4
    have hy4 : w.heap.size < w4.heap.size := by omega
    clear hw4 hb4 bc3 bf3 hz3 hy3 cs hbs HF0
    go_wp2_with fail
    clear bc4 bf4 hz4 hy4
    have HX4 := Lib.hid (BoxAt.two (w := w4.alloc (.cells #[.int .i64 g0, .int .i64 g0] 47)) (a := w4.heap.size) (x := .int .i64 g0) (y := .int .i64 g0) (by simp) (by simp [go_sem]) (by simp [go_sem]))
    have HS0 := Lib.hid (show (spanK g 0).1 = g0 ∧ (spanK g 0).2 = g0 from ⟨HG0.out, HG0.out⟩)
    go_loopw [12] (fun s wr => ∃ k : Nat, k ≤ n ∧ s = .int .i64 k ∧ BoxAt wr w4.heap.size [.int .i64 (spanK g k).1, .int .i64 (spanK g k).2] ∧ (∀ o, wr.frozen? ⟨w4.heap.size, o, none⟩ = false) ∧ Below w4.heap.size w4 wr) (fun s _ => n - (intOf s).toNat)
    case atStart => exact ⟨0, Nat.zero_le _, rfl, by rw [HS0.out.1, HS0.out.2]; exact HX4.out, fun o => by simp [go_sem], bAlloc (Below.refl _ _) _⟩
    case round =>
      obtain ⟨k, hk, rfl, hX, hZ, hbel⟩ := hrel
      have HX := Lib.hid hX
      have HZ := Lib.hid hZ
      have HL := Lib.hid hbel
      have HLB := Lib.hid (bTrans HB4.out hbel)
      have HLD := Lib.hid (bTrans HD4.out hbel)
      obtain ⟨bc5, bf5⟩ := bcell HLB.out
      have hz5 := HLB.out.size
      simp only [World.size_alloc] at hz5
      have hy5 : w.heap.size < wr.heap.size := by omega
      have hv5 : w.heap.size + 1 < wr.heap.size := by omega
      clear hX hZ hbel
      by_cases hlt : k < n
      · obtain ⟨A2, c2, e2, hrow⟩ := (HL4.out.mono HL.out).nums
        simp only [Value.slice.injEq] at e2
        obtain ⟨rfl, _, rfl⟩ := e2
        obtain ⟨a, ha⟩ : ∃ a, t.leftL[k]? = some a := ⟨_, List.getElem?_eq_getElem (by rw [HN.out]; omega)⟩
        obtain ⟨x, hx, _, rfl⟩ := (leftTo_mem t t.nw).1 (List.mem_of_getElem? ha)
        obtain ⟨bs2, os2, hA, hbs, cs⟩ := hrow.num ha
        simp only [Option.some.injEq, Addr.mk.injEq, and_true] at hA
        obtain ⟨rfl, rfl⟩ := hA
        have HF := Lib.hid (fun (w' : World) (hb : Below wr.heap.size wr w') => HFA.out w' k x (bTrans HLD.out hb) ha hx)
        obtain ⟨v, hv⟩ : ∃ v, g k = v := ⟨_, rfl⟩
        rw [hv] at HF
        obtain ⟨a1, ha1⟩ : ∃ a1, (spanK g k).1 = a1 := ⟨_, rfl⟩
        obtain ⟨a2, ha2⟩ : ∃ a2, (spanK g k).2 = a2 := ⟨_, rfl⟩
        rw [ha1, ha2] at HX
        obtain ⟨m2, hm2⟩ : ∃ m2, (if v < a1 then v else a1) = m2 := ⟨_, rfl⟩
        obtain ⟨x2, hx2⟩ : ∃ x2, (if a2 < v then v else a2) = x2 := ⟨_, rfl⟩
        have HR := Lib.hid (show (spanK g (k + 1)).1 = m2 ∧ (spanK g (k + 1)).2 = x2 by
          rw [spanK_step, ha1, ha2, hv, ← hm2, ← hx2, min_if, max_if]
          exact ⟨rfl, rfl⟩)
        have k1 : (k : Int) < (n : Int) := by omega
        have k0 : (0 : Int) ≤ (k : Int) := by omega
        clear hrow ha hx hv ha1 ha2
        go_wp2_with fail
        refine wp_region_quiet_below (by kernel_rfl) (by kernel_rfl) ?_
        repeat (go_big_quiet_step (((go_at_call 66; with_reducible exact Calls.regrown_of (HF.out _ (below_regrown _ _ _))))))
        refine wpQuiet_nil ?_
        intro w9 hw9
        have hb9 := below_of_regrown hw9
        have HX9 := Lib.hid (HX.out.mono hb9)
        have HZ9 := Lib.hid (fun o => (hb9.frozen (p := ⟨w4.heap.size, o, none⟩) HX.out.lt).trans (HZ.out o))
        have HL9 := Lib.hid (bTrans HL.out hb9)
        have u0 := HX9.out.lt
        have u1 := HX9.out.cell 0 _ rfl
        have u2 := HX9.out.cell 1 _ rfl
        have f0 := HZ9.out 0
        have f1 := HZ9.out 1
        clear hw9 hb9 cs hbs bc5 bf5 hz5 hy5 hv5 HF HX HZ
        go_wp2_with fail
        go_roundw
        case rel =>
          have hbx := HX9.out.put2 (.int .i64 m2) (.int .i64 x2)
          first
          | exact ⟨k + 1, by omega, by go_num, by rw [HR.out.1, HR.out.2]; exact hbx, frz_set (frz_set HZ9.out _ _) _ _, Below.setCell (p := ⟨w4.heap.size, 1, none⟩) (Below.setCell (p := ⟨w4.heap.size, 0, none⟩) HL9.out (by simp) (.int .i64 m2)) (by simp) (.int .i64 x2)⟩
          | ((repeat apply Exists.intro)
             refine ⟨⟨k + 1, by omega, ?_, by rw [HR.out.1, HR.out.2]; exact hbx, frz_set (frz_set HZ9.out _ _) _ _, Below.setCell (p := ⟨w4.heap.size, 1, none⟩) (Below.setCell (p := ⟨w4.heap.size, 0, none⟩) HL9.out (by simp) (.int .i64 m2)) (by simp) (.int .i64 x2)⟩, rfl⟩
             go_num)
        case measure => simp [intOf]; omega
      · obtain rfl : k = n := by omega
        have HE1 := Lib.hid (show (spanK g k).1 = lo ∧ (spanK g k).2 = hi by rw [HLO.out]; exact ⟨rfl, rfl⟩)
        rw [HE1.out.1, HE1.out.2] at HX
        have u0 := HX.out.lt
        have u1 := HX.out.cell 0 _ rfl
        have u2 := HX.out.cell 1 _ rfl
        go_wp2_with fail
        refine bodyPost_ret (v := .tuple #[.agg #[.int .i64 lo, .int .i64 hi], .int .i64 0]) (by simp [results, Tryd.results56, go_sem, *]) rfl ⟨rfl, ?_⟩
        exact Below.setCell (p := ⟨w.heap.size + 1, 1, none⟩) (Below.setCell (p := ⟨w.heap.size + 1, 0, none⟩) (bTrans HB.out HLB.out) (by simp <;> omega) (.int .i64 lo)) (by simp <;> omega) (.int .i64 hi)
  · have g0 : (er != 0) = true := by simp [he]
    have HNZ := Lib.hid he
    rw [if_neg he]
    clear he
    go_enter Tryd.func56, Tryd.ntmps56
    go_wp2_with fail
    rcases two_ways b1 b2 with rfl | ⟨rfl, rfl⟩ | ⟨rfl, rfl⟩
    all_goals
      obtain rfl := HG.out
      refine wp_region_call 9 (fun v w2 => v = .tuple #[.slice none 0 0, .int .i64 er] ∧ Below ((w.alloc (.cells #[.int .i64 t.wells, .slice Aw t.nw cw, .slice Af t.nf cf] 25)).alloc (.cells #[.int .i64 0, .int .i64 0] 47)).heap.size ((w.alloc (.cells #[.int .i64 t.wells, .slice Aw t.nw cw, .slice Af t.nf cf] 25)).alloc (.cells #[.int .i64 0, .int .i64 0] 47)) w2) (by kernel_rfl) (by decide +kernel) rfl ?_
      apply Exists.intro
      refine ⟨fun K hK => ?_, ?_, fun w1 hb1 K Q' hK => ?_, ?_⟩
      · skip
        repeat (first | (refine wpCalm_skip rfl ?_) | (refine wpCalm_step rfl (fun K hK => ?_); go_simp; (first | (refine hK _ ?_; clear hK K) | (apply Exists.intro; refine ⟨fun _ => ?_, hK _ ?_⟩; ((first | (go_at_call 59; with_reducible exact newer_of (HC1.out _ (below_regrown _ _ _))) | (go_at_call 37; with_reducible exact newer_of (HC2.out _)))); clear hK K))))
        refine wpCalm_nil ?_
        exact hK
      · rfl
      · go_simp
        refine (HCO.out w1 hb1).mono ?_
        rintro e w2 ⟨⟨v, rfl, _, ho⟩, hb2⟩
        exact hK _ w2 ⟨by rw [ho HNZ.out], bTrans hb1 hb2⟩
      rintro v w2 ⟨rfl, hb2⟩
      have HB2 := Lib.hid hb2
      clear hb2
      apply Exists.intro
      refine ⟨fun K hK => ?_, fun w3 hb3 => ?_⟩
      · skip
        repeat (first | (refine wpCalm_skip rfl ?_) | (refine wpCalm_step rfl (fun K hK => ?_); go_simp; (first | (refine hK _ ?_; clear hK K) | (apply Exists.intro; refine ⟨fun _ => ?_, hK _ ?_⟩; (fail); clear hK K))))
        refine wpCalm_nil ?_
        exact hK
      have HB3 := Lib.hid (bTrans HB2.out hb3)
      obtain ⟨bc3, bf3⟩ := bcell HB3.out
      have hz3 := HB3.out.size
      simp only [World.size_alloc] at hz3
      clear hb3
      go_wp2_with fail
      refine bodyPost_ret (v := .tuple #[.agg #[.int .i64 0, .int .i64 0], .int .i64 er]) (by simp [results, Tryd.results56, go_sem, *]) rfl ⟨rfl, ?_⟩
      exact Below.setCell (p := ⟨w.heap.size + 1, 1, none⟩) (Below.setCell (p := ⟨w.heap.size + 1, 0, none⟩) (bTrans HB.out HB3.out) (by simp <;> omega) (.int .i64 0)) (by simp <;> omega) (.int .i64 0)
end Go.Proofs.YtchhodikgllgnaaDoor
