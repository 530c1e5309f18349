/- Parts joined. -/
import Derived.Test.YtchhodikgllgnaaDoorNQF
import Derived.Test.YtchhodikgllgnaaDoorNQI
import Derived.Test.YtchhodikgllgnaaDoorNQH
import Derived.Test.YtchhodikgllgnaaDoorNQG
import Derived.Test.YtchhodikgllgnaaDoorNQB
set_option linter.unusedSimpArgs false
set_option linter.unusedVariables false
/- Walks of the law 05: SameTests. Conditions: lengths are Go's. -/
namespace Go.Proofs.YtchhodikgllgnaaDoor
open Go.RowKit Go.Sort
set_option maxHeartbeats 2000000 in
set_option maxRecDepth 100000 in
theorem sameTests_any (A B : Option Addr) (c c' : Nat) (l l' : List Tp) (w : World) (h1 : l.length ≤ 100000) (h2 : l'.length ≤ 100000) (hA : RowAt w A (tstE.cells l)) (hB : RowAt w B (tstE.cells l')) :
    Calls Tryd.prog 24 #[.slice A l.length c, .slice B l'.length c'] w fun e w' => e = .returned (.bool (decide (l = l'))) ∧ Below w.heap.size w w' := by
  have HA := Lib.hid hA
  have HB := Lib.hid hB
  clear hA hB
  obtain ⟨n, hn⟩ : ∃ n, l.length = n := ⟨_, rfl⟩
  obtain ⟨m, hm⟩ : ∃ m, l'.length = m := ⟨_, rfl⟩
  rw [hn] at h1 ⊢
  rw [hm] at h2 ⊢
  have HN := Lib.hid hn
  have HM := Lib.hid hm
  clear hn hm
  by_cases he : n = m
  · subst he
    go_enter Tryd.func24, Tryd.ntmps24
    go_wp2_with fail
    go_loopw [5] (fun i wr => ∃ k : Nat, k ≤ n ∧ i = .int .i64 k ∧ (∀ k' : Nat, k' < k → l[k']? = l'[k']?) ∧ Below w.heap.size w wr) (fun i _ => n - (intOf i).toNat)
    case atStart => exact ⟨0, Nat.zero_le _, rfl, fun k' hk' => absurd hk' (Nat.not_lt_zero _), Below.refl _ _⟩
    case round =>
      obtain ⟨k, hk, rfl, hall, hbel⟩ := hrel
      have HL := Lib.hid hbel
      have HALL := Lib.hid hall
      clear hall hbel
      by_cases hlt : k < n
      · obtain ⟨x, hx⟩ : ∃ x, l[k]? = some x := ⟨_, List.getElem?_eq_getElem (by rw [HN.out]; exact hlt)⟩
        obtain ⟨y, hy⟩ : ∃ y, l'[k]? = some y := ⟨_, List.getElem?_eq_getElem (by rw [HM.out]; exact hlt)⟩
        obtain ⟨b, o, rfl, hb, c0, c1⟩ := SliceE.tst (HA.out.mono HL.out) hx
        obtain ⟨b2, o2, rfl, hb2, d0, d1⟩ := SliceE.tst (HB.out.mono HL.out) hy
        obtain ⟨p, q⟩ := x
        obtain ⟨p2, q2⟩ := y
        have k1 : (k : Int) < (n : Int) := by omega
        have k0 : (0 : Int) ≤ (k : Int) := by omega
        obtain ⟨bs, hbs⟩ : ∃ bs, sameT p q p2 q2 = bs := ⟨_, rfl⟩
        have HBS := Lib.hid (show decide (((p, q) : Tp) = (p2, q2)) = bs by rw [← sameT_nat, hbs])
        have HX := Lib.hid hx
        have HY := Lib.hid hy
        clear hx hy
        cases bs
        · have HNE := Lib.hid (show decide (l = l') = false by
            refine decide_eq_false fun e => ?_
            subst e
            have := HX.out.symm.trans HY.out
            injection this with this
            exact absurd this (of_decide_eq_false HBS.out))
          go_wp2_with fail
          refine wp_region_quiet_below (by kernel_rfl) (by kernel_rfl) ?_
          repeat (go_big_quiet_step ((fail)))
          refine wpQuiet_nil ?_
          intro w3 hw3
          have HB3 := Lib.hid (bTrans HL.out (below_of_regrown hw3))
          clear hw3
          go_wp2_with fail
          go_ret
          exact ⟨ret_bool (by rw [HNE.out]), HB3.out⟩
        · have HAX := Lib.hid (show ∀ k' : Nat, k' < k + 1 → l[k']? = l'[k']? from fun k' hk' => by
            rcases Nat.lt_or_ge k' k with h | h
            · exact HALL.out k' h
            · obtain rfl : k' = k := by omega
              rw [HX.out, HY.out, of_decide_eq_true HBS.out])
          go_wp2_with fail
          refine wp_region_quiet_below (by kernel_rfl) (by kernel_rfl) ?_
          repeat (go_big_quiet_step ((fail)))
          refine wpQuiet_nil ?_
          intro w3 hw3
          have HB3 := Lib.hid (bTrans HL.out (below_of_regrown hw3))
          clear hw3
          go_wp2_with fail
          go_roundw
          case rel =>
            first
            | exact ⟨k + 1, by omega, by go_num, HAX.out, HB3.out⟩
            | ((repeat apply Exists.intro)
               refine ⟨⟨k + 1, by omega, ?_, HAX.out, HB3.out⟩, rfl⟩
               go_num)
          case measure => simp [intOf]; omega
      · obtain rfl : k = n := by omega
        have HEQ := Lib.hid (show decide (l = l') = true by
          refine decide_eq_true (List.ext_getElem? fun i => ?_)
          rcases Nat.lt_or_ge i k with h | h
          · exact HALL.out i h
          · rw [List.getElem?_eq_none (by rw [HN.out]; exact h), List.getElem?_eq_none (by rw [HM.out]; exact h)])
        go_wp2_with fail
        go_ret
        exact ⟨ret_bool (by rw [HEQ.out]), HL.out⟩
  · have g0 : ((n : Int) == (m : Int)) = false := by simp; omega
    have g1 : ((n : Int) != (m : Int)) = true := by simp; omega
    have HNE := Lib.hid (show decide (l = l') = false from decide_eq_false fun e => he (by rw [← HN.out, ← HM.out, e]))
    clear he
    go_enter Tryd.func24, Tryd.ntmps24
    go_wp2_with fail
    go_ret
    exact ⟨ret_bool (by rw [HNE.out]), Below.refl _ _⟩
end Go.Proofs.YtchhodikgllgnaaDoor
/- Walks of the reference 05: Tests. Condition: at most 4 wells. -/
namespace Go.Proofs.YtchhodikgllgnaaDoor
open Go.RowKit Go.Sort
set_option maxHeartbeats 4000000 in
set_option maxRecDepth 100000 in
theorem tests5_any (Aw Af : Option Addr) (cw cf m : Nat) (t : Qt) (w : World) (hm : t.wells = (m : Int)) (m4 : m ≤ 4) :
    Calls Tryd.prog 81 #[.agg #[.int .i64 t.wells, .slice Aw t.nw cw, .slice Af t.nf cf]] w fun e w' => (∃ v, e = .returned v ∧ OwnE tstE w' w.heap.size v t.tests) ∧ Below w.heap.size w w' := by
  have HTE := Lib.hid (show t.tests = testsL m by unfold Qt.tests; rw [hm]; rfl)
  have HB := Lib.hid (bAlloc (Below.refl w.heap.size w) (.cells #[.int .i64 m, .slice Aw t.nw cw, .slice Af t.nf cf] 25))
  rw [HTE.out, hm]
  clear hm
  go_enter Tryd.func81, Tryd.ntmps81
  go_wp2_with fail
  go_loopw [3, 4] (fun v i wr => ∃ p : Nat, p ≤ m ∧ i = .int .i64 p ∧ OwnE tstE wr (w.heap.size + 1) v (testsTo m p 0) ∧ Below (w.heap.size + 1) (w.alloc (.cells #[.int .i64 m, .slice Aw t.nw cw, .slice Af t.nf cf] 25)) wr) (fun _ i _ => m - (intOf i).toNat)
  case atStart => exact ⟨0, Nat.zero_le _, rfl, OwnE.nil _ _ _, by have := Below.refl (w.alloc (.cells #[.int .i64 m, .slice Aw t.nw cw, .slice Af t.nf cf] 25)).heap.size (w.alloc (.cells #[.int .i64 m, .slice Aw t.nw cw, .slice Af t.nf cf] 25)); simpa using this⟩
  case round =>
    obtain ⟨p, hp, rfl, hown, hbel⟩ := hrel
    have HO := Lib.hid hown
    have HL := Lib.hid hbel
    have y0 := (hbel.cell (p := ⟨w.heap.size, 0, none⟩) (by show w.heap.size < w.heap.size + 1; omega)).trans (show _ = some (.int .i64 m) by simp [go_sem])
    have hz := hbel.size
    simp only [World.size_alloc] at hz
    have hy : w.heap.size < wr.heap.size := by omega
    clear hown hbel
    by_cases hpm : p < m
    · have p1 : (p : Int) < (m : Int) := by omega
      go_wp2_with fail
      clear y0 hz hy
      go_loopw [3, 5] (fun v i wx => ∃ q : Nat, q ≤ m ∧ i = .int .i64 q ∧ OwnE tstE wx (w.heap.size + 1) v (testsTo m p q) ∧ Below (w.heap.size + 1) (w.alloc (.cells #[.int .i64 m, .slice Aw t.nw cw, .slice Af t.nf cf] 25)) wx) (fun _ i _ => m - (intOf i).toNat)
      case atStart => exact ⟨0, Nat.zero_le _, rfl, HO.out, HL.out⟩
      case round =>
        obtain ⟨q, hq, rfl, hown, hbel⟩ := hrel
        have HO2 := Lib.hid hown
        have HL2 := Lib.hid hbel
        have y0 := (hbel.cell (p := ⟨w.heap.size, 0, none⟩) (by show w.heap.size < w.heap.size + 1; omega)).trans (show _ = some (.int .i64 m) by simp [go_sem])
        have hz := hbel.size
        simp only [World.size_alloc] at hz
        have hy : w.heap.size < wr.heap.size := by omega
        clear hown hbel
        by_cases hqm : q < m
        · have q1 : (q : Int) < (m : Int) := by omega
          have HLE := Lib.hid (show (testsTo m p q).length ≤ 100000 by rw [testsTo_len]; have : p * m ≤ 4 * 4 := Nat.mul_le_mul (by omega) m4; omega)
          go_wp2_with (at_builtin; refine wpList_snocE tstG _ rfl (Operand.tmp 18) (Operand.tmp 22) rfl (w.heap.size + 1) _ (testsTo m p q) (p, q) rfl ?q1 wr.heap.size rfl ?q2 HLE.out ?q4 ?_)
          case q1 => exact HO2.out.mono (bAlloc (Below.refl _ _) _)
          case q2 =>
            intro a u hu
            match a, hu with
            | 0, hu =>
              obtain rfl : Value.int .i64 p = u := by simpa [tstE] using hu
              simp [go_sem]
            | 1, hu =>
              obtain rfl : Value.int .i64 q = u := by simpa [tstE] using hu
              simp [go_sem]
          case q4 => simp; omega
          intro v' w5 hown5 hb5 _ _
          have HO5 := Lib.hid ((testsTo_snoc m p q) ▸ hown5)
          have HL5 := Lib.hid (hb5 (w.heap.size + 1) _ (Nat.le_refl _) (HL2.out.trans ((bAlloc (Below.refl wr.heap.size wr) _).mono (by omega))))
          clear hown5 hb5
          go_wp2_with fail
          go_roundw
          case rel =>
            first
            | exact ⟨q + 1, by omega, by go_num, HO5.out, HL5.out⟩
            | ((repeat apply Exists.intro)
               refine ⟨⟨q + 1, by omega, ?_, HO5.out, HL5.out⟩, rfl⟩
               go_num)
          case measure => simp [intOf]; omega
        · obtain rfl : q = m := by omega
          have HO5 := Lib.hid ((testsTo_row q p) ▸ HO2.out)
          go_wp2_with fail
          go_roundw
          case rel =>
            first
            | exact ⟨p + 1, by omega, by go_num, HO5.out, HL2.out⟩
            | ((repeat apply Exists.intro)
               refine ⟨⟨p + 1, by omega, ?_, HO5.out, HL2.out⟩, rfl⟩
               go_num)
          case measure => simp [intOf]; omega
    · obtain rfl : p = m := by omega
      have HO5 := Lib.hid ((testsTo_all p) ▸ HO.out)
      go_wp2_with fail
      go_ret
      exact ⟨⟨_, rfl, HO5.out.lower (by omega)⟩, bTrans HB.out (by have := HL.out; simpa using this)⟩
end Go.Proofs.YtchhodikgllgnaaDoor
/- Walks of the reference 05: Apart. Conditions: a valid town, a test and worlds of it. -/
namespace Go.Proofs.YtchhodikgllgnaaDoor
open Go.RowKit Go.Sort
set_option maxHeartbeats 2000000 in
theorem apart5_any (Aw Af : Option Addr) (cw cf : Nat) (t : Qt) (p q i j : Nat) (w : World) (ok : t.Ok) (hT : QAt w Aw Af t) (hp : (p : Int) < t.wells) (hq : (q : Int) < t.wells) (hi : i < t.nw) (hj : j < t.nw) :
    Calls Tryd.prog 120 #[.agg #[.int .i64 t.wells, .slice Aw t.nw cw, .slice Af t.nf cf], .agg #[.int .i64 p, .int .i64 q], .int .i64 i, .int .i64 j] w fun e w' => e = .returned (.bool (t.apart (p, q) i j)) ∧ Below w.heap.size w w' := by
  have hb0 := bAlloc (bAlloc (Below.refl w.heap.size w) (.cells #[.int .i64 t.wells, .slice Aw t.nw cw, .slice Af t.nf cf] 25)) (.cells #[.int .i64 p, .int .i64 q] 27)
  have HB := Lib.hid hb0
  obtain ⟨u, hu⟩ : ∃ u, t.F (i : Int) (p, q) = u := ⟨_, rfl⟩
  obtain ⟨v, hv⟩ : ∃ v, t.F (j : Int) (p, q) = v := ⟨_, rfl⟩
  have HF1 := Lib.hid (fun (w' : World) (hb : Below ((w.alloc (.cells #[.int .i64 t.wells, .slice Aw t.nw cw, .slice Af t.nf cf] 25)).alloc (.cells #[.int .i64 p, .int .i64 q] 27)).heap.size ((w.alloc (.cells #[.int .i64 t.wells, .slice Aw t.nw cw, .slice Af t.nf cf] 25)).alloc (.cells #[.int .i64 p, .int .i64 q] 27)) w') => (hu ▸ fallAt_F t i p q ▸ fall5_any Aw Af cw cf t i p q w' ok hi hp hq ((hT.mono hb0).mono hb) : Calls Tryd.prog 63 #[.agg #[.int .i64 t.wells, .slice Aw t.nw cw, .slice Af t.nf cf], .int .i64 i, .int .i64 p, .int .i64 q] w' fun e w'' => e = .returned (.int .i64 u) ∧ Below w'.heap.size w' w''))
  have HF2 := Lib.hid (fun (w' : World) (hb : Below ((w.alloc (.cells #[.int .i64 t.wells, .slice Aw t.nw cw, .slice Af t.nf cf] 25)).alloc (.cells #[.int .i64 p, .int .i64 q] 27)).heap.size ((w.alloc (.cells #[.int .i64 t.wells, .slice Aw t.nw cw, .slice Af t.nf cf] 25)).alloc (.cells #[.int .i64 p, .int .i64 q] 27)) w') => (hv ▸ fallAt_F t j p q ▸ fall5_any Aw Af cw cf t j p q w' ok hj hp hq ((hT.mono hb0).mono hb) : Calls Tryd.prog 63 #[.agg #[.int .i64 t.wells, .slice Aw t.nw cw, .slice Af t.nf cf], .int .i64 j, .int .i64 p, .int .i64 q] w' fun e w'' => e = .returned (.int .i64 v) ∧ Below w'.heap.size w' w''))
  have HR := Lib.hid (show t.apart (p, q) i j = (u != v) by unfold Qt.apart; rw [hu, hv])
  clear hb0 hT ok hu hv hp hq hi hj
  go_enter Tryd.func120, Tryd.ntmps120
  go_wp2_with fail
  refine wp_region_quiet_below (by kernel_rfl) (by kernel_rfl) ?_
  repeat (go_big_quiet_step (((first | (go_at_call 63; with_reducible exact Calls.regrown_of (HF1.out _ (below_regrown _ _ _))) | (go_at_call 63; with_reducible exact Calls.regrown_of (HF2.out _ (below_regrown _ _ _)))))))
  refine wpQuiet_nil ?_
  intro w9 hw9
  have HB9 := Lib.hid (bTrans HB.out (below_of_regrown hw9))
  clear hw9
  go_wp2_with fail
  go_ret
  exact ⟨ret_bool (by rw [HR.out]), HB9.out⟩
end Go.Proofs.YtchhodikgllgnaaDoor
/- Walks of the reference 05: some. Conditions: a valid town, tests and worlds of it. -/
namespace Go.Proofs.YtchhodikgllgnaaDoor
open Go.RowKit Go.Sort
set_option maxHeartbeats 2000000 in
set_option maxRecDepth 100000 in
theorem some5_any (Aw Af A : Option Addr) (cw cf c : Nat) (t : Qt) (l : List Tp) (i j : Nat) (w : World) (ok : t.Ok) (hT : QAt w Aw Af t) (hl : t.TestsOk l) (hlen : l.length ≤ 100000) (hA : RowAt w A (tstE.cells l)) (hi : i < t.nw) (hj : j < t.nw) :
    Calls Tryd.prog 84 #[.agg #[.int .i64 t.wells, .slice Aw t.nw cw, .slice Af t.nf cf], .slice A l.length c, .int .i64 i, .int .i64 j] w fun e w' => e = .returned (.bool (t.someB l i j)) ∧ Below w.heap.size w w' := by
  have hb0 := bAlloc (Below.refl w.heap.size w) (.cells #[.int .i64 t.wells, .slice Aw t.nw cw, .slice Af t.nf cf] 25)
  have HB := Lib.hid hb0
  have HT := Lib.hid (hT.mono hb0)
  have HA := Lib.hid (hA.mono hb0)
  have HOK := Lib.hid ok
  have HLO := Lib.hid hl
  have HI := Lib.hid hi
  have HJ := Lib.hid hj
  obtain ⟨n, hn⟩ : ∃ n, l.length = n := ⟨_, rfl⟩
  rw [hn] at hlen ⊢
  have HN := Lib.hid hn
  clear hb0 hT hA ok hl hi hj hn
  go_enter Tryd.func84, Tryd.ntmps84
  go_wp2_with fail
  go_loopw [9] (fun s wr => ∃ k : Nat, k ≤ n ∧ s = .int .i64 k ∧ t.someB (l.take k) i j = false ∧ Below (w.alloc (.cells #[.int .i64 t.wells, .slice Aw t.nw cw, .slice Af t.nf cf] 25)).heap.size (w.alloc (.cells #[.int .i64 t.wells, .slice Aw t.nw cw, .slice Af t.nf cf] 25)) wr) (fun s _ => n - (intOf s).toNat)
  case atStart => exact ⟨0, Nat.zero_le _, rfl, rfl, Below.refl _ _⟩
  case round =>
    obtain ⟨k, hk, rfl, hno, hbel⟩ := hrel
    have HNO := Lib.hid hno
    have HL := Lib.hid hbel
    obtain ⟨bc3, bf3⟩ := bcell hbel
    have hz3 := hbel.size
    simp only [World.size_alloc] at hz3
    have hy3 : w.heap.size < wr.heap.size := by omega
    clear hbel hno
    by_cases hlt : k < n
    · obtain ⟨x, hx⟩ : ∃ x, l[k]? = some x := ⟨_, List.getElem?_eq_getElem (by rw [HN.out]; exact hlt)⟩
      obtain ⟨b, o, rfl, hb, c0, c1⟩ := SliceE.tst (HA.out.mono HL.out) hx
      have hxo := HLO.out x (List.mem_of_getElem? hx)
      obtain ⟨p, q⟩ := x
      have k1 : (k : Int) < (n : Int) := by omega
      have k0 : (0 : Int) ≤ (k : Int) := by omega
      obtain ⟨ba, hba⟩ : ∃ ba, t.apart (p, q) i j = ba := ⟨_, rfl⟩
      have HF := Lib.hid (fun (w' : World) (hb : Below wr.heap.size wr w') => (hba ▸ apart5_any Aw Af cw cf t p q i j w' HOK.out ((HT.out.mono HL.out).mono hb) hxo.1 hxo.2 HI.out HJ.out : Calls Tryd.prog 120 #[.agg #[.int .i64 t.wells, .slice Aw t.nw cw, .slice Af t.nf cf], .agg #[.int .i64 p, .int .i64 q], .int .i64 i, .int .i64 j] w' fun e w'' => e = .returned (.bool ba) ∧ Below w'.heap.size w' w''))
      have HST := Lib.hid (show t.someB (l.take (k + 1)) i j = ba by
        have h := HNO.out
        unfold Qt.someB at h ⊢
        rw [List.take_add_one, hx, List.any_append, h]
        simp [hba])
      have HIN := Lib.hid (show ba = true → t.someB l i j = true from fun e => by
        unfold Qt.someB
        rw [List.any_eq_true]
        exact ⟨_, List.mem_of_getElem? hx, by rw [hba]; exact e⟩)
      clear hx hxo hba
      go_wp2_with fail
      refine wp_region_quiet_below (by kernel_rfl) (by kernel_rfl) ?_
      repeat (go_big_quiet_step (((go_at_call 120; with_reducible exact Calls.regrown_of (HF.out _ (below_regrown _ _ _))))))
      refine wpQuiet_nil ?_
      intro w9 hw9
      have HL9 := Lib.hid (bTrans HL.out (below_of_regrown hw9))
      clear hw9
      cases ba
      · go_wp2_with fail
        go_roundw
        case rel =>
          first
          | exact ⟨k + 1, by omega, by go_num, HST.out, HL9.out⟩
          | ((repeat apply Exists.intro)
             refine ⟨⟨k + 1, by omega, ?_, HST.out, HL9.out⟩, rfl⟩
             go_num)
        case measure => simp [intOf]; omega
      · have HY := Lib.hid (HIN.out (by trivial))
        go_wp2_with fail
        go_ret
        exact ⟨ret_bool (by rw [HY.out]), bTrans HB.out HL9.out⟩
    · obtain rfl : k = n := by omega
      have HZ := Lib.hid (show t.someB l i j = false by have := HNO.out; rwa [List.take_of_length_le (by rw [HN.out]; exact Nat.le_refl _)] at this)
      go_wp2_with fail
      go_ret
      exact ⟨ret_bool (by rw [HZ.out]), bTrans HB.out HL.out⟩
end Go.Proofs.YtchhodikgllgnaaDoor
/- Walks of the reference 05: Shown. Conditions: a valid town, a test and worlds of it. -/
namespace Go.Proofs.YtchhodikgllgnaaDoor
open Go.RowKit Go.Sort
set_option maxHeartbeats 3000000 in
set_option maxRecDepth 100000 in
theorem shown5_any (Aw Af A : Option Addr) (cw cf c : Nat) (t : Qt) (p q : Nat) (L : List Int) (f : Int) (w : World) (ok : t.Ok) (hT : QAt w Aw Af t) (hp : (p : Int) < t.wells) (hq : (q : Int) < t.wells) (hL : ∀ a, a ∈ L → ∃ i : Nat, i < t.nw ∧ a = i) (hlen : L.length ≤ 100) (hA : RowAt w A (numL L)) :
    Calls Tryd.prog 47 #[.agg #[.int .i64 t.wells, .slice Aw t.nw cw, .slice Af t.nf cf], .agg #[.int .i64 p, .int .i64 q], .slice A L.length c, .int .i64 f] w fun e w' => (∃ v, e = .returned v ∧ OwnL w' w.heap.size v (t.shown (p, q) L f)) ∧ Below w.heap.size w w' := by
  have hb0 := bAlloc (bAlloc (Below.refl w.heap.size w) (.cells #[.int .i64 t.wells, .slice Aw t.nw cw, .slice Af t.nf cf] 25)) (.cells #[.int .i64 p, .int .i64 q] 27)
  have HB := Lib.hid hb0
  have HT := Lib.hid (hT.mono hb0)
  have HA := Lib.hid (hA.mono hb0)
  have HOK := Lib.hid ok
  have HLL := Lib.hid hL
  have HP := Lib.hid hp
  have HQ := Lib.hid hq
  obtain ⟨n, hn⟩ : ∃ n, L.length = n := ⟨_, rfl⟩
  rw [hn] at hlen ⊢
  have HN := Lib.hid hn
  clear hb0 hT hA ok hL hp hq hn
  go_enter Tryd.func47, Tryd.ntmps47
  go_wp2_with fail
  go_loopw [9, 10] (fun v s wr => ∃ k : Nat, k ≤ n ∧ s = .int .i64 k ∧ OwnL wr ((w.alloc (.cells #[.int .i64 t.wells, .slice Aw t.nw cw, .slice Af t.nf cf] 25)).alloc (.cells #[.int .i64 p, .int .i64 q] 27)).heap.size v (t.shown (p, q) (L.take k) f) ∧ Below ((w.alloc (.cells #[.int .i64 t.wells, .slice Aw t.nw cw, .slice Af t.nf cf] 25)).alloc (.cells #[.int .i64 p, .int .i64 q] 27)).heap.size ((w.alloc (.cells #[.int .i64 t.wells, .slice Aw t.nw cw, .slice Af t.nf cf] 25)).alloc (.cells #[.int .i64 p, .int .i64 q] 27)) wr) (fun _ s _ => n - (intOf s).toNat)
  case atStart => exact ⟨0, Nat.zero_le _, rfl, OwnL.nil _ _, Below.refl _ _⟩
  case round =>
    obtain ⟨k, hk, rfl, hown, hbel⟩ := hrel
    have HO := Lib.hid hown
    have HL := Lib.hid hbel
    obtain ⟨bc3, bf3⟩ := bcell hbel
    have hz3 := hbel.size
    simp only [World.size_alloc] at hz3
    have hy3 : w.heap.size < wr.heap.size := by omega
    have hy4 : w.heap.size + 1 < wr.heap.size := by omega
    clear hbel hown
    by_cases hlt : k < n
    · obtain ⟨a, ha⟩ : ∃ a, L[k]? = some a := ⟨_, List.getElem?_eq_getElem (by rw [HN.out]; exact hlt)⟩
      obtain ⟨x, hx, rfl⟩ := HLL.out a (List.mem_of_getElem? ha)
      obtain ⟨bs, os, hAs, hbs, cs⟩ := (HA.out.mono HL.out).num ha
      subst hAs
      have k1 : (k : Int) < (n : Int) := by omega
      have k0 : (0 : Int) ≤ (k : Int) := by omega
      obtain ⟨v, hv⟩ : ∃ v, t.F (x : Int) (p, q) = v := ⟨_, rfl⟩
      have HF := Lib.hid (fun (w' : World) (hb : Below wr.heap.size wr w') => (hv ▸ fallAt_F t x p q ▸ fall5_any Aw Af cw cf t x p q w' HOK.out hx HP.out HQ.out ((HT.out.mono HL.out).mono hb) : Calls Tryd.prog 63 #[.agg #[.int .i64 t.wells, .slice Aw t.nw cw, .slice Af t.nf cf], .int .i64 x, .int .i64 p, .int .i64 q] w' fun e w'' => e = .returned (.int .i64 v) ∧ Below w'.heap.size w' w''))
      obtain ⟨bg, hbg⟩ : ∃ bg, (v == f) = bg := ⟨_, rfl⟩
      have HST := Lib.hid (show t.shown (p, q) (L.take (k + 1)) f = t.shown (p, q) (L.take k) f ++ (if bg then [(x : Int)] else []) by
        unfold Qt.shown
        rw [List.take_add_one, ha, List.filter_append]
        congr 1
        simp [hv, hbg, List.filter_cons])
      have HLE := Lib.hid (show (t.shown (p, q) (L.take k) f).length ≤ 1000 by unfold Qt.shown; have h1 := List.length_filter_le (fun w => t.F w (p, q) == f) (L.take k); have h2 := List.length_take_le k L; omega)
      clear ha hx hv
      go_wp2_with fail
      refine wp_region_quiet_below (by kernel_rfl) (by kernel_rfl) ?_
      repeat (go_big_quiet_step (((go_at_call 63; with_reducible exact Calls.regrown_of (HF.out _ (below_regrown _ _ _))))))
      refine wpQuiet_nil ?_
      intro w9 hw9
      have hb9 := below_of_regrown hw9
      have HO9 := Lib.hid (HO.out.mono hb9)
      have HL9 := Lib.hid (bTrans HL.out hb9)
      have hz9 := HL9.out.size
      have c9 := (hb9.cell (p := ⟨bs, os + k, none⟩) hbs).trans cs
      have hb99 := Nat.lt_of_lt_of_le hbs hb9.size
      simp only [World.size_alloc] at hz9
      clear hw9 hb9 bc3 bf3 cs hbs
      cases bg
      · have HS := Lib.hid (show t.shown (p, q) (L.take (k + 1)) f = t.shown (p, q) (L.take k) f by rw [HST.out]; simp)
        go_wp2_with fail
        go_roundw
        case rel =>
          first
          | exact ⟨k + 1, by omega, by go_num, by rw [HS.out]; exact HO9.out, HL9.out⟩
          | ((repeat apply Exists.intro)
             refine ⟨⟨k + 1, by omega, ?_, by rw [HS.out]; exact HO9.out, HL9.out⟩, rfl⟩
             go_num)
        case measure => simp [intOf]; omega
      · have HS := Lib.hid (show t.shown (p, q) (L.take (k + 1)) f = t.shown (p, q) (L.take k) f ++ [(x : Int)] by rw [HST.out]; simp)
        go_wp2_with (at_builtin; refine wpList_snoc _ rfl (Operand.tmp 29) (Operand.tmp 34) rfl (w.heap.size + 1 + 1) _ (t.shown (p, q) (L.take k) f) rfl ?q1 w9.heap.size x rfl ?q2 HLE.out ?q3 ?_)
        case q1 =>
          have h := HO9.out
          simp only [World.size_alloc] at h
          exact h.mono (bAlloc (Below.refl _ _) _)
        case q3 => first | omega | (simp <;> omega) | simp [go_sem]
        intro v' w5 hown5 hb5
        have HO5 := Lib.hid hown5
        have HL5 := Lib.hid (hb5 (w.heap.size + 1 + 1) _ (Nat.le_refl _) (show Below (w.heap.size + 1 + 1) ((w.alloc (.cells #[.int .i64 t.wells, .slice Aw t.nw cw, .slice Af t.nf cf] 25)).alloc (.cells #[.int .i64 p, .int .i64 q] 27)) _ by have := bAlloc HL9.out (.cells #[.int .i64 x] 3); simpa using this))
        clear hown5 hb5
        go_wp2_with fail
        go_roundw
        case rel =>
          have h1 := HO5.out
          have h2 := HL5.out
          first
          | exact ⟨k + 1, by omega, by go_num, by rw [HS.out]; simpa using h1, by simpa using h2⟩
          | ((repeat apply Exists.intro)
             refine ⟨⟨k + 1, by omega, ?_, by rw [HS.out]; simpa using h1, by simpa using h2⟩, rfl⟩
             go_num)
        case measure => simp [intOf]; omega
    · obtain rfl : k = n := by omega
      have HZ := Lib.hid (show t.shown (p, q) (L.take k) f = t.shown (p, q) L f by rw [List.take_of_length_le (by rw [HN.out]; exact Nat.le_refl _)])
      have HO5 := Lib.hid (HZ.out ▸ HO.out)
      go_wp2_with fail
      go_ret
      exact ⟨⟨_, rfl, HO5.out.lower (by simp; omega)⟩, bTrans HB.out HL.out⟩
end Go.Proofs.YtchhodikgllgnaaDoor
/- Walks of the reference 05: AllApart. Conditions: a valid town, tests and worlds of it. -/
namespace Go.Proofs.YtchhodikgllgnaaDoor
open Go.RowKit Go.Sort
set_option maxHeartbeats 4000000 in
set_option maxRecDepth 100000 in
theorem allApart5_any (Aw Af A B : Option Addr) (cw cf c cl : Nat) (t : Qt) (l : List Tp) (L : List Int) (w : World) (ok : t.Ok) (hT : QAt w Aw Af t) (hl : t.TestsOk l) (hll : l.length ≤ 100000) (hA : RowAt w A (tstE.cells l)) (hL : ∀ a, a ∈ L → ∃ i : Nat, i < t.nw ∧ a = i) (hlen : L.length ≤ 100) (hB : RowAt w B (numL L)) :
    Calls Tryd.prog 29 #[.agg #[.int .i64 t.wells, .slice Aw t.nw cw, .slice Af t.nf cf], .slice A l.length c, .slice B L.length cl] w fun e w' => e = .returned (.bool (t.allApart l L)) ∧ Below w.heap.size w w' := by
  have hb0 := bAlloc (Below.refl w.heap.size w) (.cells #[.int .i64 t.wells, .slice Aw t.nw cw, .slice Af t.nf cf] 25)
  have HB0 := Lib.hid hb0
  have HT := Lib.hid (hT.mono hb0)
  have HA := Lib.hid (hA.mono hb0)
  have HBR := Lib.hid (hB.mono hb0)
  have HOK := Lib.hid ok
  have HLO := Lib.hid hl
  have HLL := Lib.hid hL
  obtain ⟨m, hm⟩ : ∃ m : Nat, t.wells = (m : Int) := ⟨t.wells.toNat, by have := ok.w0; omega⟩
  have m4 : m ≤ 4 := by have := ok.w1; omega
  have HTS := Lib.hid (fun w' => tests5_any Aw Af cw cf m t w' hm m4)
  have HTL := Lib.hid (show t.tests.length ≤ 100000 by unfold Qt.tests; rw [testsL_len, hm, Int.toNat_natCast]; have : m * m ≤ 4 * 4 := Nat.mul_le_mul m4 m4; omega)
  have HTO := Lib.hid (show t.TestsOk t.tests from fun x hx => by
    have := testsL_mem.1 hx
    have := ok.w0
    omega)
  obtain ⟨n, hn⟩ : ∃ n, L.length = n := ⟨_, rfl⟩
  obtain ⟨nl, hnl⟩ : ∃ nl, l.length = nl := ⟨_, rfl⟩
  have HALL := Lib.hid (show t.allApart l L = !anyB (fun i => anyB (fun k => t.someB t.tests (intL0 L i) (intL0 L k) && !t.someB l (intL0 L i) (intL0 L k)) i) n by unfold Qt.allApart; rw [hn])
  rw [hn] at hlen ⊢
  rw [hnl] at hll ⊢
  have HN := Lib.hid hn
  have HNL := Lib.hid hnl
  clear hb0 hT hA hB ok hl hL hn hnl hm
  go_enter Tryd.func29, Tryd.ntmps29
  go_wp2_with fail
  refine (HTS.out _).mono ?_
  rintro e w1 ⟨⟨v, rfl, hv⟩, hb1⟩
  obtain ⟨At, ct, rfl, hrt⟩ := hv.read
  obtain ⟨nt, hnt⟩ : ∃ nt, t.tests.length = nt := ⟨_, rfl⟩
  rw [hnt]
  have HNT := Lib.hid hnt
  have HRT := Lib.hid hrt
  have HB1 := Lib.hid hb1
  clear hv hrt hb1 hnt
  go_wp2_with fail
  go_loopw [8] (fun s wr => ∃ i : Nat, i ≤ n ∧ s = .int .i64 i ∧ anyB (fun i => anyB (fun k => t.someB t.tests (intL0 L i) (intL0 L k) && !t.someB l (intL0 L i) (intL0 L k)) i) i = false ∧ Below w1.heap.size w1 wr) (fun s _ => n - (intOf s).toNat)
  case atStart => exact ⟨0, Nat.zero_le _, rfl, rfl, Below.refl _ _⟩
  case round =>
    obtain ⟨i, hi, rfl, hno, hbel⟩ := hrel
    have HNO := Lib.hid hno
    have HL := Lib.hid hbel
    clear hno hbel
    by_cases hlt : i < n
    · have i1 : (i : Int) < (n : Int) := by omega
      go_wp2_with fail
      go_loopw [9] (fun s wx => ∃ k : Nat, k ≤ i ∧ s = .int .i64 k ∧ anyB (fun k => t.someB t.tests (intL0 L i) (intL0 L k) && !t.someB l (intL0 L i) (intL0 L k)) k = false ∧ Below w1.heap.size w1 wx) (fun s _ => i - (intOf s).toNat)
      case atStart => exact ⟨0, Nat.zero_le _, rfl, rfl, HL.out⟩
      case round =>
        obtain ⟨k, hk, rfl, hno, hbel⟩ := hrel
        have HNK := Lib.hid hno
        have HX := Lib.hid hbel
        have HXB := Lib.hid (bTrans HB1.out hbel)
        obtain ⟨bc3, bf3⟩ := bcell (bTrans HB1.out hbel)
        have hz3 := (bTrans HB1.out hbel).size
        simp only [World.size_alloc] at hz3
        have hy3 : w.heap.size < wr.heap.size := by omega
        clear hno hbel
        by_cases hlk : k < i
        · obtain ⟨a, ha⟩ : ∃ a, L[i]? = some a := ⟨_, List.getElem?_eq_getElem (by rw [HN.out]; exact hlt)⟩
          obtain ⟨b, hb⟩ : ∃ b, L[k]? = some b := ⟨_, List.getElem?_eq_getElem (by rw [HN.out]; omega)⟩
          obtain ⟨x, hx, rfl⟩ := HLL.out a (List.mem_of_getElem? ha)
          obtain ⟨y, hy, rfl⟩ := HLL.out b (List.mem_of_getElem? hb)
          obtain ⟨bs, os, hBs, hbs, cs⟩ := (HBR.out.mono HXB.out).num ha
          obtain ⟨bs2, os2, hBs2, _, cs2⟩ := (HBR.out.mono HXB.out).num hb
          subst hBs
          simp only [Option.some.injEq, Addr.mk.injEq, and_true] at hBs2
          obtain ⟨rfl, rfl⟩ := hBs2
          have e1 : intL0 L i = (x : Int) := by unfold intL0; rw [ha]; rfl
          have e2 : intL0 L k = (y : Int) := by unfold intL0; rw [hb]; rfl
          obtain ⟨b1, h1⟩ : ∃ b1, t.someB t.tests x y = b1 := ⟨_, rfl⟩
          obtain ⟨b2, h2⟩ : ∃ b2, t.someB l x y = b2 := ⟨_, rfl⟩
          have HS1 := Lib.hid (fun (w' : World) (hb : Below wr.heap.size wr w') => (by
            have := some5_any Aw Af At cw cf ct t t.tests x y w' HOK.out ((HT.out.mono HXB.out).mono hb) HTO.out HTL.out ((HRT.out.mono HX.out).mono hb) hx hy
            rw [HNT.out, h1] at this
            exact this : Calls Tryd.prog 84 #[.agg #[.int .i64 t.wells, .slice Aw t.nw cw, .slice Af t.nf cf], .slice At nt ct, .int .i64 x, .int .i64 y] w' fun e w'' => e = .returned (.bool b1) ∧ Below w'.heap.size w' w''))
          have HS2 := Lib.hid (fun (w' : World) (hb : Below wr.heap.size wr w') => (by
            have := some5_any Aw Af A cw cf c t l x y w' HOK.out ((HT.out.mono HXB.out).mono hb) HLO.out (by rw [HNL.out]; exact hll) ((HA.out.mono HXB.out).mono hb) hx hy
            rw [HNL.out, h2] at this
            exact this : Calls Tryd.prog 84 #[.agg #[.int .i64 t.wells, .slice Aw t.nw cw, .slice Af t.nf cf], .slice A nl c, .int .i64 x, .int .i64 y] w' fun e w'' => e = .returned (.bool b2) ∧ Below w'.heap.size w' w''))
          have HST := Lib.hid (show (fun k => t.someB t.tests (intL0 L i) (intL0 L k) && !t.someB l (intL0 L i) (intL0 L k)) k = (b1 && !b2) by
            show (t.someB t.tests (intL0 L i) (intL0 L k) && !t.someB l (intL0 L i) (intL0 L k)) = _
            rw [e1, e2, h1, h2])
          have k1 : (k : Int) < (i : Int) := by omega
          have k2 : (k : Int) < (n : Int) := by omega
          have k0 : (0 : Int) ≤ (k : Int) := by omega
          have i0 : (0 : Int) ≤ (i : Int) := by omega
          clear ha hb hx hy e1 e2 h1 h2
          rcases two_ways b1 b2 with rfl | ⟨rfl, rfl⟩ | ⟨rfl, rfl⟩
          all_goals
            go_wp2_with fail
            refine wp_region_quiet_below (by kernel_rfl) (by kernel_rfl) ?_
            repeat (go_big_quiet_step (((first | (go_at_call 84; with_reducible exact Calls.regrown_of (HS1.out _ (below_regrown _ _ _))) | (go_at_call 84; with_reducible exact Calls.regrown_of (HS2.out _ (below_regrown _ _ _)))))))
            refine wpQuiet_nil ?_
            intro w9 hw9
            have HX9 := Lib.hid (bTrans HX.out (below_of_regrown hw9))
            have HXB9 := Lib.hid (bTrans HXB.out (below_of_regrown hw9))
            clear hw9
          · have HY := Lib.hid (anyB_step HNK.out (HST.out.trans (by simp)))
            go_wp2_with fail
            go_roundw
            case rel =>
              first
              | exact ⟨k + 1, by omega, by go_num, HY.out, HX9.out⟩
              | ((repeat apply Exists.intro)
                 refine ⟨⟨k + 1, by omega, ?_, HY.out, HX9.out⟩, rfl⟩
                 go_num)
            case measure => simp [intOf]; omega
          · have HY := Lib.hid (show t.allApart l L = false by
              rw [HALL.out, Bool.not_eq_false']
              exact anyB_hit hlt (show (fun i => anyB (fun k => t.someB t.tests (intL0 L i) (intL0 L k) && !t.someB l (intL0 L i) (intL0 L k)) i) i = true from anyB_hit hlk HST.out))
            go_wp2_with fail
            go_ret
            exact ⟨ret_bool (by rw [HY.out]), bTrans HB0.out HXB9.out⟩
          · have HY := Lib.hid (anyB_step HNK.out (HST.out.trans (by simp)))
            go_wp2_with fail
            go_roundw
            case rel =>
              first
              | exact ⟨k + 1, by omega, by go_num, HY.out, HX9.out⟩
              | ((repeat apply Exists.intro)
                 refine ⟨⟨k + 1, by omega, ?_, HY.out, HX9.out⟩, rfl⟩
                 go_num)
            case measure => simp [intOf]; omega
        · obtain rfl : k = i := by omega
          have HY := Lib.hid (anyB_step HNO.out HNK.out)
          have k1 : ¬ (k : Int) < (k : Int) := by omega
          go_wp2_with fail
          go_roundw
          case rel =>
            first
            | exact ⟨k + 1, by omega, by go_num, HY.out, HX.out⟩
            | ((repeat apply Exists.intro)
               refine ⟨⟨k + 1, by omega, ?_, HY.out, HX.out⟩, rfl⟩
               go_num)
          case measure => simp [intOf]; omega
    · obtain rfl : i = n := by omega
      have HZ := Lib.hid (show t.allApart l L = true by rw [HALL.out, HNO.out]; rfl)
      go_wp2_with fail
      go_ret
      exact ⟨ret_bool (by rw [HZ.out]), bTrans HB0.out (bTrans HB1.out HL.out)⟩
end Go.Proofs.YtchhodikgllgnaaDoor
/- Walks of the reference 05: Between. Conditions: lengths are Go's. -/
namespace Go.Proofs.YtchhodikgllgnaaDoor
open Go.RowKit Go.Sort
end Go.Proofs.YtchhodikgllgnaaDoor
/- Walks of the reference 05: Total. Conditions: lengths are Go's. -/
namespace Go.Proofs.YtchhodikgllgnaaDoor
open Go.RowKit Go.Sort
end Go.Proofs.YtchhodikgllgnaaDoor
/- Memory that is kept by the types of its blocks; own boxes; copies of worlds and of towns, and how they read. No program in sight but the layout. -/
namespace Go.Proofs.YtchhodikgllgnaaDoor
open Go.RowKit Go.Sort
/-- all blocks of some types are kept -/
def Kept (l : List TypeId) (w w' : World) : Prop := w.heap.size ≤ w'.heap.size ∧ ∀ (b : Nat) (cs : Array Value) (t : TypeId) (fr : Nat × Nat), w.heap[b]? = some (Obj.cells cs t fr) → t ∈ l → w'.heap[b]? = w.heap[b]?
theorem Kept.of_below {l : List TypeId} {w w' : World} (h : Below w.heap.size w w') : Kept l w w' := ⟨h.size, fun b _ _ _ hb _ => h.block b (Array.getElem?_eq_some_iff.1 hb).1⟩
theorem Kept.of_grown {l : List TypeId} {w w' : World} {row : Option Nat} (hg : w.grownBy w' row) (ht : ∀ g, row = some g → ∃ cur e fr, w.heap[g]? = some (Obj.cells cur e fr) ∧ e ∉ l) : Kept l w w' :=
  ⟨hg.size, fun b cs t fr hb hl => hg.block b (Array.getElem?_eq_some_iff.1 hb).1 fun e => by
    obtain ⟨cur, e', fr', h1, h2⟩ := ht b e.symm
    rw [hb] at h1
    injection h1 with h1
    injection h1 with _ h1 _
    exact h2 (h1 ▸ hl)⟩
theorem Kept.of_own {l : List TypeId} {w w' : World} {base : Nat} {e : TypeId} {size n : Nat} {v : Value} {xs : List Value} (hg : w.grownBy w' v.ownBlock) (ho : w.ownsRow base e size v n xs) (he : e ∉ l) : Kept l w w' :=
  Kept.of_grown hg fun g hgo => by
    obtain ⟨_, cur, h⟩ := owns_typed ho g hgo
    exact ⟨cur, e, _, h, he⟩
theorem Kept.trans {l : List TypeId} {w w' w'' : World} (h : Kept l w w') (k : Kept l w' w'') : Kept l w w'' :=
  ⟨Nat.le_trans h.1 k.1, fun b cs t fr hb hl => by
    have h1 := h.2 b cs t fr hb hl
    rw [← h1]
    exact k.2 b cs t fr (h1.trans hb) hl⟩
theorem Kept.set {l : List TypeId} {w : World} {b : Nat} {cs : Array Value} {t : TypeId} {fr : Nat × Nat} (hb : w.heap[b]? = some (Obj.cells cs t fr)) (ht : t ∉ l) (o : Nat) (u : Value) : Kept l w (w.setCell ⟨b, o, none⟩ u) :=
  ⟨by simp, fun b' cs' t' fr' hb' hl => Below.heap_setCell w ⟨b, o, none⟩ u b' fun e => by
    subst e
    rw [hb] at hb'
    injection hb' with h1
    injection h1 with _ h1 _
    exact ht (h1 ▸ hl)⟩
/-! ### A box of the call's own, whole -/
def TBox (w : World) (b : Nat) (t : TypeId) (cs : Array Value) : Prop := w.heap[b]? = some (Obj.cells cs t (0, 0))
theorem TBox.new (w : World) (cs : Array Value) (t : TypeId) : TBox (w.alloc (.cells cs t)) w.heap.size t cs := heap_alloc_new _ _
theorem TBox.lt {w : World} {b : Nat} {t : TypeId} {cs : Array Value} (h : TBox w b t cs) : b < w.heap.size := (Array.getElem?_eq_some_iff.1 h).1
theorem TBox.cell {w : World} {b : Nat} {t : TypeId} {cs : Array Value} (h : TBox w b t cs) (i : Nat) : w.cell? ⟨b, i, none⟩ = cs[i]? := cell_of_row w b i _ _ _ h
theorem TBox.frozen {w : World} {b : Nat} {t : TypeId} {cs : Array Value} (h : TBox w b t cs) (i : Nat) : w.frozen? ⟨b, i, none⟩ = false := by
  unfold World.frozen?
  simp only [show w.heap[b]? = some (Obj.cells cs t (0, 0)) from h]
  simp
theorem TBox.mono {w w' : World} {b : Nat} {t : TypeId} {cs : Array Value} (h : TBox w b t cs) (hb : Below w.heap.size w w') : TBox w' b t cs := (hb.block b h.lt).trans h
theorem TBox.kept {l : List TypeId} {w w' : World} {b : Nat} {t : TypeId} {cs : Array Value} (h : TBox w b t cs) (hk : Kept l w w') (ht : t ∈ l) : TBox w' b t cs := (hk.2 b cs t _ h ht).trans h
theorem TBox.grown {w w' : World} {b : Nat} {t : TypeId} {cs : Array Value} {row : Option Nat} (h : TBox w b t cs) (hg : w.grownBy w' row) (hne : some b ≠ row) : TBox w' b t cs := (hg.block b h.lt hne).trans h
theorem TBox.set {w : World} {b : Nat} {t : TypeId} {cs : Array Value} (h : TBox w b t cs) (o : Nat) (u : Value) : TBox (w.setCell ⟨b, o, none⟩ u) b t (cs.setIfInBounds o u) := by
  unfold TBox at *
  unfold World.setCell
  simp [Array.getElem?_modify, h]
theorem TBox.other {w : World} {b b' : Nat} {t : TypeId} {cs : Array Value} (h : TBox w b t cs) (hne : b' ≠ b) (o : Nat) (u : Value) : TBox (w.setCell ⟨b', o, none⟩ u) b t cs :=
  (Below.heap_setCell w ⟨b', o, none⟩ u b fun e => hne e.symm).trans h
theorem owns_set {w : World} {base : Nat} {e : TypeId} {size n : Nat} {v : Value} {xs : List Value} (h : w.ownsRow base e size v n xs) {b : Nat} (hb : b < base) (o : Nat) (u : Value) : (w.setCell ⟨b, o, none⟩ u).ownsRow base e size v n xs :=
  ⟨h.1, h.2.imp id fun ⟨g, cap, cur, h1, h2, h3, h4⟩ => ⟨g, cap, cur, h1, h2, (Below.heap_setCell w ⟨b, o, none⟩ u g (by show g ≠ b; omega)).trans h3, h4⟩⟩
/-! ### Rows that know the type of their block -/
def RowK (w : World) (A : Option Addr) (T : TypeId) (xs : List Value) : Prop := xs = [] ∨ ∃ b o cur fr, A = some ⟨b, o, none⟩ ∧ w.heap[b]? = some (Obj.cells cur T fr) ∧ ∀ j v, xs[j]? = some v → cur[o + j]? = some v
theorem RowK.row {w : World} {A : Option Addr} {T : TypeId} {xs : List Value} (h : RowK w A T xs) : RowAt w A xs :=
  h.imp id fun ⟨b, o, cur, fr, h1, h2, h3⟩ => ⟨b, o, h1, (Array.getElem?_eq_some_iff.1 h2).1, fun j v hj => (cell_of_row w b _ _ _ _ h2).trans (h3 j v hj)⟩
theorem RowK.kept {l : List TypeId} {w w' : World} {A : Option Addr} {T : TypeId} {xs : List Value} (h : RowK w A T xs) (hk : Kept l w w') (ht : T ∈ l) : RowK w' A T xs :=
  h.imp id fun ⟨b, o, cur, fr, h1, h2, h3⟩ => ⟨b, o, cur, fr, h1, (hk.2 b cur T fr h2 ht).trans h2, h3⟩
theorem RowK.mono {w w' : World} {A : Option Addr} {T : TypeId} {xs : List Value} (h : RowK w A T xs) (hb : Below w.heap.size w w') : RowK w' A T xs := h.kept (Kept.of_below (l := [T]) hb) (by simp)
theorem RowK.own {w : World} {base : Nat} {T : TypeId} {size n : Nat} {v : Value} {xs : List Value} (h : w.ownsRow base T size v n xs) : ∃ A c, v = .slice A n c ∧ RowK w A T xs := by
  rcases h.2 with ⟨rfl, rfl⟩ | ⟨g, cap, cur, rfl, _, h3, _, _, _, h6⟩
  · exact ⟨none, 0, rfl, .inl (List.eq_nil_of_length_eq_zero (by rw [h.1, Nat.zero_mul]))⟩
  · refine ⟨_, cap, rfl, .inr ⟨g, 0, cur, _, rfl, h3, fun j u hj => ?_⟩⟩
    rw [← h6, List.getElem?_take] at hj
    split at hj
    · rw [Nat.zero_add]
      simpa using hj
    · cases hj
theorem AtHand.rowK {N : Nat} {e : TypeId} {size n : Nat} {xs : List Value} {w : World} {v : Value} (h : AtHand N e size n xs w v) : ∃ A c, v = .slice A n c ∧ RowK w A e xs := by
  rcases h with ⟨rfl, rfl, g, rfl⟩ | ⟨_, h⟩
  · exact ⟨_, 0, rfl, .inl rfl⟩
  · exact RowK.own h
/-! ### Worlds and towns that have been copied -/
/-- the rows of the first k wells of a world -/
def WdRows (w : World) (x : Wd) (k : Nat) (vs : List Value) : Prop := vs.length = k ∧ ∀ j u, vs[j]? = some u → ∃ A c, u = .slice A (x.len j) c ∧ RowK w A 3 (intL (x.fall j) (x.len j)) ∧ x.len j ≤ 9223372036854775807
theorem WdRows.kept {l : List TypeId} {w w' : World} {x : Wd} {k : Nat} {vs : List Value} (h : WdRows w x k vs) (hk : Kept l w w') (ht : 3 ∈ l) : WdRows w' x k vs :=
  ⟨h.1, fun j u hj => by
    obtain ⟨A, c, h1, h2, h3⟩ := h.2 j u hj
    exact ⟨A, c, h1, h2.kept hk ht, h3⟩⟩
theorem WdRows.snoc {w : World} {x : Wd} {k : Nat} {vs : List Value} {A : Option Addr} {c : Nat} (h : WdRows w x k vs) (h2 : RowK w A 3 (intL (x.fall k) (x.len k))) (h3 : x.len k ≤ 9223372036854775807) : WdRows w x (k + 1) (vs ++ [.slice A (x.len k) c]) :=
  ⟨by rw [List.length_append, h.1]; rfl, fun j u hj => by
    rcases Nat.lt_or_ge j vs.length with hlt | hge
    · rw [List.getElem?_append_left hlt] at hj
      exact h.2 j u hj
    · rw [List.getElem?_append_right hge] at hj
      have hl := h.1
      obtain rfl : j = k := by
        have := (List.getElem?_eq_some_iff.1 hj).1
        simp only [List.length_cons, List.length_nil] at this
        omega
      rw [hl, Nat.sub_self] at hj
      injection hj with hj
      exact ⟨A, c, hj.symm, h2, h3⟩⟩
/-- a world, as a value: its rows -/
def WdK (w : World) (v : Value) (x : Wd) : Prop := ∃ A c vs, v = .slice A x.n c ∧ RowK w A 40 vs ∧ WdRows w x x.n vs
theorem WdK.kept {l : List TypeId} {w w' : World} {v : Value} {x : Wd} (h : WdK w v x) (hk : Kept l w w') (h1 : 3 ∈ l) (h2 : 40 ∈ l) : WdK w' v x := by
  obtain ⟨A, c, vs, e, hr, hv⟩ := h
  exact ⟨A, c, vs, e, hr.kept hk h2, hv.kept hk h1⟩
theorem WdK.mono {w w' : World} {v : Value} {x : Wd} (h : WdK w v x) (hb : Below w.heap.size w w') : WdK w' v x := h.kept (Kept.of_below (l := [3, 40]) hb) (by simp) (by simp)
theorem WdK.rows {w : World} {v : Value} {x : Wd} (h : WdK w v x) : ∃ A c, v = .slice A x.n c ∧ RowsAt w A x := by
  obtain ⟨A, c, vs, e, hr, hl, hv⟩ := h
  refine ⟨A, c, e, ?_⟩
  rcases Nat.eq_zero_or_pos x.n with h0 | h0
  · exact .inl h0
  · rcases hr.row with h1 | ⟨b, o, rfl, hlt, hc⟩
    · rw [h1] at hl
      simp at hl
      omega
    · refine .inr ⟨b, o, rfl, hlt, fun k hk => ?_⟩
      obtain ⟨u, hu⟩ : ∃ u, vs[k]? = some u := ⟨_, List.getElem?_eq_getElem (by rw [hl]; exact hk)⟩
      obtain ⟨A', c', rfl, h2, h3⟩ := hv k u hu
      exact ⟨A', c', hc k _ hu, intsAt_row.2 h2.row, h3⟩
/-- the first n worlds, as values -/
def WsRows (w : World) (f : Nat → Wd) (n : Nat) (us : List Value) : Prop := us.length = n ∧ ∀ i u, us[i]? = some u → WdK w u (f i) ∧ (f i).n ≤ 9223372036854775807
theorem WsRows.kept {l : List TypeId} {w w' : World} {f : Nat → Wd} {n : Nat} {us : List Value} (h : WsRows w f n us) (hk : Kept l w w') (h1 : 3 ∈ l) (h2 : 40 ∈ l) : WsRows w' f n us :=
  ⟨h.1, fun i u hi => ⟨(h.2 i u hi).1.kept hk h1 h2, (h.2 i u hi).2⟩⟩
theorem WsRows.mono {w w' : World} {f : Nat → Wd} {n : Nat} {us : List Value} (h : WsRows w f n us) (hb : Below w.heap.size w w') : WsRows w' f n us := h.kept (Kept.of_below (l := [3, 40]) hb) (by simp) (by simp)
theorem WsRows.snoc {w : World} {f : Nat → Wd} {n : Nat} {us : List Value} {v : Value} (h : WsRows w f n us) (hv : WdK w v (f n)) (hn : (f n).n ≤ 9223372036854775807) : WsRows w f (n + 1) (us ++ [v]) :=
  ⟨by rw [List.length_append, h.1]; rfl, fun i u hi => by
    rcases Nat.lt_or_ge i us.length with hlt | hge
    · rw [List.getElem?_append_left hlt] at hi
      exact h.2 i u hi
    · rw [List.getElem?_append_right hge] at hi
      have hl := h.1
      obtain rfl : i = n := by
        have := (List.getElem?_eq_some_iff.1 hi).1
        simp only [List.length_cons, List.length_nil] at this
        omega
      rw [hl, Nat.sub_self] at hi
      injection hi with hi
      exact ⟨hi ▸ hv, hn⟩⟩
theorem WsRows.congr {w : World} {f g : Nat → Wd} {n : Nat} {us : List Value} (h : WsRows w f n us) (e : ∀ i, i < n → f i = g i) : WsRows w g n us :=
  ⟨h.1, fun i u hi => by
    have := (List.getElem?_eq_some_iff.1 hi).1
    rw [← e i (by rw [← h.1]; exact this)]
    exact h.2 i u hi⟩
/-- the cells of facts -/
def factL (f : Nat → Fact) : Nat → List Value := catL fun i => [.int .i64 (f i).from_, .int .i64 (f i).many, .int .i64 (f i).to_, .int .i64 (f i).low, .int .i64 (f i).high]
theorem factL_len (f : Nat → Fact) (n : Nat) : (factL f n).length = n * 5 := by unfold factL; exact catL_len (s := 5) (fun _ => rfl) n
theorem factsAt_row {w : World} {A : Option Addr} {n : Nat} {f : Nat → Fact} (h : RowAt w A (factL f n)) : FactsAt w A n f := by
  rcases Nat.eq_zero_or_pos n with h0 | h0
  · exact .inl h0
  rcases h with h | ⟨b, o, rfl, hlt, hc⟩
  · exact .inl (catL_nil (s := 5) (fun _ => rfl) (by decide) h)
  · have hg := fun (i j : Nat) (hi : i < n) (hj : j < 5) => catL_get (f := fun i => [.int .i64 (f i).from_, .int .i64 (f i).many, .int .i64 (f i).to_, .int .i64 (f i).low, .int .i64 (f i).high]) (s := 5) (fun _ => rfl) hj n hi
    exact .inr ⟨b, o, rfl, hlt, fun i hi => ⟨by simpa using hc (i * 5 + 0) _ (hg i 0 hi (by decide)), hc (i * 5 + 1) _ (hg i 1 hi (by decide)), hc (i * 5 + 2) _ (hg i 2 hi (by decide)), hc (i * 5 + 3) _ (hg i 3 hi (by decide)), hc (i * 5 + 4) _ (hg i 4 hi (by decide))⟩⟩
theorem factsAt_iff {w : World} {A : Option Addr} {n : Nat} {f : Nat → Fact} (h : FactsAt w A n f) : RowAt w A (factL f n) := by
  rcases h with h | ⟨b, o, rfl, hlt, hc⟩
  · subst h; exact .inl rfl
  · refine .inr ⟨b, o, rfl, hlt, fun k v hv => ?_⟩
    obtain ⟨i, j, hi, hj, rfl, e⟩ := catL_inv (s := 5) (fun _ => rfl) n hv
    obtain ⟨h0, h1, h2, h3, h4⟩ := hc i hi
    match j, hj, e with
    | 0, _, e => simp at e; subst e; exact h0
    | 1, _, e => simp at e; subst e; exact h1
    | 2, _, e => simp at e; subst e; exact h2
    | 3, _, e => simp at e; subst e; exact h3
    | 4, _, e => simp at e; subst e; exact h4
/-- a town of the call's own -/
structure CopyAt (w : World) (base : Nat) (vW vF : Value) (t : Qt) : Prop where
  worlds : ∃ us, w.ownsRow base 81 1 vW t.nw us ∧ WsRows w t.world t.nw us
  facts : w.ownsRow base 53 5 vF t.nf (factL t.fact t.nf)
theorem CopyAt.mono {w w' : World} {base : Nat} {vW vF : Value} {t : Qt} (h : CopyAt w base vW vF t) (hb : Below w.heap.size w w') : CopyAt w' base vW vF t := by
  obtain ⟨⟨us, h1, h2⟩, h3⟩ := h
  exact ⟨⟨us, owns_below h1 hb, h2.mono hb⟩, owns_below h3 hb⟩
theorem CopyAt.lower {w : World} {base base' : Nat} {vW vF : Value} {t : Qt} (h : CopyAt w base vW vF t) (hb : base' ≤ base) : CopyAt w base' vW vF t := by
  obtain ⟨⟨us, h1, h2⟩, h3⟩ := h
  exact ⟨⟨us, owns_lower h1 hb, h2⟩, owns_lower h3 hb⟩
theorem CopyAt.qat {w : World} {base : Nat} {vW vF : Value} {t : Qt} (h : CopyAt w base vW vF t) : ∃ Aw cw Af cf, vW = .slice Aw t.nw cw ∧ vF = .slice Af t.nf cf ∧ QAt w Aw Af t := by
  obtain ⟨⟨us, h1, h2, h3⟩, h4⟩ := h
  obtain ⟨Aw, cw, rfl, hr⟩ := RowK.own h1
  obtain ⟨Af, cf, rfl, hf⟩ := RowK.own h4
  refine ⟨Aw, cw, Af, cf, rfl, rfl, ?_, factsAt_row hf.row⟩
  rcases Nat.eq_zero_or_pos t.nw with h0 | h0
  · exact .inl h0
  · rcases hr.row with h5 | ⟨b, o, rfl, hlt, hc⟩
    · rw [h5] at h2
      simp at h2
      omega
    · refine .inr ⟨b, o, rfl, hlt, fun i hi => ?_⟩
      obtain ⟨u, hu⟩ : ∃ u, us[i]? = some u := ⟨_, List.getElem?_eq_getElem (by rw [h2]; exact hi)⟩
      obtain ⟨hw, hn⟩ := h3 i u hu
      obtain ⟨A', c', rfl, h6⟩ := hw.rows
      exact ⟨A', c', hc i _ hu, h6, hn⟩
end Go.Proofs.YtchhodikgllgnaaDoor
