/- Parts joined. -/
import Derived.Test.YtchhodikgllgnaaDoorJW
import Derived.Test.YtchhodikgllgnaaDoorJK
import Derived.Test.YtchhodikgllgnaaDoorJR
import Derived.Test.YtchhodikgllgnaaDoorJP
set_option linter.unusedSimpArgs false
set_option linter.unusedVariables false
/- Walks of the reference 05: Decides. Conditions: a valid town, tests and worlds of it. -/
namespace Go.Proofs.YtchhodikgllgnaaDoor
open Go.RowKit Go.Sort
set_option maxHeartbeats 4000000 in
set_option maxRecDepth 100000 in
theorem decides5_any (Aw Af A B : Option Addr) (cw cf c cl : Nat) (t : Qt) (l : List Tp) (L : List Int) (p q : Nat) (law : Int) (w : World) (ok : t.Ok) (hT : QAt w Aw Af t) (hl : t.TestsOk l) (hll : l.length ≤ 100000) (hA : RowAt w A (tstE.cells l)) (hp : (p : Int) < t.wells) (hq : (q : Int) < t.wells) (hL : ∀ a, a ∈ L → ∃ i : Nat, i < t.nw ∧ a = i) (hlen : L.length ≤ 100) (hB : RowAt w B (numL L)) :
    Calls Tryd.prog 115 #[.agg #[.int .i64 t.wells, .slice Aw t.nw cw, .slice Af t.nf cf], .slice A l.length c, .slice B L.length cl, .agg #[.int .i64 (p : Int), .int .i64 (q : Int)], .int .i64 law] w fun e w' => e = .returned (.bool (t.decides l L (p, q) law)) ∧ Below w.heap.size w w' := by
  have hb0 := bAlloc (bAlloc (Below.refl w.heap.size w) (.cells #[.int .i64 t.wells, .slice Aw t.nw cw, .slice Af t.nf cf] 25)) (.cells #[.int .i64 (p : Int), .int .i64 (q : Int)] 27)
  have HB0 := Lib.hid hb0
  have HT := Lib.hid (hT.mono hb0)
  have HA := Lib.hid (hA.mono hb0)
  have HBR := Lib.hid (hB.mono hb0)
  have HOK := Lib.hid ok
  have HLO := Lib.hid hl
  have HLL := Lib.hid hL
  have HP := Lib.hid hp
  have HQ := Lib.hid hq
  obtain ⟨n, hn⟩ : ∃ n, L.length = n := ⟨_, rfl⟩
  obtain ⟨nl, hnl⟩ : ∃ nl, l.length = nl := ⟨_, rfl⟩
  have HALL := Lib.hid (show t.decides l L (p, q) law = !anyB (fun i => anyB (fun k => decide (law < t.F (intL0 L i) (p, q)) && decide (t.F (intL0 L k) (p, q) ≤ law) && !t.someB l (intL0 L i) (intL0 L k)) n) n by unfold Qt.decides; rw [hn])
  rw [hn] at hlen ⊢
  rw [hnl] at hll ⊢
  have HN := Lib.hid hn
  have HNL := Lib.hid hnl
  obtain ⟨dv, hdv⟩ : ∃ dv, t.decides l L (p, q) law = dv := ⟨_, rfl⟩
  have HDV := Lib.hid hdv
  rw [hdv]
  clear hb0 hT hA hB ok hl hL hn hnl hdv hp hq
  go_enter Tryd.func115, Tryd.ntmps115
  go_wp2_with fail
  go_loopw [11] (fun s wr => ∃ i : Nat, i ≤ n ∧ s = .int .i64 i ∧ anyB (fun i => anyB (fun k => decide (law < t.F (intL0 L i) (p, q)) && decide (t.F (intL0 L k) (p, q) ≤ law) && !t.someB l (intL0 L i) (intL0 L k)) n) i = false ∧ Below ((w.alloc (.cells #[.int .i64 t.wells, .slice Aw t.nw cw, .slice Af t.nf cf] 25)).alloc (.cells #[.int .i64 p, .int .i64 q] 27)).heap.size ((w.alloc (.cells #[.int .i64 t.wells, .slice Aw t.nw cw, .slice Af t.nf cf] 25)).alloc (.cells #[.int .i64 p, .int .i64 q] 27)) wr) (fun s _ => n - (intOf s).toNat)
  case atStart => exact ⟨0, Nat.zero_le _, rfl, rfl, Below.refl _ _⟩
  case round =>
    obtain ⟨i, hi, rfl, hno, hbel⟩ := hrel
    have HNO := Lib.hid hno
    have HL := Lib.hid hbel
    clear hno hbel
    by_cases hlt : i < n
    · have i1 : (i : Int) < (n : Int) := by omega
      go_wp2_with fail
      go_loopw [12] (fun s wx => ∃ k : Nat, k ≤ n ∧ s = .int .i64 k ∧ anyB (fun k => decide (law < t.F (intL0 L i) (p, q)) && decide (t.F (intL0 L k) (p, q) ≤ law) && !t.someB l (intL0 L i) (intL0 L k)) k = false ∧ Below ((w.alloc (.cells #[.int .i64 t.wells, .slice Aw t.nw cw, .slice Af t.nf cf] 25)).alloc (.cells #[.int .i64 p, .int .i64 q] 27)).heap.size ((w.alloc (.cells #[.int .i64 t.wells, .slice Aw t.nw cw, .slice Af t.nf cf] 25)).alloc (.cells #[.int .i64 p, .int .i64 q] 27)) wx) (fun s _ => n - (intOf s).toNat)
      case atStart => exact ⟨0, Nat.zero_le _, rfl, rfl, HL.out⟩
      case round =>
        obtain ⟨k, hk, rfl, hno, hbel⟩ := hrel
        have HNK := Lib.hid hno
        have HX := Lib.hid hbel
        obtain ⟨bc3, bf3⟩ := bcell hbel
        have hz3 := hbel.size
        simp only [World.size_alloc] at hz3
        have hy3 : w.heap.size < wr.heap.size := by omega
        have hv3 : w.heap.size + 1 < wr.heap.size := by omega
        clear hno hbel
        by_cases hlk : k < n
        · obtain ⟨a, ha⟩ : ∃ a, L[i]? = some a := ⟨_, List.getElem?_eq_getElem (by rw [HN.out]; exact hlt)⟩
          obtain ⟨b, hb⟩ : ∃ b, L[k]? = some b := ⟨_, List.getElem?_eq_getElem (by rw [HN.out]; omega)⟩
          obtain ⟨x, hx, rfl⟩ := HLL.out a (List.mem_of_getElem? ha)
          obtain ⟨y, hy, rfl⟩ := HLL.out b (List.mem_of_getElem? hb)
          obtain ⟨bs, os, hBs, hbs, cs⟩ := (HBR.out.mono HX.out).num ha
          obtain ⟨bs2, os2, hBs2, _, cs2⟩ := (HBR.out.mono HX.out).num hb
          subst hBs
          simp only [Option.some.injEq, Addr.mk.injEq, and_true] at hBs2
          obtain ⟨rfl, rfl⟩ := hBs2
          have e1 : intL0 L i = (x : Int) := by unfold intL0; rw [ha]; rfl
          have e2 : intL0 L k = (y : Int) := by unfold intL0; rw [hb]; rfl
          obtain ⟨v1, hv1⟩ : ∃ v, t.F (x : Int) (p, q) = v := ⟨_, rfl⟩
          obtain ⟨v2, hv2⟩ : ∃ v, t.F (y : Int) (p, q) = v := ⟨_, rfl⟩
          obtain ⟨b1, h1⟩ : ∃ b1, decide (v1 > law) = b1 := ⟨_, rfl⟩
          obtain ⟨b2, h2⟩ : ∃ b2, decide (v2 ≤ law) = b2 := ⟨_, rfl⟩
          obtain ⟨b3, h3⟩ : ∃ b3, t.someB l x y = b3 := ⟨_, rfl⟩
          have h1' : decide (law < v1) = b1 := h1
          have HF1 := Lib.hid (fun (w' : World) (hb : Below wr.heap.size wr w') => (hv1 ▸ fallAt_F t x p q ▸ fall5_any Aw Af cw cf t x p q w' HOK.out hx HP.out HQ.out ((HT.out.mono HX.out).mono hb) : Calls Tryd.prog 63 #[.agg #[.int .i64 t.wells, .slice Aw t.nw cw, .slice Af t.nf cf], .int .i64 x, .int .i64 p, .int .i64 q] w' fun e w'' => e = .returned (.int .i64 v1) ∧ Below w'.heap.size w' w''))
          have HF2 := Lib.hid (fun (w' : World) (hb : Below wr.heap.size wr w') => (hv2 ▸ fallAt_F t y p q ▸ fall5_any Aw Af cw cf t y p q w' HOK.out hy HP.out HQ.out ((HT.out.mono HX.out).mono hb) : Calls Tryd.prog 63 #[.agg #[.int .i64 t.wells, .slice Aw t.nw cw, .slice Af t.nf cf], .int .i64 y, .int .i64 p, .int .i64 q] w' fun e w'' => e = .returned (.int .i64 v2) ∧ Below w'.heap.size w' w''))
          have HS2 := Lib.hid (fun (w' : World) (hb : Below wr.heap.size wr w') => (by
            have := some5_any Aw Af A cw cf c t l x y w' HOK.out ((HT.out.mono HX.out).mono hb) HLO.out (by rw [HNL.out]; exact hll) ((HA.out.mono HX.out).mono hb) hx hy
            rw [HNL.out, h3] at this
            exact this : Calls Tryd.prog 84 #[.agg #[.int .i64 t.wells, .slice Aw t.nw cw, .slice Af t.nf cf], .slice A nl c, .int .i64 x, .int .i64 y] w' fun e w'' => e = .returned (.bool b3) ∧ Below w'.heap.size w' w''))
          have HST := Lib.hid (show (fun k => decide (law < t.F (intL0 L i) (p, q)) && decide (t.F (intL0 L k) (p, q) ≤ law) && !t.someB l (intL0 L i) (intL0 L k)) k = (b1 && b2 && !b3) by
            show (decide (law < t.F (intL0 L i) (p, q)) && decide (t.F (intL0 L k) (p, q) ≤ law) && !t.someB l (intL0 L i) (intL0 L k)) = _
            rw [e1, e2, hv1, hv2, h1', h2, h3])
          have k1 : (k : Int) < (n : Int) := by omega
          have k0 : (0 : Int) ≤ (k : Int) := by omega
          have i0 : (0 : Int) ≤ (i : Int) := by omega
          clear ha hb hx hy e1 e2 h3 hv1 hv2
          rcases three_ways b1 b2 b3 with rfl | ⟨rfl, rfl⟩ | ⟨rfl, rfl, rfl⟩ | ⟨rfl, rfl, rfl⟩
          all_goals
            go_wp2_with fail
            refine wp_region_quiet_below (by kernel_rfl) (by kernel_rfl) ?_
            repeat (go_big_quiet_step (((first | (go_at_call 63; with_reducible exact Calls.regrown_of (HF1.out _ (below_regrown _ _ _))) | (go_at_call 63; with_reducible exact Calls.regrown_of (HF2.out _ (below_regrown _ _ _))) | (go_at_call 84; with_reducible exact Calls.regrown_of (HS2.out _ (below_regrown _ _ _)))))))
            refine wpQuiet_nil ?_
            intro w9 hw9
            have HX9 := Lib.hid (bTrans HX.out (below_of_regrown hw9))
            clear hw9
          · have HY := Lib.hid (anyB_step HNK.out (HST.out.trans (by simp)))
            go_wp2_with fail
            go_roundw
            case rel =>
              first
              | exact ⟨k + 1, by omega, by go_num, HY.out, HX9.out⟩
              | ((repeat apply Exists.intro)
                 refine ⟨⟨k + 1, by omega, ?_, HY.out, HX9.out⟩, rfl⟩
                 go_num)
            case measure => simp [intOf]; omega
          · have HY := Lib.hid (anyB_step HNK.out (HST.out.trans (by simp)))
            go_wp2_with fail
            go_roundw
            case rel =>
              first
              | exact ⟨k + 1, by omega, by go_num, HY.out, HX9.out⟩
              | ((repeat apply Exists.intro)
                 refine ⟨⟨k + 1, by omega, ?_, HY.out, HX9.out⟩, rfl⟩
                 go_num)
            case measure => simp [intOf]; omega
          · have HY := Lib.hid (show dv = false by
              rw [← HDV.out, HALL.out, Bool.not_eq_false']
              exact anyB_hit hlt (show (fun i => anyB (fun k => decide (law < t.F (intL0 L i) (p, q)) && decide (t.F (intL0 L k) (p, q) ≤ law) && !t.someB l (intL0 L i) (intL0 L k)) n) i = true from anyB_hit hlk (HST.out.trans (by simp))))
            go_wp2_with fail
            go_ret
            exact ⟨ret_bool (by rw [HY.out]), bTrans HB0.out HX9.out⟩
          · have HY := Lib.hid (anyB_step HNK.out (HST.out.trans (by simp)))
            go_wp2_with fail
            go_roundw
            case rel =>
              first
              | exact ⟨k + 1, by omega, by go_num, HY.out, HX9.out⟩
              | ((repeat apply Exists.intro)
                 refine ⟨⟨k + 1, by omega, ?_, HY.out, HX9.out⟩, rfl⟩
                 go_num)
            case measure => simp [intOf]; omega
        · obtain rfl : k = n := by omega
          have HY := Lib.hid (anyB_step HNO.out HNK.out)
          have k1 : ¬ (k : Int) < (k : Int) := by omega
          go_wp2_with fail
          go_roundw
          case rel =>
            first
            | exact ⟨i + 1, by omega, by go_num, HY.out, HX.out⟩
            | ((repeat apply Exists.intro)
               refine ⟨⟨i + 1, by omega, ?_, HY.out, HX.out⟩, rfl⟩
               go_num)
          case measure => simp [intOf]; omega
    · obtain rfl : i = n := by omega
      have HZ := Lib.hid (show dv = true by rw [← HDV.out, HALL.out, HNO.out]; rfl)
      go_wp2_with fail
      go_ret
      exact ⟨ret_bool (by rw [HZ.out]), bTrans HB0.out HL.out⟩
end Go.Proofs.YtchhodikgllgnaaDoor
/- Walks of the reference 05: Decide. Conditions: lengths are Go's. -/
namespace Go.Proofs.YtchhodikgllgnaaDoor
open Go.RowKit Go.Sort
theorem others_snoc {t : Qt} {x y : Tp} {k : Nat} (h : t.tests[k]? = some y) : (t.tests.take (k + 1)).filter (fun z => z != x) = (t.tests.take k).filter (fun z => z != x) ++ (if (y != x) then [y] else []) := by
  rw [List.take_add_one, h, List.filter_append]
  congr 1
  simp [List.filter_cons]
theorem others_len {t : Qt} (ok : t.Ok) (x : Tp) : (t.others x).length ≤ 16 := Nat.le_trans (others_sub t x).length_le (tests_len ok)
set_option maxHeartbeats 8000000 in
set_option maxRecDepth 100000 in
theorem decide5_any (Aw Af : Option Addr) (cw cf : Nat) (t : Qt) (p q law : Int) (w : World) (hs : t.Small) (hT : QAt w Aw Af t) :
    Calls Tryd.prog 61 #[.agg #[.int .i64 t.wells, .slice Aw t.nw cw, .slice Af t.nf cf], .int .i64 p, .int .i64 q, .int .i64 law] w fun e w' => RefLst w' (t.decErr p q law) (t.decL p q law) e ∧ Below w.heap.size w w' := by
  have hb0 := bAlloc (bAlloc (Below.refl w.heap.size w) (.cells #[.int .i64 t.wells, .slice Aw t.nw cw, .slice Af t.nf cf] 25)) (.cells #[.int .i64 p, .int .i64 q] 27)
  have HT := Lib.hid (hT.mono hb0)
  have HB := Lib.hid hb0
  clear hT hb0
  obtain ⟨b1, h1⟩ : ∃ b, t.testB p q = b := ⟨_, rfl⟩
  obtain ⟨b2, h2⟩ : ∃ b, inR law 0 99 = b := ⟨_, rfl⟩
  have HC1 := Lib.hid (fun w => h1 ▸ isTest5_any Aw Af cw cf t p q w : ∀ w : World, Calls Tryd.prog 30 #[.agg #[.int .i64 t.wells, .slice Aw t.nw cw, .slice Af t.nf cf], .agg #[.int .i64 p, .int .i64 q]] w fun e w' => e = .returned (.bool b1) ∧ Below w.heap.size w w')
  have HC2 := Lib.hid (fun w => h2 ▸ isLaw5_any law w : ∀ w : World, Calls Tryd.prog 38 #[.int .i64 law] w fun e w' => e = .returned (.bool b2) ∧ Below w.heap.size w w')
  obtain ⟨bb, hbb⟩ : ∃ bb, (b1 && b2) = bb := ⟨_, rfl⟩
  obtain ⟨er, her⟩ : ∃ er, t.knowErr bb = er := ⟨_, rfl⟩
  have HCO := Lib.hid (fun (w' : World) (hb : Below ((w.alloc (.cells #[.int .i64 t.wells, .slice Aw t.nw cw, .slice Af t.nf cf] 25)).alloc (.cells #[.int .i64 p, .int .i64 q] 27)).heap.size ((w.alloc (.cells #[.int .i64 t.wells, .slice Aw t.nw cw, .slice Af t.nf cf] 25)).alloc (.cells #[.int .i64 p, .int .i64 q] 27)) w') => ((refKnown Aw Af cw cf t bb w' hs.1 hs.2.1 (HT.out.mono hb)).mono fun e w'' h => ⟨by
      obtain ⟨v, h1, h2, h3⟩ := h.1
      rw [her] at h1 h2 h3
      exact ⟨v, h1, fun he => (h2 he).lower hb.size, h3⟩, h.2⟩ : Calls Tryd.prog 74 #[.agg #[.int .i64 t.wells, .slice Aw t.nw cw, .slice Af t.nf cf], .bool bb] w' fun e w'' => (∃ v, e = .returned (.tuple #[v, .int .i64 er]) ∧ (er = 0 → OwnL w'' ((w.alloc (.cells #[.int .i64 t.wells, .slice Aw t.nw cw, .slice Af t.nf cf] 25)).alloc (.cells #[.int .i64 p, .int .i64 q] 27)).heap.size v t.leftL) ∧ (er ≠ 0 → v = .slice none 0 0)) ∧ Below w'.heap.size w' w''))
  have HE := Lib.hid (show t.knowErr (t.wellB p && t.wellB q && inR law 0 99) = er by rw [← her, ← hbb, ← h1, ← h2]; rfl)
  obtain ⟨de, hde⟩ : ∃ de, t.decErr p q law = de := ⟨_, rfl⟩
  have HDE := Lib.hid (show de = if er = 0 then (if t.decides (t.others (p.toNat, q.toNat)) t.leftL (p.toNat, q.toNat) law then 0 else 3) else er by rw [← hde]; unfold Qt.decErr; rw [HE.out])
  obtain ⟨DL, hDL⟩ : ∃ DL, t.decL p q law = DL := ⟨_, rfl⟩
  have HDL := Lib.hid hDL
  rw [hde, hDL]
  have HKE := Lib.hid her
  have HG := Lib.hid hbb
  have HH1 := Lib.hid h1
  clear h1 h2 her hbb HE hde hDL
  by_cases he : er = 0
  case neg =>
    have g0 : (er != 0) = true := by simp [he]
    have HNZ := Lib.hid he
    have HZ := Lib.hid (show de = er by rw [HDE.out, if_neg he])
    clear he
    go_enter Tryd.func61, Tryd.ntmps61
    go_wp2_with fail
    rcases two_ways b1 b2 with rfl | ⟨rfl, rfl⟩ | ⟨rfl, rfl⟩
    all_goals
      obtain rfl := HG.out
      refine wp_region_call 8 (fun v w2 => v = .tuple #[.slice none 0 0, .int .i64 er] ∧ Below ((w.alloc (.cells #[.int .i64 t.wells, .slice Aw t.nw cw, .slice Af t.nf cf] 25)).alloc (.cells #[.int .i64 p, .int .i64 q] 27)).heap.size ((w.alloc (.cells #[.int .i64 t.wells, .slice Aw t.nw cw, .slice Af t.nf cf] 25)).alloc (.cells #[.int .i64 p, .int .i64 q] 27)) w2) (by kernel_rfl) (by decide +kernel) rfl ?_
      apply Exists.intro
      refine ⟨fun K hK => ?_, ?_, fun w1 hb1 K Q' hK => ?_, ?_⟩
      · skip
        repeat (first | (refine wpCalm_skip rfl ?_) | (refine wpCalm_step rfl (fun K hK => ?_); go_simp; (first | (refine hK _ ?_; clear hK K) | (apply Exists.intro; refine ⟨fun _ => ?_, hK _ ?_⟩; ((first | (go_at_call 30; with_reducible exact newer_of (HC1.out _)) | (go_at_call 38; with_reducible exact newer_of (HC2.out _)))); clear hK K))))
        refine wpCalm_nil ?_
        exact hK
      · rfl
      · go_simp
        refine (HCO.out w1 hb1).mono ?_
        rintro e w2 ⟨⟨v, rfl, _, ho⟩, hb2⟩
        exact hK _ w2 ⟨by rw [ho HNZ.out], bTrans hb1 hb2⟩
      rintro v w2 ⟨rfl, hb2⟩
      have HB2 := Lib.hid hb2
      clear hb2
      apply Exists.intro
      refine ⟨fun K hK => ?_, fun w3 hb3 => ?_⟩
      · skip
        repeat (first | (refine wpCalm_skip rfl ?_) | (refine wpCalm_step rfl (fun K hK => ?_); go_simp; (first | (refine hK _ ?_; clear hK K) | (apply Exists.intro; refine ⟨fun _ => ?_, hK _ ?_⟩; (fail); clear hK K))))
        refine wpCalm_nil ?_
        exact hK
      have HB3 := Lib.hid (bTrans HB2.out hb3)
      clear hb3
      go_wp2_with fail
      go_ret2
      exact ⟨⟨fun h => absurd (by rw [← HZ.out]; exact h) HNZ.out, fun _ => by rw [HZ.out]; rfl⟩, bTrans HB.out HB3.out⟩
  subst he
  obtain ⟨ok, rfl, hne⟩ := knowErr_zero HKE.out
  have hg := HG.out
  simp only [Bool.and_eq_true] at hg
  obtain ⟨rfl, rfl⟩ := hg
  have hg1 := HH1.out
  unfold Qt.testB at hg1
  simp only [Bool.and_eq_true] at hg1
  have hp := inR_iff.1 ((wellB_ok ok p).symm.trans hg1.1)
  have hq := inR_iff.1 ((wellB_ok ok q).symm.trans hg1.2)
  obtain ⟨i, rfl⟩ : ∃ i : Nat, p = (i : Int) := ⟨p.toNat, by omega⟩
  obtain ⟨j, rfl⟩ : ∃ j : Nat, q = (j : Int) := ⟨q.toNat, by omega⟩
  have HP := Lib.hid (show (i : Int) < t.wells by omega)
  have HQ := Lib.hid (show (j : Int) < t.wells by omega)
  have HOK := Lib.hid ok
  have hde := HDE.out
  rw [if_pos rfl, Int.toNat_natCast, Int.toNat_natCast] at hde
  have HDE2 := Lib.hid hde
  have hDL := HDL.out
  unfold Qt.decL at hDL
  rw [Int.toNat_natCast, Int.toNat_natCast] at hDL
  have HDL2 := Lib.hid hDL
  obtain ⟨OT, hOT⟩ : ∃ OT, t.others (i, j) = OT := ⟨_, rfl⟩
  have HOT := Lib.hid hOT
  obtain ⟨no, hno⟩ : ∃ no, OT.length = no := ⟨_, rfl⟩
  have HNO := Lib.hid hno
  have no16 : no ≤ 16 := by rw [← hno, ← hOT]; exact others_len ok _
  obtain ⟨n, hn⟩ : ∃ n, t.leftL.length = n := ⟨_, rfl⟩
  have HN := Lib.hid hn
  have HLE := Lib.hid (left_six ok)
  obtain ⟨m, hm⟩ : ∃ m : Nat, t.wells = (m : Int) := ⟨t.wells.toNat, by have := ok.w0; omega⟩
  have m4 : m ≤ 4 := by have := ok.w1; omega
  have HTS := Lib.hid (fun w' => tests5_any Aw Af cw cf m t w' hm m4)
  obtain ⟨nt, hnt⟩ : ∃ nt, t.tests.length = nt := ⟨_, rfl⟩
  have HNT := Lib.hid hnt
  have nt16 : nt ≤ 16 := by rw [← hnt]; exact tests_len ok
  clear hp hq hne ok hn hg1 hde hDL hOT hno hm hnt HDE HDL
  go_enter Tryd.func61, Tryd.ntmps61
  go_wp2_with fail
  refine wp_region_call 8 (fun v w2 => (∃ u, v = .tuple #[u, .int .i64 0] ∧ OwnL w2 ((w.alloc (.cells #[.int .i64 t.wells, .slice Aw t.nw cw, .slice Af t.nf cf] 25)).alloc (.cells #[.int .i64 (i : Int), .int .i64 (j : Int)] 27)).heap.size u t.leftL) ∧ Below ((w.alloc (.cells #[.int .i64 t.wells, .slice Aw t.nw cw, .slice Af t.nf cf] 25)).alloc (.cells #[.int .i64 (i : Int), .int .i64 (j : Int)] 27)).heap.size ((w.alloc (.cells #[.int .i64 t.wells, .slice Aw t.nw cw, .slice Af t.nf cf] 25)).alloc (.cells #[.int .i64 (i : Int), .int .i64 (j : Int)] 27)) w2) (by kernel_rfl) (by decide +kernel) rfl ?_
  apply Exists.intro
  refine ⟨fun K hK => ?_, ?_, fun w1 hb1 K Q' hK => ?_, ?_⟩
  · skip
    repeat (first | (refine wpCalm_skip rfl ?_) | (refine wpCalm_step rfl (fun K hK => ?_); go_simp; (first | (refine hK _ ?_; clear hK K) | (apply Exists.intro; refine ⟨fun _ => ?_, hK _ ?_⟩; ((first | (go_at_call 30; with_reducible exact newer_of (HC1.out _)) | (go_at_call 38; with_reducible exact newer_of (HC2.out _)))); clear hK K))))
    refine wpCalm_nil ?_
    exact hK
  · rfl
  · go_simp
    refine (HCO.out w1 hb1).mono ?_
    rintro e w2 ⟨⟨v, rfl, ho, _⟩, hb2⟩
    exact hK _ w2 ⟨⟨v, rfl, ho (by trivial)⟩, bTrans hb1 hb2⟩
  rintro v w2 ⟨⟨u, rfl, ho⟩, hb2⟩
  have HL2 := Lib.hid ho
  have HB2 := Lib.hid hb2
  obtain ⟨A, c, rfl, _⟩ := ho.nums
  rw [HN.out]
  clear ho hb2
  apply Exists.intro
  refine ⟨fun K hK => ?_, fun w3 hb3 => ?_⟩
  · skip
    repeat (first | (refine wpCalm_skip rfl ?_) | (refine wpCalm_step rfl (fun K hK => ?_); go_simp; (first | (refine hK _ ?_; clear hK K) | (apply Exists.intro; refine ⟨fun _ => ?_, hK _ ?_⟩; (fail); clear hK K))))
    refine wpCalm_nil ?_
    exact hK
  have HB3 := Lib.hid (bTrans HB2.out hb3)
  obtain ⟨A1, c1, e1, hrow⟩ := (HL2.out.mono hb3).nums
  simp only [Value.slice.injEq] at e1
  obtain ⟨rfl, _, rfl⟩ := e1
  have HRL := Lib.hid hrow
  obtain ⟨bc3, bf3⟩ := bcell HB3.out
  have hz3 := HB3.out.size
  simp only [World.size_alloc] at hz3
  have hy3 : w.heap.size < w3.heap.size := by omega
  have hv3 : w.heap.size + 1 < w3.heap.size := by omega
  clear hb3 hrow
  go_wp2_with fail
  refine (HTS.out _).mono ?_
  rintro e w4 ⟨⟨v, rfl, hv⟩, hb4⟩
  obtain ⟨At, ct, rfl, hrt⟩ := hv.read
  rw [HNT.out]
  have HRT := Lib.hid hrt
  have HRL4 := Lib.hid (HRL.out.mono hb4)
  have HB4 := Lib.hid (bTrans HB3.out hb4)
  clear hv hrt hb4 bc3 bf3 hz3 hy3 hv3
  go_wp2_with fail
  go_loopw [13, 15] (fun s13 s15 wr => ∃ k : Nat, k ≤ nt ∧ s15 = .int .i64 (k : Int) ∧ OwnE tstE wr w4.heap.size s13 ((t.tests.take k).filter fun z => z != (i, j)) ∧ Below w4.heap.size w4 wr) (fun _ s _ => nt - (intOf s).toNat)
  case atStart => exact ⟨0, Nat.zero_le _, rfl, OwnE.nil _ _ _, Below.refl _ _⟩
  case round =>
    obtain ⟨k, hk, rfl, hown, hbel⟩ := hrel
    have HO := Lib.hid hown
    have HX := Lib.hid hbel
    have HXB := Lib.hid (bTrans HB4.out hbel)
    obtain ⟨bc5, bf5⟩ := bcell HXB.out
    have hz5 := HXB.out.size
    simp only [World.size_alloc] at hz5
    have hy5 : w.heap.size < wr.heap.size := by omega
    have hv5 : w.heap.size + 1 < wr.heap.size := by omega
    clear hown hbel
    by_cases hlt : k < nt
    · obtain ⟨x, hx⟩ : ∃ x, t.tests[k]? = some x := ⟨_, List.getElem?_eq_getElem (by rw [HNT.out]; exact hlt)⟩
      obtain ⟨b, o, rfl, hb, c0, c1⟩ := SliceE.tst (HRT.out.mono HX.out) hx
      obtain ⟨p', q'⟩ := x
      have HX2 := Lib.hid (others_snoc (x := (i, j)) hx)
      have k1 : (k : Int) < (nt : Int) := by omega
      have k0 : (0 : Int) ≤ (k : Int) := by omega
      obtain ⟨bs, hbs⟩ : ∃ bs, sameT p' q' i j = bs := ⟨_, rfl⟩
      have HBS := Lib.hid (show (((p', q') : Tp) != (i, j)) = !bs by
        rw [← hbs, sameT_nat]
        by_cases e : ((p', q') : Tp) = (i, j)
        · simp [e]
        · simp [e])
      have HLE2 := Lib.hid (show ((t.tests.take k).filter fun z => z != (i, j)).length ≤ 100000 by
        have h1 := List.length_filter_le (fun z => z != (i, j)) (t.tests.take k)
        have h2 := List.length_take_le k t.tests
        omega)
      clear hx
      cases bs
      · go_wp2_with fail
        refine wp_region_quiet_below (by kernel_rfl) (by kernel_rfl) ?_
        repeat (go_big_quiet_step ((fail)))
        refine wpQuiet_nil ?_
        intro w9 hw9
        have hb9 := below_of_regrown hw9
        have HO9 := Lib.hid (HO.out.mono hb9)
        have HX9 := Lib.hid (bTrans HX.out hb9)
        have HS9 := Lib.hid (show (t.tests.take (k + 1)).filter (fun z => z != (i, j)) = (t.tests.take k).filter (fun z => z != (i, j)) ++ [(p', q')] from HX2.out.trans (by rw [HBS.out]; rfl))
        have d0 := (hb9.cell (p := ⟨b, _, none⟩) hb).trans c0
        have d1 := (hb9.cell (p := ⟨b, _, none⟩) hb).trans c1
        have hbb := Nat.lt_of_lt_of_le hb hb9.size
        have HZ9 := Lib.hid hb9.size
        clear hw9 hb9 bc5 bf5 hz5 hy5 hv5 c0 c1 hb hbs
        go_wp2_with (at_builtin; refine wpList_snocE tstG _ rfl (Operand.tmp 51) (Operand.tmp 56) rfl w4.heap.size _ ((t.tests.take k).filter fun z => z != (i, j)) (p', q') rfl ?q1 w9.heap.size rfl ?q2 HLE2.out ?q4 ?_)
        case q1 => exact HO9.out.mono (bAlloc (Below.refl _ _) _)
        case q2 =>
          intro a u hu
          match a, hu with
          | 0, hu =>
            obtain rfl : Value.int .i64 p' = u := by simpa [tstE] using hu
            simp [go_sem]
          | 1, hu =>
            obtain rfl : Value.int .i64 q' = u := by simpa [tstE] using hu
            simp [go_sem]
        case q4 => have := HX9.out.size; simp; omega
        intro v' w5 hown5 hb5 _ _
        have HO5 := Lib.hid (HS9.out ▸ hown5)
        have HX5 := Lib.hid (hb5 w4.heap.size _ (Nat.le_refl _) (bAlloc HX9.out (.cells #[.int .i64 (p' : Int), .int .i64 (q' : Int)] 27)))
        clear hown5 hb5
        go_wp2_with fail
        go_roundw
        case rel =>
          first
          | exact ⟨k + 1, by omega, by go_num, HO5.out, HX5.out⟩
          | ((repeat apply Exists.intro)
             refine ⟨⟨k + 1, by omega, ?_, HO5.out, HX5.out⟩, rfl⟩
             go_num)
        case measure => simp [intOf]; omega
      · have HS9 := Lib.hid (show (t.tests.take (k + 1)).filter (fun z => z != (i, j)) = (t.tests.take k).filter (fun z => z != (i, j)) from HX2.out.trans (by rw [HBS.out]; simp))
        go_wp2_with fail
        refine wp_region_quiet_below (by kernel_rfl) (by kernel_rfl) ?_
        repeat (go_big_quiet_step ((fail)))
        refine wpQuiet_nil ?_
        intro w9 hw9
        have hb9 := below_of_regrown hw9
        have HO9 := Lib.hid (HS9.out ▸ HO.out.mono hb9)
        have HX9 := Lib.hid (bTrans HX.out hb9)
        clear hw9 hb9 bc5 bf5 c0 c1 hb hbs
        go_wp2_with fail
        go_roundw
        case rel =>
          first
          | exact ⟨k + 1, by omega, by go_num, HO9.out, HX9.out⟩
          | ((repeat apply Exists.intro)
             refine ⟨⟨k + 1, by omega, ?_, HO9.out, HX9.out⟩, rfl⟩
             go_num)
        case measure => simp [intOf]; omega
    · obtain rfl : k = nt := by omega
      have HOO := Lib.hid (show (t.tests.take k).filter (fun z => z != (i, j)) = OT by rw [List.take_of_length_le (by rw [HNT.out]; exact Nat.le_refl _), ← HOT.out]; rfl)
      obtain ⟨Ao, co, rfl, hro⟩ := (HOO.out ▸ HO.out : OwnE tstE wr w4.heap.size _ OT).read
      have HRO := Lib.hid hro
      rw [HNO.out]
      have HRL5 := Lib.hid (HRL4.out.mono HX.out)
      have HDC := Lib.hid (fun (w' : World) (hb : Below wr.heap.size wr w') (A9 : Option Addr) (c9 : Nat) (l : List Tp) (hsub : List.Sublist l OT) (hrow : RowAt w' A9 (tstE.cells l)) => (by
        have := decides5_any Aw Af A9 A cw cf c9 c t l t.leftL i j law w' HOK.out ((HT.out.mono HXB.out).mono hb) (fun x hx => tests_ok5 HOK.out x ((others_sub t (i, j)).subset (by rw [HOT.out]; exact hsub.subset hx))) (by have h1 := hsub.length_le; rw [HNO.out] at h1; omega) hrow HP.out HQ.out left_worlds (by have := HLE.out; omega) (HRL5.out.mono hb)
        rw [HN.out] at this
        exact this : Calls Tryd.prog 115 #[.agg #[.int .i64 t.wells, .slice Aw t.nw cw, .slice Af t.nf cf], .slice A9 l.length c9, .slice A n c, .agg #[.int .i64 (i : Int), .int .i64 (j : Int)], .int .i64 law] w' fun e w'' => e = .returned (.bool (t.decides l t.leftL (i, j) law)) ∧ Below w'.heap.size w' w''))
      have HD0 := Lib.hid (by
        have := HDC.out wr (Below.refl _ _) Ao co OT (List.Sublist.refl _) HRO.out
        rw [HNO.out] at this
        exact this)
      have HBW := Lib.hid HXB.out
      clear hro
      go_wp2_with fail
      refine HD0.out.mono ?_
      rintro e w6 ⟨rfl, hb6⟩
      have HB6 := Lib.hid (bTrans HBW.out hb6)
      have HRO6 := Lib.hid (HRO.out.mono hb6)
      have HB66 := Lib.hid hb6
      obtain ⟨bd, hbd⟩ : ∃ bd, t.decides OT t.leftL (i, j) law = bd := ⟨_, rfl⟩
      rw [hbd]
      have HBD := Lib.hid hbd
      clear hb6 hbd bc5 bf5 hz5 hy5 hv5
      cases bd
      case false =>
        have HZ := Lib.hid (show de = 3 by rw [HDE2.out, HOT.out, HBD.out]; rfl)
        go_wp2_with fail
        go_ret2
        exact ⟨⟨(fun h => by rw [HZ.out] at h; cases h), fun _ => by rw [HZ.out]; rfl⟩, bTrans HB.out HB6.out⟩
      have HZ := Lib.hid (show de = 0 by rw [HDE2.out, HOT.out, HBD.out]; rfl)
      go_wp2_with fail
      go_loopw [16] (fun s wx => ∃ k : Nat, k ≤ no ∧ s = .int .i64 (k : Int) ∧ firstUpTo OT (fun l => t.decides l t.leftL (i, j) law) 0 k = none ∧ Below w6.heap.size w6 wx) (fun s _ => no - (intOf s).toNat)
      case atStart => exact ⟨0, Nat.zero_le _, rfl, rfl, Below.refl _ _⟩
      case round =>
        obtain ⟨k, hk, rfl, hno, hbel⟩ := hrel
        have HNF := Lib.hid hno
        have HL := Lib.hid hbel
        clear hno hbel
        by_cases hlt2 : k < no
        · have k1 : (k : Int) < (no : Int) := by omega
          have HC := Lib.hid (by
            have := lists5_any OT Ao co (by rw [HNO.out]; exact no16) k 0 wr (by omega) (Nat.zero_le _) (HRO6.out.mono HL.out)
            rw [HNO.out, List.drop_zero] at this
            exact this : Calls Tryd.prog 82 #[.slice Ao no co, .int .i64 0, .int .i64 (k : Int)] wr fun e w' => (∃ v, e = .returned v ∧ ListsAt w' wr.heap.size v (listsL OT k)) ∧ Below wr.heap.size wr w')
          go_wp2_with fail
          refine HC.out.mono ?_
          rintro e w7 ⟨⟨v, rfl, us, ho, hrows⟩, hb7⟩
          obtain ⟨LL, hLL⟩ : ∃ LL, listsL OT k = LL := ⟨_, rfl⟩
          rw [hLL] at ho hrows
          obtain ⟨z, hz⟩ : ∃ z, LL.length = z := ⟨_, rfl⟩
          rw [hz] at ho
          obtain ⟨A3, c3, rfl, hk3⟩ := RowK.own ho
          have HV3 := Lib.hid hk3.row
          have HR3 := Lib.hid hrows
          have HLL := Lib.hid hLL
          have HZZ := Lib.hid hz
          have z65 : z ≤ 65536 := by rw [← hz, ← hLL]; exact listsL_small (by rw [HNO.out]; exact no16) k
          have HL3 := Lib.hid (bTrans HL.out hb7)
          clear ho hrows hk3 hb7 hLL hz HC
          go_wp2_with fail
          go_loopw [18] (fun s wx => ∃ i' : Nat, i' ≤ z ∧ s = .int .i64 (i' : Int) ∧ (LL.take i').find? (fun l => t.decides l t.leftL (i, j) law) = none ∧ Below w7.heap.size w7 wx) (fun s _ => z - (intOf s).toNat)
          case atStart => exact ⟨0, Nat.zero_le _, rfl, rfl, Below.refl _ _⟩
          case round =>
            obtain ⟨g, hi, rfl, hni, hbel⟩ := hrel
            have HNI := Lib.hid hni
            have HX7 := Lib.hid hbel
            have HXD := Lib.hid (bTrans HL3.out hbel)
            have HXB7 := Lib.hid (bTrans HB6.out HXD.out)
            have HXW := Lib.hid (bTrans HB66.out HXD.out)
            obtain ⟨bc4, bf4⟩ := bcell HXB7.out
            have hz4 := HXB7.out.size
            simp only [World.size_alloc] at hz4
            have hy4 : w.heap.size < wr.heap.size := by omega
            have hv4 : w.heap.size + 1 < wr.heap.size := by omega
            clear hni hbel
            by_cases hlq : g < z
            · obtain ⟨l, hl⟩ : ∃ l, LL[g]? = some l := ⟨_, List.getElem?_eq_getElem (by rw [HZZ.out]; exact hlq)⟩
              obtain ⟨u, hu⟩ : ∃ u, us[g]? = some u := ⟨_, List.getElem?_eq_getElem (by rw [HR3.out.1, HZZ.out]; exact hlq)⟩
              obtain ⟨Au, cu, rfl, hru⟩ := HR3.out.2 g u l hu hl
              rcases HV3.out.mono HX7.out with h0 | ⟨b2, o2, rfl, hb2, hc2⟩
              · rw [h0] at hu; simp at hu
              have d0 := hc2 g _ hu
              have HRU := Lib.hid (hru.row.mono HX7.out)
              have HLS := Lib.hid hl
              have hsub : List.Sublist l OT := (listsL_mem.1 (by rw [HLL.out]; exact List.mem_of_getElem? hl : l ∈ listsL OT k)).1
              obtain ⟨nl, hnl⟩ : ∃ nl, l.length = nl := ⟨_, rfl⟩
              have hl16 : nl ≤ 16 := by have := hsub.length_le; rw [HNO.out] at this; omega
              have HNL := Lib.hid hnl
              rw [hnl] at d0
              obtain ⟨ba, hba⟩ : ∃ b, t.decides l t.leftL (i, j) law = b := ⟨_, rfl⟩
              have HBA := Lib.hid hba
              have HF := Lib.hid (fun (w' : World) (hb : Below wr.heap.size wr w') => (by
                have := HDC.out w' (bTrans HXW.out hb) Au cu l hsub (HRU.out.mono hb)
                rw [HNL.out, hba] at this
                exact this : Calls Tryd.prog 115 #[.agg #[.int .i64 t.wells, .slice Aw t.nw cw, .slice Af t.nf cf], .slice Au nl cu, .slice A n c, .agg #[.int .i64 (i : Int), .int .i64 (j : Int)], .int .i64 law] w' fun e w'' => e = .returned (.bool ba) ∧ Below w'.heap.size w' w''))
              have k2 : (g : Int) < (z : Int) := by omega
              have k0 : (0 : Int) ≤ (g : Int) := by omega
              clear hu hl hc2 hru hnl hba hsub
              cases ba
              · have HNN := Lib.hid (find_go HNI.out HLS.out HBA.out)
                go_wp2_with fail
                refine wp_region_quiet_below (by kernel_rfl) (by kernel_rfl) ?_
                repeat (go_big_quiet_step (((go_at_call 115; with_reducible exact Calls.regrown_of (HF.out _ (below_regrown _ _ _))))))
                refine wpQuiet_nil ?_
                intro w9 hw9
                have HX9 := Lib.hid (bTrans HX7.out (below_of_regrown hw9))
                clear hw9 bc4 bf4 d0
                go_wp2_with fail
                go_roundw
                case rel =>
                  first
                  | exact ⟨g + 1, by omega, by go_num, HNN.out, HX9.out⟩
                  | ((repeat apply Exists.intro)
                     refine ⟨⟨g + 1, by omega, ?_, HNN.out, HX9.out⟩, rfl⟩
                     go_num)
                case measure => simp [intOf]; omega
              · have HY := Lib.hid (show DL = l by rw [← HDL2.out, HOT.out]; exact fewestL_at (by rw [HNO.out]; exact hlt2) HNF.out (by rw [HLL.out]; exact find_take HNI.out HLS.out HBA.out))
                go_wp2_with fail
                refine wp_region_quiet_below (by kernel_rfl) (by kernel_rfl) ?_
                repeat (go_big_quiet_step (((go_at_call 115; with_reducible exact Calls.regrown_of (HF.out _ (below_regrown _ _ _))))))
                refine wpQuiet_nil ?_
                intro w9 hw9
                have hb9 := below_of_regrown hw9
                have d9 := (hb9.cell (p := ⟨b2, o2 + g, none⟩) hb2).trans d0
                have HRU9 := Lib.hid (HRU.out.mono hb9)
                have HXB9 := Lib.hid (bTrans HXB7.out hb9)
                have hb29 := Nat.lt_of_lt_of_le hb2 hb9.size
                clear hw9 hb9 bc4 bf4 d0 hb2
                go_wp2_with fail
                go_ret2
                exact ⟨⟨fun _ => ⟨Au, cu, by rw [HY.out, HNL.out, HZ.out]; rfl, by rw [HY.out]; exact HRU9.out⟩, fun h => absurd HZ.out h⟩, bTrans HB.out HXB9.out⟩
            · obtain rfl : g = z := by omega
              have HNN := Lib.hid (firstUpTo_none HNF.out (by
                have := HNI.out
                rw [List.take_of_length_le (by rw [HZZ.out]; exact Nat.le_refl _)] at this
                rw [HLL.out]
                exact this))
              go_wp2_with fail
              go_roundw
              case rel =>
                first
                | exact ⟨k + 1, by omega, by go_num, HNN.out, HXD.out⟩
                | ((repeat apply Exists.intro)
                   refine ⟨⟨k + 1, by omega, ?_, HNN.out, HXD.out⟩, rfl⟩
                   go_num)
              case measure => simp [intOf]; omega
        · obtain rfl : k = no := by omega
          have HY := Lib.hid (show DL = OT by rw [← HDL2.out, HOT.out]; unfold fewestL; rw [HNO.out, HNF.out]; rfl)
          go_wp2_with fail
          go_ret2
          exact ⟨⟨fun _ => ⟨Ao, co, by rw [HY.out, HNO.out, HZ.out]; rfl, by rw [HY.out]; exact HRO6.out.mono HL.out⟩, fun h => absurd HZ.out h⟩, bTrans HB.out (bTrans HB6.out HL.out)⟩
end Go.Proofs.YtchhodikgllgnaaDoor
/- A region that draws its order, in a fence: values told by shapes and by what stands, then a tail. No program in sight. -/
namespace Go.Proofs.YtchhodikgllgnaaDoor
open Go.RowKit Go.Sort Go.Shelf
section
variable {P : Program} {ops : Array Oper} {md : Region.Mode} {F : Fence} {k : Nat}
theorem wpIn_region_stir {rid : Nat} {Q : Exit → Act → World → Prop} {a : Act} {w : World} {l : List Oper} (hF : Open F P) (n : Nat) (hs : List Stir) (hm : P.follows .mixedOrders = true) (hB : (stirB .any l.toArray n && noDefer l.toArray) = true) (hn : hs.length = n) (hg : goodAllS hs) (hx : crossAll .any l.toArray w.heap.size hs)
    (h : wpStir P .any l.toArray w (fun a' w' => wpListIn F k P l.toArray Q (l.drop n) a' w') 0 l hs a []) : (Code.region rid l.toArray true).wpIn F k P Q a w := by
  rw [Bool.and_eq_true] at hB
  obtain ⟨hB, hnd⟩ := hB
  unfold stirB at hB
  simp only [Bool.and_eq_true, decide_eq_true_eq, List.all_eq_true, List.mem_range, Bool.or_eq_true] at hB
  obtain ⟨⟨hord, hnl⟩, htail⟩ := hB
  have H := ordered_of hord
  have hsz : l.toArray.size = l.length := by simp
  have key : ∀ V : Nat → Value, (∀ (k : Nat) (h : Stir), hs[k]? = some h → h.sh (V k)) → _ := fun V hV =>
    wpStir_at (P := P) (md := .any) (ops := l.toArray) (W := w) (Q := fun a' w' => wpListIn F k P l.toArray Q (l.drop n) a' w') (a0 := a) hV hs 0 l (fun j => by simp) (fun j => by simp) (by omega) h
  have hwit : ∃ V : Nat → Value, ∀ (k : Nat) (h : Stir), hs[k]? = some h → h.sh (V k) := by
    have hx : ∀ k : Nat, ∃ v : Value, ∀ h : Stir, hs[k]? = some h → h.sh v := fun k => by
      cases e : hs[k]? with
      | none => exact ⟨undef, fun h hh => by cases hh⟩
      | some h =>
        obtain ⟨v, hv⟩ := Stir.some (goodAllS_at hg e)
        exact ⟨v, fun h' hh => by injection hh with hh; subst hh; exact hv⟩
    exact ⟨fun k => (hx k).choose, fun k => (hx k).choose_spec⟩
  have final : ∀ (V : Nat → Value) (listed : Array Bool) (w' : World), (∀ (k : Nat) (h : Stir), hs[k]? = some h → h.sh (V k)) → Below w.heap.size w w' → (∀ j, j < n → listed.getD j false = true) → (∀ j, n ≤ j → listed.getD j false = false) → (∀ (j : Nat) (h : Stir), hs[j]? = some h → h.r w' (V j)) →
      wpListIn F k P l.toArray Q (l.drop n) (frameOf l.toArray V (fun k => listed.getD k false) a l.toArray.size) w' := by
    intro V listed w' hV hb hall hno hr
    obtain ⟨p, rfl⟩ := regrown_of_below hb
    have := (key V hV).2 p (allS_all _ fun j h hj hjh => hr j h hjh)
    rw [hn] at this
    have e1 : frameOf l.toArray V (fun k => listed.getD k false) a n = frameOf l.toArray V (fun _ => true) a n := frameOf_congr n fun j hj => ⟨hall j hj, fun _ => rfl⟩
    have e2 : ∀ m, n ≤ m → frameOf l.toArray V (fun k => listed.getD k false) a m = frameOf l.toArray V (fun k => listed.getD k false) a n := by
      intro m
      induction m with
      | zero => intro hm'; obtain rfl : n = 0 := by omega
                rfl
      | succ m ih =>
        intro hm'
        rcases Nat.eq_or_lt_of_le hm' with e | e
        · rw [e]
        · rw [frameOf, ih (by omega), if_neg]; rw [hno m (by omega)]; exact Bool.false_ne_true
    rw [e2 _ hnl, e1]
    exact this
  refine wpIn_region_any hm ?_
  refine wpAnyIn_inv (fun listed a' w' => ((∀ j, n ≤ j → listed.getD j false = false) ∧ ∃ V : Nat → Value, (∀ (k : Nat) (h : Stir), hs[k]? = some h → h.sh (V k)) ∧ a' = frameOf l.toArray V (fun k => listed.getD k false) a l.toArray.size ∧ Below w.heap.size w w' ∧ ∀ (j : Nat) (h : Stir), hs[j]? = some h → listed.getD j false = true → h.r w' (V j)) ∨
      ∃ m, n ≤ m ∧ (∀ j, j < m → listed.getD j false = true) ∧ (∀ j, m ≤ j → listed.getD j false = false) ∧ wpListIn F k P l.toArray Q (l.drop m) a' w') ?_ ?_ _ _ _ _ (left_le _ _) Shut.none (.inl ⟨fun j _ => ?_, ?_⟩)
  · intro listed a' w' i hsh hI hr
    obtain ⟨hun, oi, hoi, _⟩ := mem_ready.1 hr
    have hi : i < l.toArray.size := (Array.getElem?_eq_some_iff.1 hoi).1
    have hil : i < listed.size := by rw [hsh.size]; exact hi
    have hunf := listed_both hun
    have hset : (listed.setIfInBounds i true).getD i false = true := set_same hil false
    have tailstep : ∀ m, n ≤ m → (∀ j, j < m → listed.getD j false = true) → (∀ j, m ≤ j → listed.getD j false = false) → n ≤ i → wpListIn F k P l.toArray Q (l.drop m) a' w' →
        wpOpIn F k P l.toArray Q i (fun a'' w'' => ((∀ j, n ≤ j → (listed.setIfInBounds i true).getD j false = false) ∧ ∃ V : Nat → Value, (∀ (k : Nat) (h : Stir), hs[k]? = some h → h.sh (V k)) ∧ a'' = frameOf l.toArray V (fun k => (listed.setIfInBounds i true).getD k false) a l.toArray.size ∧ Below w.heap.size w w'' ∧ ∀ (j : Nat) (h : Stir), hs[j]? = some h → (listed.setIfInBounds i true).getD j false = true → h.r w'' (V j)) ∨
          ∃ m, n ≤ m ∧ (∀ j, j < m → (listed.setIfInBounds i true).getD j false = true) ∧ (∀ j, m ≤ j → (listed.setIfInBounds i true).getD j false = false) ∧ wpListIn F k P l.toArray Q (l.drop m) a'' w'') a' w' := by
      intro m hnk hall hno hni hw
      have him : i = m := by
        rcases Nat.lt_trichotomy i m with h' | h' | h'
        · rw [hall i h'] at hunf; cases hunf
        · exact h'
        · have h1 := ((htail i hi).resolve_left (by omega)) m h'
          have h2 := reach_listed hsh 6 i m (fun j hj => waits_listed hr hj) h1
          rw [hno m (Nat.le_refl _)] at h2; cases h2
      subst him
      have hli : l[i]? = some oi := by simpa using hoi
      have hdrop : l.drop i = oi :: l.drop (i + 1) := by
        have hlt : i < l.length := by omega
        rw [List.drop_eq_getElem_cons hlt]
        congr 1
        rw [List.getElem?_eq_getElem hlt] at hli
        exact Option.some.inj hli
      rw [hdrop] at hw
      simp only [wpListIn] at hw
      have hall' : ∀ j, j < i + 1 → (listed.setIfInBounds i true).getD j false = true := fun j hj => by
        rcases Nat.lt_or_ge j i with h' | h'
        · rw [getD_set_ne false (by omega)]; exact hall j h'
        · obtain rfl : j = i := by omega
          exact hset
      have hno' : ∀ j, i + 1 ≤ j → (listed.setIfInBounds i true).getD j false = false := fun j hj => by
        rw [getD_set_ne false (by omega)]; exact hno j (by omega)
      unfold Go.wpOpIn
      simp only [hoi]
      split
      · rename_i hwt
        rw [if_pos hwt] at hw
        exact Oper.wpIn_mono (fun a'' w'' h'' => .inr ⟨i + 1, by omega, hall', hno', h''⟩) hw
      · rename_i hwt
        rw [if_neg hwt] at hw
        exact ⟨fun f _ => hF.fn f, .inr ⟨i + 1, by omega, hall', hno', by first | exact hw.2 | exact hw⟩⟩
    rcases hI with ⟨hno, V, hV, rfl, hb, hrr⟩ | ⟨m, hnm, hall, hno, hw⟩
    · rcases Nat.lt_or_ge i n with hin | hin
      · -- an operation of the first part
        refine wpOpIn_mono (fun _ _ h => .inl h) ?_
        have hx' : ∃ h, hs[i]? = some h := ⟨hs[i]'(by omega), by simp⟩
        obtain ⟨hh, hhi⟩ := hx'
        obtain ⟨o', ho', hask⟩ := (key V hV).1 i hh (Nat.zero_le _) hhi
        obtain rfl : oi = o' := Option.some.inj (hoi.symm.trans ho')
        have hsee := H.sees (V := V) (V' := V) (M := fun _ => true) (a := a) hsh hoi hr (fun k _ hk => by cases hk) (fun _ _ => rfl)
        have hput : ∀ v, (frameOf l.toArray V (fun k => listed.getD k false) a l.toArray.size).put oi.dst v = frameOf l.toArray (fun k => if k = i then v else V k) (fun k => (listed.setIfInBounds i true).getD k false) a l.toArray.size := fun v => by
          have e1 : dstOf l.toArray i = oi.dst := by simp [dstOf, hoi]
          rw [H.frame_put hsh hi hun, e1, if_pos rfl]
          congr 1
          exact frameOf_congr _ fun j _ => ⟨rfl, fun hj => by rw [if_neg (fun e => by subst e; rw [hunf] at hj; cases hj)]⟩
        have hnext : ∀ v w'', Below w.heap.size w' w'' → (∀ (j : Nat) (h : Stir), hs[j]? = some h → j ≠ i → listed.getD j false = true → h.r w' (V j) → h.r w'' (V j)) → hh.r w'' v → ((∀ j, n ≤ j → (listed.setIfInBounds i true).getD j false = false) ∧ ∃ V' : Nat → Value, (∀ (k : Nat) (h : Stir), hs[k]? = some h → h.sh (V' k)) ∧ (frameOf l.toArray V (fun k => listed.getD k false) a l.toArray.size).put oi.dst v = frameOf l.toArray V' (fun k => (listed.setIfInBounds i true).getD k false) a l.toArray.size ∧ Below w.heap.size w w'' ∧ ∀ (j : Nat) (h : Stir), hs[j]? = some h → (listed.setIfInBounds i true).getD j false = true → h.r w'' (V' j)) := by
          intro v w'' hb' hkeep hrv
          refine ⟨fun j hj => by rw [getD_set_ne false (by omega)]; exact hno j hj, fun k => if k = i then v else V k, fun k h hk => ?_, hput v, hb.trans hb', fun j h hjh hj => ?_⟩
          · by_cases e : k = i
            · subst e
              obtain rfl : hh = h := Option.some.inj (hhi.symm.trans hk)
              simp only [if_true]
              exact Stir.r_sh hrv
            · simp only [if_neg e]; exact hV k h hk
          · by_cases e : j = i
            · subst e
              obtain rfl : hh = h := Option.some.inj (hhi.symm.trans hjh)
              simp only [if_true]
              exact hrv
            · simp only [if_neg e]
              rw [getD_set_ne false (Ne.symm e)] at hj
              exact hkeep j h hjh e hj (hrr j h hjh hj)
        unfold Go.wpOpIn
        simp only [hoi]
        rw [wanted_of_slots hsee]
        unfold Oper.stirAsk at hask
        by_cases hwt : Region.wanted oi (yielded l.toArray (frameOf l.toArray V (fun _ => true) a i).tmps) = true
        · rw [if_pos hwt] at hask
          rw [if_pos hwt]
          obtain ⟨p, rfl⟩ := regrown_of_below hb
          have h1 := hask p (depsS_all _ fun j h hj hjh hw => hrr j h hjh (waits_listed hr hw))
          have hst : ∀ v w'', hh.K (grow (redrawn w p.d) p.os) w'' → hh.r w'' v → _ := fun v w'' hk hrv => hnext v w'' (by
            cases hh with
            | const c => exact (show Below _ _ _ from hk).mono hb.size
            | held s r => exact (show Below _ _ _ from hk).mono hb.size
            | stir s r K => exact (hx i s r K hhi).1 _ _ hb.size hk) (fun j h hjh hji hj hr1 => by
            cases hh with
            | const c => exact Stir.r_mono (goodAllS_at hg hjh) hk hr1
            | held s r => exact Stir.r_mono (goodAllS_at hg hjh) hk hr1
            | stir s r K =>
              rcases (hx i s r K hhi).2 j h hjh hji with h1 | h1
              · have h2 := reach_listed2 hsh 6 j i hj h1
                rw [hunf] at h2
                cases h2
              · exact h1 _ _ _ hk hr1) hrv
          refine wpIn_of_stir hF (noDefer_spec hnd hoi) (S := hh.K) (r := hh.r) ?_ fun v w'' hb' hrv => hst v w'' hb' hrv
          unfold Oper.stirAt at h1 ⊢
          rwa [exec_of_slots (ops := l.toArray) (fun cs b => Region.noSelect_spec H.sel i oi cs b hoi) hsee]
        · rw [if_neg hwt] at hask
          rw [if_neg hwt]
          exact ⟨fun f _ => hF.fn f, hnext undef w' (Below.refl _ _) (fun j h _ _ _ h1 => h1) (hask _)⟩
      · have hall : ∀ j, j < n → listed.getD j false = true := fun j hj => reach_listed hsh 6 i j (fun k hk => waits_listed hr hk) (((htail i hi).resolve_left (by omega)) j (by omega))
        exact tailstep n (Nat.le_refl _) hall hno hin (final V listed w' hV hb hall hno fun j h hjh => hrr j h hjh (hall j (by rw [← hn]; exact (List.getElem?_eq_some_iff.1 hjh).1)))
    · have hni : n ≤ i := by
        rcases Nat.lt_or_ge i n with h' | h'
        · rw [hall i (by omega)] at hunf; cases hunf
        · exact h'
      exact tailstep m hnm hall hno hni hw
  · intro listed a' w' hsh hI hr
    have hall := H.all hsh hr
    rcases hI with ⟨hno, V, hV, rfl, hb, hrr⟩ | ⟨m, hnm, hall', hno, hw⟩
    · have hnn : n = l.length := by
        rcases Nat.lt_or_ge n l.length with h' | h'
        · have := hall n (by omega); rw [hno n (Nat.le_refl _)] at this; cases this
        · omega
      have hall2 : ∀ j, j < n → listed.getD j false = true := fun j hj => hall j (by omega)
      have := final V listed w' hV hb hall2 hno fun j h hjh => hrr j h hjh (hall2 j (by rw [← hn]; exact (List.getElem?_eq_some_iff.1 hjh).1))
      rw [hnn, List.drop_length] at this
      exact this
    · have hmm : l.length ≤ m := by
        rcases Nat.lt_or_ge m l.length with h' | h'
        · have := hall m (by omega); rw [hno m (Nat.le_refl _)] at this; cases this
        · exact h'
      rw [List.drop_eq_nil_of_le hmm] at hw
      exact hw
  · rcases Nat.lt_or_ge j l.length with h' | h' <;> simp [h']
  · obtain ⟨V, hV⟩ := hwit
    refine ⟨V, hV, ?_, (Below.refl _ _).drew, fun j h _ hj => ?_⟩
    · symm
      refine frameOf_none (fun k => ?_) _
      rcases Nat.lt_or_ge k l.length with h' | h' <;> simp [h']
    · rcases Nat.lt_or_ge j l.length with h' | h' <;> simp [h'] at hj
end
end Go.Proofs.YtchhodikgllgnaaDoor
