/- Parts joined. -/
import Derived.Test.YtchhodikgllgnaaDoorNQP
import Derived.Test.YtchhodikgllgnaaDoorNQQ
import Derived.Test.YtchhodikgllgnaaDoorNQT
import Derived.Test.YtchhodikgllgnaaDoorNQO
import Derived.Test.YtchhodikgllgnaaDoorNQI
set_option linter.unusedSimpArgs false
set_option linter.unusedVariables false
/- What the statement of who decides says of the plain values. Plain Lean. Conditions: a valid town. -/
namespace Go.Proofs.YtchhodikgllgnaaDoor
open Go.RowKit Go.Sort
noncomputable def Qt.judL (t : Qt) (p q law : Int) : List Tp := lstO (t.decErr p q law) (t.decL p q law)
theorem judL_sub (t : Qt) (p q law : Int) : List.Sublist (t.judL p q law) t.tests := by
  unfold Qt.judL lstO
  split
  · exact decL_sub t p q law
  · exact List.nil_sublist _
theorem dec_at {t : Qt} {p q : Nat} {law : Int} (hk : t.knowErr (t.wellB (p : Int) && t.wellB (q : Int) && inR law 0 99) = 0) :
    t.decErr (p : Int) (q : Int) law = (if t.decides (t.others (p, q)) t.leftL (p, q) law then 0 else 3) := by
  unfold Qt.decErr
  rw [if_pos hk, Int.toNat_natCast, Int.toNat_natCast]
theorem judge_at {t : Qt} (ok : t.Ok) {i p q : Nat} (hi : i < t.nw) (hl : t.leftB i = true) (hp : (p : Int) < t.wells) (hq : (q : Int) < t.wells) {law : Int} (hlaw : inR law 0 99 = true) :
    (t.decErr p q law = 0 ∨ t.decErr p q law = 3) ∧ (∀ x, x ∈ t.judL p q law → x ≠ (p, q)) ∧ ((t.decErr p q law = 0 ∧ t.judL p q law = []) ↔ harmK (t.between p q) law ≠ 3) ∧ (t.decErr p q law = 0 → t.decides (t.judL p q law) t.leftL (p, q) law = true) := by
  have hm := left_mem hi hl
  have hk := (harms_at ok hi hl hp hq hlaw).1
  have he := dec_at (p := p) (q := q) hk
  have hn := harmK_nil (t := t) (x := (p, q)) (law := law) (List.ne_nil_of_mem hm)
  rw [between_of]
  have hdl : t.decL (p : Int) (q : Int) law = fewestL (t.others (p, q)) fun l => t.decides l t.leftL (p, q) law := by
    unfold Qt.decL
    rw [Int.toNat_natCast, Int.toNat_natCast]
  by_cases hD : t.decides (t.others (p, q)) t.leftL (p, q) law = true
  · have he : t.decErr (p : Int) (q : Int) law = 0 := by rw [he, if_pos hD]
    have hj : t.judL (p : Int) (q : Int) law = fewestL (t.others (p, q)) fun l => t.decides l t.leftL (p, q) law := by
      unfold Qt.judL lstO
      rw [if_pos he, hdl]
    refine ⟨.inl he, fun x hx e => ?_, ?_, fun _ => ?_⟩
    · rw [hj] at hx
      have := (List.mem_filter.1 ((fewestL_sub _ _).subset hx)).2
      rw [e] at this
      simp at this
    · rw [hn, hj, fewestL_nil hD]
      exact ⟨fun h => h.2, fun h => ⟨he, h⟩⟩
    · rw [hj]
      exact (fewest_spec (t.others (p, q)) (fun l => t.decides l t.leftL (p, q) law) hD).2.1
  · have he : t.decErr (p : Int) (q : Int) law = 3 := by rw [he, if_neg hD]
    have hj : t.judL (p : Int) (q : Int) law = [] := by
      unfold Qt.judL lstO
      rw [if_neg (by rw [he]; decide)]
    refine ⟨.inr he, (fun x hx => by rw [hj] at hx; cases hx), ⟨(fun h => by rw [he] at h; exact absurd h.1 (by decide)), fun h => ?_⟩, (fun h => by rw [he] at h; exact absurd h (by decide))⟩
    exact absurd (decides_sub (fun y hy => by cases hy) (hn.1 h)) hD
theorem addAll_nw (t : Qt) (a : Int) (l : List Tp) : (t.addAll a l).wells = t.wells ∧ (t.addAll a l).world = t.world ∧ (t.addAll a l).nw = t.nw ∧ (t.addAll a l).nf = t.nf + l.length := addAll_same t a l t
theorem addAll_succ {t : Qt} {a : Int} {L : List Tp} {k : Nat} {x : Tp} (hx : L[k]? = some x) : t.addAll a (L.take (k + 1)) = (t.addAll a (L.take k)).add (shownF x (t.F a x)) := by
  unfold Qt.addAll
  rw [List.take_add_one, hx, Option.toList_some, List.foldl_append]
  rfl
theorem addAll_fits {t : Qt} (hf : t.Fits) {a : Int} {l : List Tp} (h2 : t.nf ≤ 2) (hl : l.length ≤ 100) : (t.addAll a l).Fits := by
  obtain ⟨h1, h3, h4, h5⟩ := addAll_nw t a l
  refine ⟨by rw [h4]; exact hf.1, by rw [h5]; omega, fun i hi => ?_⟩
  rw [h3]
  exact hf.2.2 i (by rw [← h4]; exact hi)
theorem judge_end {t : Qt} (ok : t.Ok) {i p q : Nat} (hi : i < t.nw) (hl : t.leftB i = true) (hp : (p : Int) < t.wells) (hq : (q : Int) < t.wells) {law : Int} (hlaw : inR law 0 99 = true) (he : t.decErr p q law = 0) {o : Qt} (ho : t.addAll i (t.judL p q law) = o) (ok2 : o.Ok) :
    o.knowErr (o.wellB (p : Int) && o.wellB (q : Int) && inR law 0 99) = 0 ∧ (harmK (o.between p q) law = 1 ∧ t.F i (p, q) > law ∨ harmK (o.between p q) law = 2 ∧ ¬ t.F i (p, q) > law) := by
  obtain ⟨h1, h3, h4, h5⟩ := addAll_nw t i (t.judL p q law)
  obtain ⟨hm, hk⟩ := decide_side (left_mem hi hl) ((judge_at ok hi hl hp hq hlaw).2.2.2 he)
  rw [ho] at h1 h3 hm hk
  have hp2 : (p : Int) < o.wells := by rw [h1]; exact hp
  have hq2 : (q : Int) < o.wells := by rw [h1]; exact hq
  refine ⟨by rw [wellB_in ok2 hp2, wellB_in ok2 hq2, hlaw]; exact knowErr_ok ok2 (List.ne_nil_of_mem hm), ?_⟩
  have hb : o.between p q = spanOf (fun a => t.F a (p, q)) o.leftL := by
    rw [between_of]
    congr 1
    funext a
    exact F_same h3 a (p, q)
  have hs := harmK_side (t := t) hm hk
  rw [← hb] at hs hk
  by_cases h1 : harmK (o.between p q) law = 1
  · exact .inl ⟨h1, hs.1.1 h1⟩
  · refine .inr ⟨?_, fun h => h1 (hs.1.2 h)⟩
    unfold harmK at h1 hk ⊢
    split
    · rename_i h
      rw [if_pos h] at h1
      exact absurd rfl h1
    · rename_i h
      rw [if_neg h] at hk
      split
      · rfl
      · rename_i h2
        rw [if_neg h2] at hk
        exact absurd rfl hk
end Go.Proofs.YtchhodikgllgnaaDoor
/- The statement QuarrelsJudge: the walk. Conditions: what is read fits into memory; the listed table holds what it holds. -/
namespace Go.Proofs.YtchhodikgllgnaaDoor
open Go.RowKit Go.Sort
set_option maxHeartbeats 8000000 in
set_option maxRecDepth 100000 in
theorem quarrelsJudge_any (Aw Af : Option Addr) (cw cf : Nat) (t : Qt) (world fp fq law : Int) (Ad : Option Addr) (nd cd : Nat) (w : World) (hf : t.Fits) (hT : QAt w Aw Af t) (hB : TabAt w) :
    Calls Tryd.prog 13 #[.agg #[.int .i64 t.wells, .slice Aw t.nw cw, .slice Af t.nf cf], .int .i64 world, .agg #[.int .i64 fp, .int .i64 fq, .int .i64 law, .slice Ad nd cd]] w fun e w' => e = .returned (.bool true) ∧ Below w.heap.size w w' := by
  have HT0 := Lib.hid hT
  have HTB0 := Lib.hid hB
  have HD0 := Lib.hid (Below.refl w.heap.size w)
  have HS := Lib.hid hf.small
  have HF := Lib.hid hf
  clear hT hB hf
  go_enter Tryd.func13, Tryd.ntmps13
  go_wp2_with fail
  refine (ready_any _ _ _ _ t _ HS.out (HT0.out.mono (bAlloc (bAlloc (Below.refl _ _) (.cells #[.int .i64 t.wells, .slice Aw t.nw cw, .slice Af t.nf cf] 25)) (.cells #[.int .i64 fp, .int .i64 fq, .int .i64 law, .slice Ad nd cd] 45)))).mono ?_
  rintro e w1 ⟨rfl, hb⟩
  have hB1 : Below w.heap.size w w1 := bTrans (bAlloc (bAlloc (Below.refl _ _) (.cells #[.int .i64 t.wells, .slice Aw t.nw cw, .slice Af t.nf cf] 25)) (.cells #[.int .i64 fp, .int .i64 fq, .int .i64 law, .slice Ad nd cd] 45)) hb
  have HD1 := Lib.hid (bTrans HD0.out hB1)
  have HT1 := Lib.hid (HT0.out.mono hB1)
  have HTB1 := Lib.hid (HTB0.out.mono hB1)
  have T1 := Lib.hid (show TBox w1 w.heap.size 25 #[.int .i64 t.wells, .slice Aw t.nw cw, .slice Af t.nf cf] from by have := ((TBox.new w #[.int .i64 t.wells, .slice Aw t.nw cw, .slice Af t.nf cf] 25).mono (bAlloc (Below.refl _ _) (.cells #[.int .i64 fp, .int .i64 fq, .int .i64 law, .slice Ad nd cd] 45))).mono hb; simpa using this)
  have X1 := Lib.hid (show TBox w1 (w.heap.size + 1) 45 #[.int .i64 fp, .int .i64 fq, .int .i64 law, .slice Ad nd cd] from by have := ((TBox.new (w.alloc (.cells #[.int .i64 t.wells, .slice Aw t.nw cw, .slice Af t.nf cf] 25)) #[.int .i64 fp, .int .i64 fq, .int .i64 law, .slice Ad nd cd] 45).mono (Below.refl _ _)).mono hb; simpa using this)
  clear hb hB1 HD0 HT0 HTB0
  obtain ⟨T_0, T_1, T_2, T_l⟩ := T1.out.c3
  obtain ⟨X_0, X_1, X_2, X_3, X_l⟩ := X1.out.c4
  obtain ⟨bq, hbq⟩ : ∃ b, t.readyB = b := ⟨_, rfl⟩
  rw [hbq]
  have HR1 := Lib.hid hbq
  clear hbq
  cases bq
  case false =>
    go_wp2_with fail
    refine (works5_any _ HTB1.out).mono ?_
    rintro e w99 ⟨rfl, hb99⟩
    go_wp2_with fail
    go_ret
    exact ⟨rfl, bTrans HD1.out hb99⟩
  go_wp2_with fail
  refine (isWorld5_any _ _ _ _ t world _ HS.out.1).mono ?_
  rintro e w2 ⟨rfl, hb⟩
  have hB2 : Below w1.heap.size w1 w2 := bTrans (Below.refl _ _) hb
  have HD2 := Lib.hid (bTrans HD1.out hB2)
  have HT2 := Lib.hid (HT1.out.mono hB2)
  have HTB2 := Lib.hid (HTB1.out.mono hB2)
  have T2 := Lib.hid (T1.out.mono hB2)
  have X2 := Lib.hid (X1.out.mono hB2)
  clear hb hB2 HD1 HT1 HTB1 T1 T_0 T_1 T_2 T_l X1 X_0 X_1 X_2 X_3 X_l
  obtain ⟨T_0, T_1, T_2, T_l⟩ := T2.out.c3
  obtain ⟨X_0, X_1, X_2, X_3, X_l⟩ := X2.out.c4
  obtain ⟨bq, hbq⟩ : ∃ b, inR world 0 ((t.nw : Int) - 1) = b := ⟨_, rfl⟩
  rw [hbq]
  have HIW := Lib.hid hbq
  clear hbq
  cases bq
  case false =>
    go_wp2_with fail
    refine (works5_any _ HTB2.out).mono ?_
    rintro e w99 ⟨rfl, hb99⟩
    go_wp2_with fail
    go_ret
    exact ⟨rfl, bTrans HD2.out hb99⟩
  go_wp2_with fail
  refine (isWell5_any _ _ _ _ t fp _).mono ?_
  rintro e w3 ⟨rfl, hb⟩
  have hB3 : Below w2.heap.size w2 w3 := bTrans (Below.refl _ _) hb
  have HD3 := Lib.hid (bTrans HD2.out hB3)
  have HT3 := Lib.hid (HT2.out.mono hB3)
  have HTB3 := Lib.hid (HTB2.out.mono hB3)
  have T3 := Lib.hid (T2.out.mono hB3)
  have X3 := Lib.hid (X2.out.mono hB3)
  clear hb hB3 HD2 HT2 HTB2 T2 T_0 T_1 T_2 T_l X2 X_0 X_1 X_2 X_3 X_l
  obtain ⟨T_0, T_1, T_2, T_l⟩ := T3.out.c3
  obtain ⟨X_0, X_1, X_2, X_3, X_l⟩ := X3.out.c4
  obtain ⟨bq, hbq⟩ : ∃ b, t.wellB fp = b := ⟨_, rfl⟩
  rw [hbq]
  have HW1 := Lib.hid hbq
  clear hbq
  cases bq
  case false =>
    go_wp2_with fail
    refine (works5_any _ HTB3.out).mono ?_
    rintro e w99 ⟨rfl, hb99⟩
    go_wp2_with fail
    go_ret
    exact ⟨rfl, bTrans HD3.out hb99⟩
  go_wp2_with fail
  refine (isWell5_any _ _ _ _ t fq _).mono ?_
  rintro e w4 ⟨rfl, hb⟩
  have hB4 : Below w3.heap.size w3 w4 := bTrans (Below.refl _ _) hb
  have HD4 := Lib.hid (bTrans HD3.out hB4)
  have HT4 := Lib.hid (HT3.out.mono hB4)
  have HTB4 := Lib.hid (HTB3.out.mono hB4)
  have T4 := Lib.hid (T3.out.mono hB4)
  have X4 := Lib.hid (X3.out.mono hB4)
  clear hb hB4 HD3 HT3 HTB3 T3 T_0 T_1 T_2 T_l X3 X_0 X_1 X_2 X_3 X_l
  obtain ⟨T_0, T_1, T_2, T_l⟩ := T4.out.c3
  obtain ⟨X_0, X_1, X_2, X_3, X_l⟩ := X4.out.c4
  obtain ⟨bq, hbq⟩ : ∃ b, t.wellB fq = b := ⟨_, rfl⟩
  rw [hbq]
  have HW2 := Lib.hid hbq
  clear hbq
  cases bq
  case false =>
    go_wp2_with fail
    refine (works5_any _ HTB4.out).mono ?_
    rintro e w99 ⟨rfl, hb99⟩
    go_wp2_with fail
    go_ret
    exact ⟨rfl, bTrans HD4.out hb99⟩
  go_wp2_with fail
  refine (isLaw5_any law _).mono ?_
  rintro e w5 ⟨rfl, hb⟩
  have hB5 : Below w4.heap.size w4 w5 := bTrans (Below.refl _ _) hb
  have HD5 := Lib.hid (bTrans HD4.out hB5)
  have HT5 := Lib.hid (HT4.out.mono hB5)
  have HTB5 := Lib.hid (HTB4.out.mono hB5)
  have T5 := Lib.hid (T4.out.mono hB5)
  have X5 := Lib.hid (X4.out.mono hB5)
  clear hb hB5 HD4 HT4 HTB4 T4 T_0 T_1 T_2 T_l X4 X_0 X_1 X_2 X_3 X_l
  obtain ⟨T_0, T_1, T_2, T_l⟩ := T5.out.c3
  obtain ⟨X_0, X_1, X_2, X_3, X_l⟩ := X5.out.c4
  obtain ⟨bq, hbq⟩ : ∃ b, inR law 0 99 = b := ⟨_, rfl⟩
  rw [hbq]
  have HLW := Lib.hid hbq
  clear hbq
  cases bq
  case false =>
    go_wp2_with fail
    refine (works5_any _ HTB5.out).mono ?_
    rintro e w99 ⟨rfl, hb99⟩
    go_wp2_with fail
    go_ret
    exact ⟨rfl, bTrans HD5.out hb99⟩
  have HOK := Lib.hid (readyB_ok HR1.out).1
  by_cases h2 : (t.nf : Int) > 2
  case pos =>
    go_wp2_with fail
    refine (works5_any _ HTB5.out).mono ?_
    rintro e w99 ⟨rfl, hb99⟩
    go_wp2_with fail
    go_ret
    exact ⟨rfl, bTrans HD5.out hb99⟩
  have H2 := Lib.hid (show t.nf ≤ 2 by omega)
  have hiw := inR_iff.1 HIW.out
  have hw1 := inR_iff.1 ((wellB_ok HOK.out fp).symm.trans HW1.out)
  have hw2 := inR_iff.1 ((wellB_ok HOK.out fq).symm.trans HW2.out)
  obtain ⟨i, rfl⟩ : ∃ i : Nat, world = (i : Int) := ⟨world.toNat, by omega⟩
  obtain ⟨p, rfl⟩ : ∃ p : Nat, fp = (p : Int) := ⟨fp.toNat, by omega⟩
  obtain ⟨q, rfl⟩ : ∃ q : Nat, fq = (q : Int) := ⟨fq.toNat, by omega⟩
  have HP := Lib.hid (show (p : Int) < t.wells by omega)
  have HQQ := Lib.hid (show (q : Int) < t.wells by omega)
  have HII := Lib.hid (show i < t.nw by omega)
  clear hiw hw1 hw2
  go_wp2_with fail
  refine (refLeftOf Aw Af cw cf t _ HOK.out HT5.out).mono ?_
  rintro e w6 ⟨⟨v, rfl, hv⟩, hb⟩
  obtain ⟨A4, c4, rfl, hr4⟩ := hv.nums
  rw [numL_intL] at hr4
  have hi4 := intsAt_row.2 hr4
  have hB6 : Below w5.heap.size w5 w6 := bTrans (Below.refl _ _) hb
  have HD6 := Lib.hid (bTrans HD5.out hB6)
  have HT6 := Lib.hid (HT5.out.mono hB6)
  have HTB6 := Lib.hid (HTB5.out.mono hB6)
  have HI46 := Lib.hid (hi4)
  have T6 := Lib.hid (T5.out.mono hB6)
  have X6 := Lib.hid (X5.out.mono hB6)
  clear hb hB6 HD5 HT5 HTB5 T5 T_0 T_1 T_2 T_l X5 X_0 X_1 X_2 X_3 X_l
  obtain ⟨T_0, T_1, T_2, T_l⟩ := T6.out.c3
  obtain ⟨X_0, X_1, X_2, X_3, X_l⟩ := X6.out.c4
  clear hv hr4 hi4
  obtain ⟨n, hn⟩ : ∃ n, t.leftL.length = n := ⟨_, rfl⟩
  rw [hn] at HI46 ⊢
  have n6 : n ≤ 6 := by rw [← hn]; exact left_six HOK.out
  have HLI := Lib.hid (left_in HOK.out HII.out)
  rw [leftO_ok HOK.out, hn] at HLI
  clear hn
  go_wp2_with fail
  obtain ⟨bl, hbl⟩ : ∃ b, t.leftB i = b := ⟨_, rfl⟩
  rw [hbl] at HLI
  have HBL := Lib.hid hbl
  clear hbl
  refine (in1_any A4 n c4 (intL0 t.leftL) (i : Int) _ (by omega) HI46.out).mono ?_
  rintro e w7 ⟨rfl, hb⟩
  rw [HLI.out]
  have hB7 : Below w6.heap.size w6 w7 := bTrans (Below.refl _ _) hb
  have HD7 := Lib.hid (bTrans HD6.out hB7)
  have HT7 := Lib.hid (HT6.out.mono hB7)
  have HTB7 := Lib.hid (HTB6.out.mono hB7)
  have T7 := Lib.hid (T6.out.mono hB7)
  have X7 := Lib.hid (X6.out.mono hB7)
  clear hb hB7 HD6 HT6 HTB6 HI46 T6 T_0 T_1 T_2 T_l X6 X_0 X_1 X_2 X_3 X_l
  obtain ⟨T_0, T_1, T_2, T_l⟩ := T7.out.c3
  obtain ⟨X_0, X_1, X_2, X_3, X_l⟩ := X7.out.c4
  cases bl
  case false =>
    go_wp2_with fail
    refine (works5_any _ HTB7.out).mono ?_
    rintro e w99 ⟨rfl, hb99⟩
    go_wp2_with fail
    go_ret
    exact ⟨rfl, bTrans HD7.out hb99⟩
  have HJ := Lib.hid (judge_at HOK.out HII.out HBL.out HP.out HQQ.out HLW.out)
  have HKE := Lib.hid (harms_at HOK.out HII.out HBL.out HP.out HQQ.out HLW.out).1
  go_wp2_with fail
  obtain ⟨L, hL⟩ : ∃ L, t.judL (p : Int) (q : Int) law = L := ⟨_, rfl⟩
  have HL := Lib.hid hL
  have HLS := Lib.hid (show lstO (t.decErr (p : Int) (q : Int) law) (t.decL (p : Int) (q : Int) law) = L from hL)
  have HSB := Lib.hid (show List.Sublist L t.tests by rw [← hL]; exact judL_sub _ _ _ _)
  have HLO := Lib.hid (show t.TestsOk L from fun x hx => tests_ok5 HOK.out x (HSB.out.subset hx))
  rw [hL] at HJ
  obtain ⟨nl, hnl⟩ : ∃ nl, L.length = nl := ⟨_, rfl⟩
  have HNL := Lib.hid hnl
  have HN16 := Lib.hid (show nl ≤ 100 by have h1 := (sub_tests HSB.out).2.1; have h2 := HOK.out.w0; have h3 := HOK.out.w1; have h4 : t.wells.toNat ≤ 4 := (by omega); have := Nat.mul_le_mul h4 h4; omega)
  clear hnl hL
  obtain ⟨er, her⟩ : ∃ er, t.decErr (p : Int) (q : Int) law = er := ⟨_, rfl⟩
  obtain ⟨kh, hkh⟩ : ∃ v, harmK (t.between p q) law = v := ⟨_, rfl⟩
  rw [her, hkh] at HJ
  have HER := Lib.hid her
  have HKH := Lib.hid hkh
  clear her hkh
  refine (decideQ_any Aw Af cw cf t (p : Int) (q : Int) law _ HS.out HT7.out HTB7.out).mono ?_
  rintro e w8 ⟨ho, hb⟩
  obtain ⟨A5, c5, rfl, hrow⟩ := ho.o
  rw [HLS.out] at hrow ⊢
  rw [HNL.out, HER.out]
  have hB8 : Below w7.heap.size w7 w8 := bTrans (Below.refl _ _) hb
  have HD8 := Lib.hid (bTrans HD7.out hB8)
  have HT8 := Lib.hid (HT7.out.mono hB8)
  have HTB8 := Lib.hid (HTB7.out.mono hB8)
  have HLA8 := Lib.hid (hrow)
  have T8 := Lib.hid (T7.out.mono hB8)
  have X8 := Lib.hid (X7.out.mono hB8)
  clear hb hB8 HD7 HT7 HTB7 T7 T_0 T_1 T_2 T_l X7 X_0 X_1 X_2 X_3 X_l
  obtain ⟨T_0, T_1, T_2, T_l⟩ := T8.out.c3
  obtain ⟨X_0, X_1, X_2, X_3, X_l⟩ := X8.out.c4
  clear ho hrow
  go_wp2_with fail
  refine (harmsQ_any Aw Af cw cf t (p : Int) (q : Int) law _ HS.out HT8.out HTB8.out).mono ?_
  rintro e w9 ⟨rfl, hb⟩
  rw [HKE.out, if_pos rfl, Int.toNat_natCast, Int.toNat_natCast, HKH.out]
  have hB9 : Below w8.heap.size w8 w9 := bTrans (Below.refl _ _) hb
  have HD9 := Lib.hid (bTrans HD8.out hB9)
  have HT9 := Lib.hid (HT8.out.mono hB9)
  have HTB9 := Lib.hid (HTB8.out.mono hB9)
  have HLA9 := Lib.hid (HLA8.out.mono hB9)
  have T9 := Lib.hid (T8.out.mono hB9)
  have X9 := Lib.hid (X8.out.mono hB9)
  clear hb hB9 HD8 HT8 HTB8 HLA8 T8 T_0 T_1 T_2 T_l X8 X_0 X_1 X_2 X_3 X_l
  obtain ⟨T_0, T_1, T_2, T_l⟩ := T9.out.c3
  obtain ⟨X_0, X_1, X_2, X_3, X_l⟩ := X9.out.c4
  go_wp2_with fail
  have hway : (er = 3 ∧ kh = 3 ∧ nl = 0) ∨ (er = 0 ∧ nl = 0 ∧ (kh != 3) = true ∧ ¬ kh = 3) ∨ (er = 0 ∧ 0 < nl ∧ kh = 3) := by
    have h1 := HJ.out.2.2.1
    rcases HJ.out.1 with h0 | h0
    · rcases Nat.eq_zero_or_pos nl with h3 | h3
      · have h4 := h1.1 ⟨h0, List.eq_nil_of_length_eq_zero (by rw [HNL.out]; exact h3)⟩
        exact .inr (.inl ⟨h0, h3, by simp [h4], h4⟩)
      · exact .inr (.inr ⟨h0, h3, Classical.byContradiction fun h4 => absurd (h1.2 h4).2 (fun e => by rw [← HNL.out, e] at h3; exact absurd h3 (by decide))⟩)
    · refine .inl ⟨h0, Classical.byContradiction fun h4 => absurd ((h1.2 h4).1) (by rw [h0]; decide), ?_⟩
      rw [← HNL.out, ← HLS.out, HER.out, h0]
      rfl
  rcases hway with ⟨h0, h1, h3⟩ | ⟨h0, h3, h1, h4⟩ | ⟨h0, h3, h1⟩
  · skip
    subst h0 h1 h3
    refine (isKnown_any 3 _).mono ?_
    rintro e w10 ⟨rfl, hb⟩
    have hB10 : Below w9.heap.size w9 w10 := bTrans (Below.refl _ _) hb
    have HD10 := Lib.hid (bTrans HD9.out hB10)
    have HT10 := Lib.hid (HT9.out.mono hB10)
    have HTB10 := Lib.hid (HTB9.out.mono hB10)
    have HLA10 := Lib.hid (HLA9.out.mono hB10)
    have T10 := Lib.hid (T9.out.mono hB10)
    have X10 := Lib.hid (X9.out.mono hB10)
    clear hb hB10 HD9 HT9 HTB9 HLA9 T9 T_0 T_1 T_2 T_l X9 X_0 X_1 X_2 X_3 X_l
    obtain ⟨T_0, T_1, T_2, T_l⟩ := T10.out.c3
    obtain ⟨X_0, X_1, X_2, X_3, X_l⟩ := X10.out.c4
    go_wp2_with fail
    refine ((by have := areTests_any Aw Af A5 cw cf c5 t L w10 HOK.out HLO.out (sub_tests HSB.out).2.2 (sub_tests HSB.out).2.1 HLA10.out; rw [HNL.out] at this; exact this : Calls Tryd.prog 28 #[.agg #[.int .i64 t.wells, .slice Aw t.nw cw, .slice Af t.nf cf], .slice A5 0 c5] w10 fun e w' => e = .returned (.bool true) ∧ Below w10.heap.size w10 w')).mono ?_
    rintro e w11 ⟨rfl, hb⟩
    have hB11 : Below w10.heap.size w10 w11 := bTrans (Below.refl _ _) hb
    have HD11 := Lib.hid (bTrans HD10.out hB11)
    have HT11 := Lib.hid (HT10.out.mono hB11)
    have HTB11 := Lib.hid (HTB10.out.mono hB11)
    have HLA11 := Lib.hid (HLA10.out.mono hB11)
    have T11 := Lib.hid (T10.out.mono hB11)
    have X11 := Lib.hid (X10.out.mono hB11)
    clear hb hB11 HD10 HT10 HTB10 HLA10 T10 T_0 T_1 T_2 T_l X10 X_0 X_1 X_2 X_3 X_l
    obtain ⟨T_0, T_1, T_2, T_l⟩ := T11.out.c3
    obtain ⟨X_0, X_1, X_2, X_3, X_l⟩ := X11.out.c4
    go_wp2_with fail
    go_loopw [12] (fun s wr => ∃ (k : Nat) (o : Qt) (Bw : Option Addr) (dw : Nat) (Bf : Option Addr) (df : Nat), k ≤ 0 ∧ s = .int .i64 (k : Int) ∧ t.addAll (i : Int) (L.take k) = o ∧ QAt wr Bw Bf o ∧ TBox wr w11.heap.size 25 #[.int .i64 o.wells, .slice Bw o.nw dw, .slice Bf o.nf df] ∧ Below w11.heap.size w11 wr) (fun s _ => 0 - (intOf s).toNat)
    case atStart => exact ⟨0, t, Aw, cw, Af, cf, Nat.zero_le _, rfl, rfl, HT11.out.mono (bAlloc (Below.refl _ _) _), TBox.new _ _ _, bAlloc (Below.refl _ _) _⟩
    case round =>
      obtain ⟨k, o, Bw, dw, Bf, df, hk, rfl, ho, hq, hbx, hb⟩ := hrel
      have HOA := Lib.hid ho
      have HOX := Lib.hid hbx
      have HOF := Lib.hid (show o.Fits by rw [← ho]; exact addAll_fits HF.out H2.out (by rw [List.length_take, HNL.out]; have := HN16.out; omega))
      have HSO := Lib.hid HOF.out.small
      clear ho hbx
      clear T_0 T_1 T_2 T_l X_0 X_1 X_2 X_3 X_l
      have hB12 : Below w11.heap.size w11 wr := bTrans (Below.refl _ _) hb
      have HD12 := Lib.hid (bTrans HD11.out hB12)
      have HT12 := Lib.hid (HT11.out.mono hB12)
      have HTB12 := Lib.hid (HTB11.out.mono hB12)
      have HLA12 := Lib.hid (HLA11.out.mono hB12)
      have HQ12 := Lib.hid (hq)
      have HRL12 := Lib.hid ((show Upto w11 wr from hb))
      have T12 := Lib.hid (T11.out.mono hB12)
      have X12 := Lib.hid (X11.out.mono hB12)
      clear hb hB12
      obtain ⟨T_0, T_1, T_2, T_l⟩ := T12.out.c3
      obtain ⟨X_0, X_1, X_2, X_3, X_l⟩ := X12.out.c4
      have O12 := HOX
      clear HOX
      obtain ⟨O_0, O_1, O_2, O_l⟩ := O12.out.c3
      by_cases hlt : k < 0
      case pos =>
        exact absurd hlt (Nat.not_lt_zero _)
      obtain rfl : k = 0 := by omega
      go_wp2_with fail
      refine (works5_any _ HTB12.out).mono ?_
      rintro e w99 ⟨rfl, hb99⟩
      go_wp2_with fail
      go_ret
      exact ⟨rfl, bTrans HD12.out hb99⟩
  · skip
    subst h0 h3
    refine (isKnown_any 0 _).mono ?_
    rintro e w10 ⟨rfl, hb⟩
    have hB10 : Below w9.heap.size w9 w10 := bTrans (Below.refl _ _) hb
    have HD10 := Lib.hid (bTrans HD9.out hB10)
    have HT10 := Lib.hid (HT9.out.mono hB10)
    have HTB10 := Lib.hid (HTB9.out.mono hB10)
    have HLA10 := Lib.hid (HLA9.out.mono hB10)
    have T10 := Lib.hid (T9.out.mono hB10)
    have X10 := Lib.hid (X9.out.mono hB10)
    clear hb hB10 HD9 HT9 HTB9 HLA9 T9 T_0 T_1 T_2 T_l X9 X_0 X_1 X_2 X_3 X_l
    obtain ⟨T_0, T_1, T_2, T_l⟩ := T10.out.c3
    obtain ⟨X_0, X_1, X_2, X_3, X_l⟩ := X10.out.c4
    go_wp2_with fail
    refine ((by have := areTests_any Aw Af A5 cw cf c5 t L w10 HOK.out HLO.out (sub_tests HSB.out).2.2 (sub_tests HSB.out).2.1 HLA10.out; rw [HNL.out] at this; exact this : Calls Tryd.prog 28 #[.agg #[.int .i64 t.wells, .slice Aw t.nw cw, .slice Af t.nf cf], .slice A5 0 c5] w10 fun e w' => e = .returned (.bool true) ∧ Below w10.heap.size w10 w')).mono ?_
    rintro e w11 ⟨rfl, hb⟩
    have hB11 : Below w10.heap.size w10 w11 := bTrans (Below.refl _ _) hb
    have HD11 := Lib.hid (bTrans HD10.out hB11)
    have HT11 := Lib.hid (HT10.out.mono hB11)
    have HTB11 := Lib.hid (HTB10.out.mono hB11)
    have HLA11 := Lib.hid (HLA10.out.mono hB11)
    have T11 := Lib.hid (T10.out.mono hB11)
    have X11 := Lib.hid (X10.out.mono hB11)
    clear hb hB11 HD10 HT10 HTB10 HLA10 T10 T_0 T_1 T_2 T_l X10 X_0 X_1 X_2 X_3 X_l
    obtain ⟨T_0, T_1, T_2, T_l⟩ := T11.out.c3
    obtain ⟨X_0, X_1, X_2, X_3, X_l⟩ := X11.out.c4
    go_wp2_with fail
    go_loopw [12] (fun s wr => ∃ (k : Nat) (o : Qt) (Bw : Option Addr) (dw : Nat) (Bf : Option Addr) (df : Nat), k ≤ 0 ∧ s = .int .i64 (k : Int) ∧ t.addAll (i : Int) (L.take k) = o ∧ QAt wr Bw Bf o ∧ TBox wr w11.heap.size 25 #[.int .i64 o.wells, .slice Bw o.nw dw, .slice Bf o.nf df] ∧ Below w11.heap.size w11 wr) (fun s _ => 0 - (intOf s).toNat)
    case atStart => exact ⟨0, t, Aw, cw, Af, cf, Nat.zero_le _, rfl, rfl, HT11.out.mono (bAlloc (Below.refl _ _) _), TBox.new _ _ _, bAlloc (Below.refl _ _) _⟩
    case round =>
      obtain ⟨k, o, Bw, dw, Bf, df, hk, rfl, ho, hq, hbx, hb⟩ := hrel
      have HOA := Lib.hid ho
      have HOX := Lib.hid hbx
      have HOF := Lib.hid (show o.Fits by rw [← ho]; exact addAll_fits HF.out H2.out (by rw [List.length_take, HNL.out]; have := HN16.out; omega))
      have HSO := Lib.hid HOF.out.small
      clear ho hbx
      clear T_0 T_1 T_2 T_l X_0 X_1 X_2 X_3 X_l
      have hB12 : Below w11.heap.size w11 wr := bTrans (Below.refl _ _) hb
      have HD12 := Lib.hid (bTrans HD11.out hB12)
      have HT12 := Lib.hid (HT11.out.mono hB12)
      have HTB12 := Lib.hid (HTB11.out.mono hB12)
      have HLA12 := Lib.hid (HLA11.out.mono hB12)
      have HQ12 := Lib.hid (hq)
      have HRL12 := Lib.hid ((show Upto w11 wr from hb))
      have T12 := Lib.hid (T11.out.mono hB12)
      have X12 := Lib.hid (X11.out.mono hB12)
      clear hb hB12
      obtain ⟨T_0, T_1, T_2, T_l⟩ := T12.out.c3
      obtain ⟨X_0, X_1, X_2, X_3, X_l⟩ := X12.out.c4
      have O12 := HOX
      clear HOX
      obtain ⟨O_0, O_1, O_2, O_l⟩ := O12.out.c3
      by_cases hlt : k < 0
      case pos =>
        exact absurd hlt (Nat.not_lt_zero _)
      obtain rfl : k = 0 := by omega
      go_wp2_with fail
      have HOL := Lib.hid (show t.addAll (i : Int) (t.judL (p : Int) (q : Int) law) = o by have h := HOA.out; rw [List.take_of_length_le (Nat.le_of_eq HNL.out)] at h; rw [HL.out]; exact h)
      refine (refCheck5 _ _ _ _ o _ HSO.out.1 HSO.out.2.1 HQ12.out).mono ?_
      rintro e w13 ⟨rfl, hb⟩
      have hB13 : Below wr.heap.size wr w13 := bTrans (Below.refl _ _) hb
      have HD13 := Lib.hid (bTrans HD12.out hB13)
      have HT13 := Lib.hid (HT12.out.mono hB13)
      have HTB13 := Lib.hid (HTB12.out.mono hB13)
      have HLA13 := Lib.hid (HLA12.out.mono hB13)
      have HQ13 := Lib.hid (HQ12.out.mono hB13)
      have HRL13 := Lib.hid (HRL12.out.mono hB13)
      have T13 := Lib.hid (T12.out.mono hB13)
      have X13 := Lib.hid (X12.out.mono hB13)
      have O13 := Lib.hid (O12.out.mono hB13)
      clear hb hB13 HD12 HT12 HTB12 HLA12 HQ12 HRL12 T12 T_0 T_1 T_2 T_l X12 X_0 X_1 X_2 X_3 X_l O12 O_0 O_1 O_2 O_l
      obtain ⟨T_0, T_1, T_2, T_l⟩ := T13.out.c3
      obtain ⟨X_0, X_1, X_2, X_3, X_l⟩ := X13.out.c4
      obtain ⟨O_0, O_1, O_2, O_l⟩ := O13.out.c3
      by_cases hok : o.Ok
      case neg =>
        rw [Qt.err_bad hok]
        clear hok
        go_wp2_with fail
        refine (works5_any _ HTB13.out).mono ?_
        rintro e w99 ⟨rfl, hb99⟩
        go_wp2_with fail
        go_ret
        exact ⟨rfl, bTrans HD13.out hb99⟩
      rw [Qt.err_ok hok]
      have HOK2 := Lib.hid hok
      have HJE := Lib.hid (judge_end HOK.out HII.out HBL.out HP.out HQQ.out HLW.out HER.out HOL.out hok)
      clear hok
      obtain ⟨m, hm⟩ : ∃ m, harmK (o.between p q) law = m := ⟨_, rfl⟩
      rw [hm] at HJE
      have HM := Lib.hid hm
      clear hm
      obtain ⟨v, hv⟩ : ∃ v, t.F (i : Int) (p, q) = v := ⟨_, rfl⟩
      rw [hv] at HJE
      have HV := Lib.hid hv
      clear hv
      go_wp2_with fail
      refine (harmsQ_any Bw Bf dw df o (p : Int) (q : Int) law _ HSO.out HQ13.out HTB13.out).mono ?_
      rintro e w14 ⟨rfl, hb⟩
      rw [HJE.out.1, if_pos rfl, Int.toNat_natCast, Int.toNat_natCast, HM.out]
      have hB14 : Below w13.heap.size w13 w14 := bTrans (Below.refl _ _) hb
      have HD14 := Lib.hid (bTrans HD13.out hB14)
      have HT14 := Lib.hid (HT13.out.mono hB14)
      have HTB14 := Lib.hid (HTB13.out.mono hB14)
      have HLA14 := Lib.hid (HLA13.out.mono hB14)
      have HQ14 := Lib.hid (HQ13.out.mono hB14)
      have HRL14 := Lib.hid (HRL13.out.mono hB14)
      have T14 := Lib.hid (T13.out.mono hB14)
      have X14 := Lib.hid (X13.out.mono hB14)
      have O14 := Lib.hid (O13.out.mono hB14)
      clear hb hB14 HD13 HT13 HTB13 HLA13 HQ13 HRL13 T13 T_0 T_1 T_2 T_l X13 X_0 X_1 X_2 X_3 X_l O13 O_0 O_1 O_2 O_l
      obtain ⟨T_0, T_1, T_2, T_l⟩ := T14.out.c3
      obtain ⟨X_0, X_1, X_2, X_3, X_l⟩ := X14.out.c4
      obtain ⟨O_0, O_1, O_2, O_l⟩ := O14.out.c3
      have HFL := Lib.hid (fun (w' : World) (hb : Below w14.heap.size w14 w') => (HV.out ▸ fallAt_F t i p q ▸ fall5_any Aw Af cw cf t i p q w' HOK.out HII.out HP.out HQQ.out ((HT14.out).mono hb) : Calls Tryd.prog 63 #[.agg #[.int .i64 t.wells, .slice Aw t.nw cw, .slice Af t.nf cf], .int .i64 i, .int .i64 p, .int .i64 q] w' fun e w'' => e = .returned (.int .i64 v) ∧ Below w'.heap.size w' w''))
      have HWK := Lib.hid (fun (w' : World) (hb : Below w14.heap.size w14 w') => works5_any w' ((HTB14.out).mono hb))
      rcases HJE.out.2 with ⟨hm, hvl⟩ | ⟨hm, hvl⟩
      · skip
        subst hm
        go_wp2_with fail
        refine wp_region_quiet_below (by kernel_rfl) (by kernel_rfl) ?_
        repeat (go_big_quiet_step (((first | (go_at_call 63; with_reducible exact Calls.regrown_of (HFL.out _ (below_regrown _ _ _))) | (go_at_call 18; with_reducible exact Calls.regrown_of (HWK.out _ (below_regrown _ _ _)))))))
        refine wpQuiet_nil ?_
        intro w15 hw9
        have hb := below_of_regrown hw9
        clear hw9 HFL HWK
        have hB15 : Below w14.heap.size w14 w15 := bTrans (Below.refl _ _) hb
        have HD15 := Lib.hid (bTrans HD14.out hB15)
        have HT15 := Lib.hid (HT14.out.mono hB15)
        have HTB15 := Lib.hid (HTB14.out.mono hB15)
        have HLA15 := Lib.hid (HLA14.out.mono hB15)
        have HQ15 := Lib.hid (HQ14.out.mono hB15)
        have HRL15 := Lib.hid (HRL14.out.mono hB15)
        have T15 := Lib.hid (T14.out.mono hB15)
        have X15 := Lib.hid (X14.out.mono hB15)
        have O15 := Lib.hid (O14.out.mono hB15)
        clear hb hB15 HD14 HT14 HTB14 HLA14 HQ14 HRL14 T14 T_0 T_1 T_2 T_l X14 X_0 X_1 X_2 X_3 X_l O14 O_0 O_1 O_2 O_l
        obtain ⟨T_0, T_1, T_2, T_l⟩ := T15.out.c3
        obtain ⟨X_0, X_1, X_2, X_3, X_l⟩ := X15.out.c4
        obtain ⟨O_0, O_1, O_2, O_l⟩ := O15.out.c3
        go_wp2_with fail
        go_ret
        exact ⟨rfl, HD15.out⟩
      · skip
        subst hm
        have hd1 : decide (v > law) = false := decide_eq_false (by omega)
        have hd2 : decide (law < v) = false := decide_eq_false (by omega)
        have hvl2 : ¬ law < v := by omega
        go_wp2_with fail
        refine wp_region_quiet_below (by kernel_rfl) (by kernel_rfl) ?_
        repeat (go_big_quiet_step (((first | (go_at_call 63; with_reducible exact Calls.regrown_of (HFL.out _ (below_regrown _ _ _))) | (go_at_call 18; with_reducible exact Calls.regrown_of (HWK.out _ (below_regrown _ _ _)))))))
        refine wpQuiet_nil ?_
        intro w15 hw9
        have hb := below_of_regrown hw9
        clear hw9 HFL HWK
        have hB15 : Below w14.heap.size w14 w15 := bTrans (Below.refl _ _) hb
        have HD15 := Lib.hid (bTrans HD14.out hB15)
        have HT15 := Lib.hid (HT14.out.mono hB15)
        have HTB15 := Lib.hid (HTB14.out.mono hB15)
        have HLA15 := Lib.hid (HLA14.out.mono hB15)
        have HQ15 := Lib.hid (HQ14.out.mono hB15)
        have HRL15 := Lib.hid (HRL14.out.mono hB15)
        have T15 := Lib.hid (T14.out.mono hB15)
        have X15 := Lib.hid (X14.out.mono hB15)
        have O15 := Lib.hid (O14.out.mono hB15)
        clear hb hB15 HD14 HT14 HTB14 HLA14 HQ14 HRL14 T14 T_0 T_1 T_2 T_l X14 X_0 X_1 X_2 X_3 X_l O14 O_0 O_1 O_2 O_l
        obtain ⟨T_0, T_1, T_2, T_l⟩ := T15.out.c3
        obtain ⟨X_0, X_1, X_2, X_3, X_l⟩ := X15.out.c4
        obtain ⟨O_0, O_1, O_2, O_l⟩ := O15.out.c3
        go_wp2_with fail
        go_ret
        exact ⟨rfl, HD15.out⟩
  · skip
    subst h0 h1
    have g0 : (nl == 0) = false := by simp; omega
    have g1 : ((nl : Int) == 0) = false := by simp; omega
    have g2 : ¬ nl = 0 := by omega
    have g3 : ¬ (nl : Int) = 0 := by omega
    refine (isKnown_any 0 _).mono ?_
    rintro e w10 ⟨rfl, hb⟩
    have hB10 : Below w9.heap.size w9 w10 := bTrans (Below.refl _ _) hb
    have HD10 := Lib.hid (bTrans HD9.out hB10)
    have HT10 := Lib.hid (HT9.out.mono hB10)
    have HTB10 := Lib.hid (HTB9.out.mono hB10)
    have HLA10 := Lib.hid (HLA9.out.mono hB10)
    have T10 := Lib.hid (T9.out.mono hB10)
    have X10 := Lib.hid (X9.out.mono hB10)
    clear hb hB10 HD9 HT9 HTB9 HLA9 T9 T_0 T_1 T_2 T_l X9 X_0 X_1 X_2 X_3 X_l
    obtain ⟨T_0, T_1, T_2, T_l⟩ := T10.out.c3
    obtain ⟨X_0, X_1, X_2, X_3, X_l⟩ := X10.out.c4
    go_wp2_with fail
    refine ((by have := areTests_any Aw Af A5 cw cf c5 t L w10 HOK.out HLO.out (sub_tests HSB.out).2.2 (sub_tests HSB.out).2.1 HLA10.out; rw [HNL.out] at this; exact this : Calls Tryd.prog 28 #[.agg #[.int .i64 t.wells, .slice Aw t.nw cw, .slice Af t.nf cf], .slice A5 nl c5] w10 fun e w' => e = .returned (.bool true) ∧ Below w10.heap.size w10 w')).mono ?_
    rintro e w11 ⟨rfl, hb⟩
    have hB11 : Below w10.heap.size w10 w11 := bTrans (Below.refl _ _) hb
    have HD11 := Lib.hid (bTrans HD10.out hB11)
    have HT11 := Lib.hid (HT10.out.mono hB11)
    have HTB11 := Lib.hid (HTB10.out.mono hB11)
    have HLA11 := Lib.hid (HLA10.out.mono hB11)
    have T11 := Lib.hid (T10.out.mono hB11)
    have X11 := Lib.hid (X10.out.mono hB11)
    clear hb hB11 HD10 HT10 HTB10 HLA10 T10 T_0 T_1 T_2 T_l X10 X_0 X_1 X_2 X_3 X_l
    obtain ⟨T_0, T_1, T_2, T_l⟩ := T11.out.c3
    obtain ⟨X_0, X_1, X_2, X_3, X_l⟩ := X11.out.c4
    go_wp2_with fail
    go_loopw [12] (fun s wr => ∃ (k : Nat) (o : Qt) (Bw : Option Addr) (dw : Nat) (Bf : Option Addr) (df : Nat), k ≤ nl ∧ s = .int .i64 (k : Int) ∧ t.addAll (i : Int) (L.take k) = o ∧ QAt wr Bw Bf o ∧ TBox wr w11.heap.size 25 #[.int .i64 o.wells, .slice Bw o.nw dw, .slice Bf o.nf df] ∧ Below w11.heap.size w11 wr) (fun s _ => nl - (intOf s).toNat)
    case atStart => exact ⟨0, t, Aw, cw, Af, cf, Nat.zero_le _, rfl, rfl, HT11.out.mono (bAlloc (Below.refl _ _) _), TBox.new _ _ _, bAlloc (Below.refl _ _) _⟩
    case round =>
      obtain ⟨k, o, Bw, dw, Bf, df, hk, rfl, ho, hq, hbx, hb⟩ := hrel
      have HOA := Lib.hid ho
      have HOX := Lib.hid hbx
      have HOF := Lib.hid (show o.Fits by rw [← ho]; exact addAll_fits HF.out H2.out (by rw [List.length_take, HNL.out]; have := HN16.out; omega))
      have HSO := Lib.hid HOF.out.small
      clear ho hbx
      clear T_0 T_1 T_2 T_l X_0 X_1 X_2 X_3 X_l
      have hB12 : Below w11.heap.size w11 wr := bTrans (Below.refl _ _) hb
      have HD12 := Lib.hid (bTrans HD11.out hB12)
      have HT12 := Lib.hid (HT11.out.mono hB12)
      have HTB12 := Lib.hid (HTB11.out.mono hB12)
      have HLA12 := Lib.hid (HLA11.out.mono hB12)
      have HQ12 := Lib.hid (hq)
      have HRL12 := Lib.hid ((show Upto w11 wr from hb))
      have T12 := Lib.hid (T11.out.mono hB12)
      have X12 := Lib.hid (X11.out.mono hB12)
      clear hb hB12
      obtain ⟨T_0, T_1, T_2, T_l⟩ := T12.out.c3
      obtain ⟨X_0, X_1, X_2, X_3, X_l⟩ := X12.out.c4
      have O12 := HOX
      clear HOX
      obtain ⟨O_0, O_1, O_2, O_l⟩ := O12.out.c3
      by_cases hlt : k < nl
      case pos =>
        obtain ⟨x, hx⟩ : ∃ x, L[k]? = some x := ⟨_, List.getElem?_eq_getElem (by rw [HNL.out]; exact hlt)⟩
        obtain ⟨bb, oo, rfl, hbb, cq1, cq2⟩ := SliceE.tst HLA12.out hx
        have hxo := HLO.out x (List.mem_of_getElem? hx)
        have hne := HJ.out.2.1 x (List.mem_of_getElem? hx)
        obtain ⟨a, b⟩ := x
        have HA1 := Lib.hid (show (a : Int) < t.wells from hxo.1)
        have HB1 := Lib.hid (show (b : Int) < t.wells from hxo.2)
        have has := addAll_succ (t := t) (a := (i : Int)) hx
        obtain ⟨v, hv⟩ : ∃ v, t.F (i : Int) (a, b) = v := ⟨_, rfl⟩
        rw [hv, HOA.out] at has
        obtain ⟨o2, ho2⟩ : ∃ o2, o.add (shownF (a, b) v) = o2 := ⟨_, rfl⟩
        rw [ho2] at has
        have HAS := Lib.hid has
        have HV := Lib.hid hv
        have HO2 := Lib.hid ho2
        have k1 : (k : Int) < (nl : Int) := by omega
        have k0 : (0 : Int) ≤ (k : Int) := by omega
        have k100 : k < 100 := by have := HN16.out; omega
        have cq1 : wr.cell? ⟨bb, oo + k * 2, none⟩ = some (.int .i64 (a : Int)) := cq1
        have cq2 : wr.cell? ⟨bb, oo + k * 2 + 1, none⟩ = some (.int .i64 (b : Int)) := cq2
        have HX := Lib.hid hx
        clear hx hxo has hv ho2
        by_cases hap : a = p
        case pos =>
          have hbq : ¬ b = q := fun h => hne (by rw [hap, h])
          have e1 : ((a : Int) == (p : Int)) = true := by simp; omega
          have e2 : (a == p) = true := by simp [hap]
          have e3 : ((b : Int) == (q : Int)) = false := by simp; omega
          have e4 : (b == q) = false := by simp [hbq]
          clear hne hap
          go_wp2_with fail
          refine wp_region_quiet_below (by kernel_rfl) (by kernel_rfl) ?_
          repeat (go_big_quiet_step ((fail)))
          refine wpQuiet_nil ?_
          intro w13 hw9
          have hb := below_of_regrown hw9
          clear hw9 cq1 cq2
          have hB13 : Below wr.heap.size wr w13 := bTrans (Below.refl _ _) hb
          have HD13 := Lib.hid (bTrans HD12.out hB13)
          have HT13 := Lib.hid (HT12.out.mono hB13)
          have HTB13 := Lib.hid (HTB12.out.mono hB13)
          have HLA13 := Lib.hid (HLA12.out.mono hB13)
          have HQ13 := Lib.hid (HQ12.out.mono hB13)
          have HRL13 := Lib.hid (HRL12.out.mono hB13)
          have T13 := Lib.hid (T12.out.mono hB13)
          have X13 := Lib.hid (X12.out.mono hB13)
          have O13 := Lib.hid (O12.out.mono hB13)
          clear hb hB13 HD12 HT12 HTB12 HLA12 HQ12 HRL12 T12 T_0 T_1 T_2 T_l X12 X_0 X_1 X_2 X_3 X_l O12 O_0 O_1 O_2 O_l
          obtain ⟨T_0, T_1, T_2, T_l⟩ := T13.out.c3
          obtain ⟨X_0, X_1, X_2, X_3, X_l⟩ := X13.out.c4
          obtain ⟨O_0, O_1, O_2, O_l⟩ := O13.out.c3
          go_wp2_with fail
          obtain ⟨_, _, e5, _, cq1, cq2⟩ := SliceE.tst HLA13.out (HX.out)
          simp only [Option.some.injEq, Addr.mk.injEq, and_true] at e5
          obtain ⟨rfl, rfl⟩ := e5
          refine wp_region_stir 20 [.const (.agg #[.int .i64 o.wells, .slice Bw o.nw dw, .slice Bf o.nf df]), .const (.slice (some ⟨bb, oo, none⟩) nl c5), .const (.int .i64 (k : Int)), .const (.pointer (some ⟨bb, oo + k * 2, none⟩)), .const (.agg #[.int .i64 (a : Int), .int .i64 (b : Int)]), .const (.agg #[.int .i64 t.wells, .slice Aw t.nw cw, .slice Af t.nf cf]), .const (.int .i64 (i : Int)), .const (.slice (some ⟨bb, oo, none⟩) nl c5), .const (.int .i64 (k : Int)), .const (.pointer (some ⟨bb, oo + k * 2, none⟩)), .const (.pointer (some ⟨bb, oo + k * 2, none⟩)), .const (.int .i64 (a : Int)), .const (.slice (some ⟨bb, oo, none⟩) nl c5), .const (.int .i64 (k : Int)), .const (.pointer (some ⟨bb, oo + k * 2, none⟩)), .const (.pointer (some ⟨bb, oo + k * 2 + 1, none⟩)), .const (.int .i64 (b : Int)), .const (.int .i64 v), .const (.agg #[.int .i64 (a : Int), .int .i64 1, .int .i64 (b : Int), .int .i64 v, .int .i64 v]), .held (twcS o2.wells o2.nw o2.nf) (twcR w13.heap.size o2)]
            (by kernel_rfl) (by kernel_rfl) rfl ⟨trivial, trivial, trivial, trivial, trivial, trivial, trivial, trivial, trivial, trivial, trivial, trivial, trivial, trivial, trivial, trivial, trivial, trivial, trivial, twcG, trivial⟩ (crossAll_no _ _ _ _ trivial) ?_
          iterate 17 refine wpStir_const (by go_simp) ?_
          refine wpStir_call rfl (fun w' hb hd => ?_) ?_
          · clear hd
            have hfc := Lib.hid (fallAt_F t i a b ▸ fall5_any Aw Af cw cf t i a b w' HOK.out HII.out HA1.out HB1.out (HT13.out.mono hb))
            rw [HV.out] at hfc
            go_simp
            refine hfc.out.mono ?_
            rintro e w'' ⟨rfl, hb'⟩
            exact ⟨rfl, hb'⟩
          refine wpStir_call rfl (fun w' hb hd => ?_) ?_
          · clear hd
            go_simp
            refine (shownAs5_any a b v w').mono ?_
            rintro e w'' ⟨rfl, hb'⟩
            exact ⟨rfl, hb'⟩
          simp only [Act.put, List.setIfInBounds_toArray, List.set_cons_succ, List.set_cons_zero]
          refine wpStir_held rfl (fun w' hb hd => ?_) (fun v9 hv9 => ?_)
          · clear hd
            have hto := Lib.hid (told5_any Bw Bf dw df o (shownF (a, b) v) w' HOF.out (HQ13.out.mono hb))
            rw [HO2.out] at hto
            have hz := hb.size
            go_simp
            refine hto.out.mono ?_
            rintro e w'' ⟨ho, hb'⟩
            obtain ⟨v8, rfl, h1, h2⟩ := ho.twc hz
            exact ⟨v8, rfl, hb', h1, h2⟩
          obtain ⟨Cw, ew, Cf, ef, rfl⟩ := hv9
          refine wpStir_end (fun w5 hb5 hd => ?_)
          have hcp : CopyAt w5 w13.heap.size (.slice Cw o2.nw ew) (.slice Cf o2.nf ef) o2 := hd.1 _ _ rfl
          clear hd
          have htb : TBox w5 w11.heap.size 25 #[.int .i64 o.wells, .slice Bw o.nw dw, .slice Bf o.nf df] := O13.out.mono hb5
          have hx0 := htb.cell 0
          have hx1 := htb.cell 1
          have hx2 := htb.cell 2
          have hf0 := htb.frozen 0
          have hf1 := htb.frozen 1
          have hf2 := htb.frozen 2
          have hxl := htb.lt
          simp only [List.getElem?_toArray, List.getElem?_cons_zero, List.getElem?_cons_succ] at hx0 hx1 hx2
          simp only [Act.put, List.setIfInBounds_toArray, List.set_cons_succ, List.set_cons_zero, List.drop_succ_cons, List.drop_zero]
          have t1 := htb.set 0 (.int .i64 o2.wells)
          have t2 := t1.set 1 (.slice Cw o2.nw ew)
          have t3 := t2.set 2 (.slice Cf o2.nf ef)
          have kk1 : Kept [3, 40, 53, 81] w5 _ := Kept.set htb (by decide) 0 (.int .i64 o2.wells)
          have kk2 : Kept [3, 40, 53, 81] _ _ := Kept.set t1 (by decide) 1 (.slice Cw o2.nw ew)
          have kk3 : Kept [3, 40, 53, 81] _ _ := Kept.set t2 (by decide) 2 (.slice Cf o2.nf ef)
          have hcp3 := hcp.kept ((kk1.trans kk2).trans kk3) (by simp) (by simp) (by simp) (by simp)
          have hbb3 : Below w11.heap.size w11 ((((w5.setCell ⟨w11.heap.size, 0, none⟩ (.int .i64 o2.wells)).setCell ⟨w11.heap.size, 1, none⟩ (.slice Cw o2.nw ew)).setCell ⟨w11.heap.size, 2, none⟩ (.slice Cf o2.nf ef))) := Below.setCell (p := ⟨w11.heap.size, 2, none⟩) (Below.setCell (p := ⟨w11.heap.size, 1, none⟩) (Below.setCell (p := ⟨w11.heap.size, 0, none⟩) (bTrans (show Below w11.heap.size w11 w13 from HRL13.out) hb5) (Nat.le_refl _) (.int .i64 o2.wells)) (Nat.le_refl _) (.slice Cw o2.nw ew)) (Nat.le_refl _) (.slice Cf o2.nf ef)
          obtain ⟨w20, hw20⟩ : ∃ w20, ((w5.setCell ⟨w11.heap.size, 0, none⟩ (.int .i64 o2.wells)).setCell ⟨w11.heap.size, 1, none⟩ (.slice Cw o2.nw ew)).setCell ⟨w11.heap.size, 2, none⟩ (.slice Cf o2.nf ef) = w20 := ⟨_, rfl⟩
          rw [hw20] at t3 hcp3 hbb3
          have HW20 := Lib.hid hw20
          have t3 : TBox w20 w11.heap.size 25 #[.int .i64 o2.wells, .slice Cw o2.nw ew, .slice Cf o2.nf ef] := t3
          obtain ⟨C7, c7, C8, c8, e7, e8, hq2⟩ := hcp3.qat
          simp only [Value.slice.injEq] at e7 e8
          obtain ⟨rfl, _, rfl⟩ := e7
          obtain ⟨rfl, _, rfl⟩ := e8
          have HQ2 := Lib.hid hq2
          have HT3 := Lib.hid t3
          have HB3 := Lib.hid hbb3
          clear t1 t2 t3 kk1 kk2 kk3 hcp hcp3 hbb3 hw20 hq2 htb hb5
          refine wpList_skip rfl rfl (w'' := w20) (by rw [← HW20.out]; go_simp) ?_
          go_wp2_with fail
          go_roundw
          case rel =>
            first
            | exact ⟨k + 1, o2, Cw, ew, Cf, ef, by omega, by go_num, HAS.out, HQ2.out, HT3.out, HB3.out⟩
            | ((repeat apply Exists.intro)
               refine ⟨⟨k + 1, o2, Cw, ew, Cf, ef, by omega, ?_, HAS.out, HQ2.out, HT3.out, HB3.out⟩, rfl⟩
               go_num)
          case measure => simp [intOf]; omega
        case neg =>
          have e1 : ((a : Int) == (p : Int)) = false := by simp; omega
          have e2 : (a == p) = false := by simp [hap]
          clear hne
          go_wp2_with fail
          refine wp_region_quiet_below (by kernel_rfl) (by kernel_rfl) ?_
          repeat (go_big_quiet_step ((fail)))
          refine wpQuiet_nil ?_
          intro w13 hw9
          have hb := below_of_regrown hw9
          clear hw9 cq1 cq2
          have hB13 : Below wr.heap.size wr w13 := bTrans (Below.refl _ _) hb
          have HD13 := Lib.hid (bTrans HD12.out hB13)
          have HT13 := Lib.hid (HT12.out.mono hB13)
          have HTB13 := Lib.hid (HTB12.out.mono hB13)
          have HLA13 := Lib.hid (HLA12.out.mono hB13)
          have HQ13 := Lib.hid (HQ12.out.mono hB13)
          have HRL13 := Lib.hid (HRL12.out.mono hB13)
          have T13 := Lib.hid (T12.out.mono hB13)
          have X13 := Lib.hid (X12.out.mono hB13)
          have O13 := Lib.hid (O12.out.mono hB13)
          clear hb hB13 HD12 HT12 HTB12 HLA12 HQ12 HRL12 T12 T_0 T_1 T_2 T_l X12 X_0 X_1 X_2 X_3 X_l O12 O_0 O_1 O_2 O_l
          obtain ⟨T_0, T_1, T_2, T_l⟩ := T13.out.c3
          obtain ⟨X_0, X_1, X_2, X_3, X_l⟩ := X13.out.c4
          obtain ⟨O_0, O_1, O_2, O_l⟩ := O13.out.c3
          go_wp2_with fail
          obtain ⟨_, _, e5, _, cq1, cq2⟩ := SliceE.tst HLA13.out (HX.out)
          simp only [Option.some.injEq, Addr.mk.injEq, and_true] at e5
          obtain ⟨rfl, rfl⟩ := e5
          refine wp_region_stir 20 [.const (.agg #[.int .i64 o.wells, .slice Bw o.nw dw, .slice Bf o.nf df]), .const (.slice (some ⟨bb, oo, none⟩) nl c5), .const (.int .i64 (k : Int)), .const (.pointer (some ⟨bb, oo + k * 2, none⟩)), .const (.agg #[.int .i64 (a : Int), .int .i64 (b : Int)]), .const (.agg #[.int .i64 t.wells, .slice Aw t.nw cw, .slice Af t.nf cf]), .const (.int .i64 (i : Int)), .const (.slice (some ⟨bb, oo, none⟩) nl c5), .const (.int .i64 (k : Int)), .const (.pointer (some ⟨bb, oo + k * 2, none⟩)), .const (.pointer (some ⟨bb, oo + k * 2, none⟩)), .const (.int .i64 (a : Int)), .const (.slice (some ⟨bb, oo, none⟩) nl c5), .const (.int .i64 (k : Int)), .const (.pointer (some ⟨bb, oo + k * 2, none⟩)), .const (.pointer (some ⟨bb, oo + k * 2 + 1, none⟩)), .const (.int .i64 (b : Int)), .const (.int .i64 v), .const (.agg #[.int .i64 (a : Int), .int .i64 1, .int .i64 (b : Int), .int .i64 v, .int .i64 v]), .held (twcS o2.wells o2.nw o2.nf) (twcR w13.heap.size o2)]
            (by kernel_rfl) (by kernel_rfl) rfl ⟨trivial, trivial, trivial, trivial, trivial, trivial, trivial, trivial, trivial, trivial, trivial, trivial, trivial, trivial, trivial, trivial, trivial, trivial, trivial, twcG, trivial⟩ (crossAll_no _ _ _ _ trivial) ?_
          iterate 17 refine wpStir_const (by go_simp) ?_
          refine wpStir_call rfl (fun w' hb hd => ?_) ?_
          · clear hd
            have hfc := Lib.hid (fallAt_F t i a b ▸ fall5_any Aw Af cw cf t i a b w' HOK.out HII.out HA1.out HB1.out (HT13.out.mono hb))
            rw [HV.out] at hfc
            go_simp
            refine hfc.out.mono ?_
            rintro e w'' ⟨rfl, hb'⟩
            exact ⟨rfl, hb'⟩
          refine wpStir_call rfl (fun w' hb hd => ?_) ?_
          · clear hd
            go_simp
            refine (shownAs5_any a b v w').mono ?_
            rintro e w'' ⟨rfl, hb'⟩
            exact ⟨rfl, hb'⟩
          simp only [Act.put, List.setIfInBounds_toArray, List.set_cons_succ, List.set_cons_zero]
          refine wpStir_held rfl (fun w' hb hd => ?_) (fun v9 hv9 => ?_)
          · clear hd
            have hto := Lib.hid (told5_any Bw Bf dw df o (shownF (a, b) v) w' HOF.out (HQ13.out.mono hb))
            rw [HO2.out] at hto
            have hz := hb.size
            go_simp
            refine hto.out.mono ?_
            rintro e w'' ⟨ho, hb'⟩
            obtain ⟨v8, rfl, h1, h2⟩ := ho.twc hz
            exact ⟨v8, rfl, hb', h1, h2⟩
          obtain ⟨Cw, ew, Cf, ef, rfl⟩ := hv9
          refine wpStir_end (fun w5 hb5 hd => ?_)
          have hcp : CopyAt w5 w13.heap.size (.slice Cw o2.nw ew) (.slice Cf o2.nf ef) o2 := hd.1 _ _ rfl
          clear hd
          have htb : TBox w5 w11.heap.size 25 #[.int .i64 o.wells, .slice Bw o.nw dw, .slice Bf o.nf df] := O13.out.mono hb5
          have hx0 := htb.cell 0
          have hx1 := htb.cell 1
          have hx2 := htb.cell 2
          have hf0 := htb.frozen 0
          have hf1 := htb.frozen 1
          have hf2 := htb.frozen 2
          have hxl := htb.lt
          simp only [List.getElem?_toArray, List.getElem?_cons_zero, List.getElem?_cons_succ] at hx0 hx1 hx2
          simp only [Act.put, List.setIfInBounds_toArray, List.set_cons_succ, List.set_cons_zero, List.drop_succ_cons, List.drop_zero]
          have t1 := htb.set 0 (.int .i64 o2.wells)
          have t2 := t1.set 1 (.slice Cw o2.nw ew)
          have t3 := t2.set 2 (.slice Cf o2.nf ef)
          have kk1 : Kept [3, 40, 53, 81] w5 _ := Kept.set htb (by decide) 0 (.int .i64 o2.wells)
          have kk2 : Kept [3, 40, 53, 81] _ _ := Kept.set t1 (by decide) 1 (.slice Cw o2.nw ew)
          have kk3 : Kept [3, 40, 53, 81] _ _ := Kept.set t2 (by decide) 2 (.slice Cf o2.nf ef)
          have hcp3 := hcp.kept ((kk1.trans kk2).trans kk3) (by simp) (by simp) (by simp) (by simp)
          have hbb3 : Below w11.heap.size w11 ((((w5.setCell ⟨w11.heap.size, 0, none⟩ (.int .i64 o2.wells)).setCell ⟨w11.heap.size, 1, none⟩ (.slice Cw o2.nw ew)).setCell ⟨w11.heap.size, 2, none⟩ (.slice Cf o2.nf ef))) := Below.setCell (p := ⟨w11.heap.size, 2, none⟩) (Below.setCell (p := ⟨w11.heap.size, 1, none⟩) (Below.setCell (p := ⟨w11.heap.size, 0, none⟩) (bTrans (show Below w11.heap.size w11 w13 from HRL13.out) hb5) (Nat.le_refl _) (.int .i64 o2.wells)) (Nat.le_refl _) (.slice Cw o2.nw ew)) (Nat.le_refl _) (.slice Cf o2.nf ef)
          obtain ⟨w20, hw20⟩ : ∃ w20, ((w5.setCell ⟨w11.heap.size, 0, none⟩ (.int .i64 o2.wells)).setCell ⟨w11.heap.size, 1, none⟩ (.slice Cw o2.nw ew)).setCell ⟨w11.heap.size, 2, none⟩ (.slice Cf o2.nf ef) = w20 := ⟨_, rfl⟩
          rw [hw20] at t3 hcp3 hbb3
          have HW20 := Lib.hid hw20
          have t3 : TBox w20 w11.heap.size 25 #[.int .i64 o2.wells, .slice Cw o2.nw ew, .slice Cf o2.nf ef] := t3
          obtain ⟨C7, c7, C8, c8, e7, e8, hq2⟩ := hcp3.qat
          simp only [Value.slice.injEq] at e7 e8
          obtain ⟨rfl, _, rfl⟩ := e7
          obtain ⟨rfl, _, rfl⟩ := e8
          have HQ2 := Lib.hid hq2
          have HT3 := Lib.hid t3
          have HB3 := Lib.hid hbb3
          clear t1 t2 t3 kk1 kk2 kk3 hcp hcp3 hbb3 hw20 hq2 htb hb5
          refine wpList_skip rfl rfl (w'' := w20) (by rw [← HW20.out]; go_simp) ?_
          go_wp2_with fail
          go_roundw
          case rel =>
            first
            | exact ⟨k + 1, o2, Cw, ew, Cf, ef, by omega, by go_num, HAS.out, HQ2.out, HT3.out, HB3.out⟩
            | ((repeat apply Exists.intro)
               refine ⟨⟨k + 1, o2, Cw, ew, Cf, ef, by omega, ?_, HAS.out, HQ2.out, HT3.out, HB3.out⟩, rfl⟩
               go_num)
          case measure => simp [intOf]; omega
      obtain rfl : k = nl := by omega
      have k1 : ¬ (k : Int) < (k : Int) := by omega
      go_wp2_with fail
      have HOL := Lib.hid (show t.addAll (i : Int) (t.judL (p : Int) (q : Int) law) = o by have h := HOA.out; rw [List.take_of_length_le (Nat.le_of_eq HNL.out)] at h; rw [HL.out]; exact h)
      refine (refCheck5 _ _ _ _ o _ HSO.out.1 HSO.out.2.1 HQ12.out).mono ?_
      rintro e w13 ⟨rfl, hb⟩
      have hB13 : Below wr.heap.size wr w13 := bTrans (Below.refl _ _) hb
      have HD13 := Lib.hid (bTrans HD12.out hB13)
      have HT13 := Lib.hid (HT12.out.mono hB13)
      have HTB13 := Lib.hid (HTB12.out.mono hB13)
      have HLA13 := Lib.hid (HLA12.out.mono hB13)
      have HQ13 := Lib.hid (HQ12.out.mono hB13)
      have HRL13 := Lib.hid (HRL12.out.mono hB13)
      have T13 := Lib.hid (T12.out.mono hB13)
      have X13 := Lib.hid (X12.out.mono hB13)
      have O13 := Lib.hid (O12.out.mono hB13)
      clear hb hB13 HD12 HT12 HTB12 HLA12 HQ12 HRL12 T12 T_0 T_1 T_2 T_l X12 X_0 X_1 X_2 X_3 X_l O12 O_0 O_1 O_2 O_l
      obtain ⟨T_0, T_1, T_2, T_l⟩ := T13.out.c3
      obtain ⟨X_0, X_1, X_2, X_3, X_l⟩ := X13.out.c4
      obtain ⟨O_0, O_1, O_2, O_l⟩ := O13.out.c3
      by_cases hok : o.Ok
      case neg =>
        rw [Qt.err_bad hok]
        clear hok
        go_wp2_with fail
        refine (works5_any _ HTB13.out).mono ?_
        rintro e w99 ⟨rfl, hb99⟩
        go_wp2_with fail
        go_ret
        exact ⟨rfl, bTrans HD13.out hb99⟩
      rw [Qt.err_ok hok]
      have HOK2 := Lib.hid hok
      have HJE := Lib.hid (judge_end HOK.out HII.out HBL.out HP.out HQQ.out HLW.out HER.out HOL.out hok)
      clear hok
      obtain ⟨m, hm⟩ : ∃ m, harmK (o.between p q) law = m := ⟨_, rfl⟩
      rw [hm] at HJE
      have HM := Lib.hid hm
      clear hm
      obtain ⟨v, hv⟩ : ∃ v, t.F (i : Int) (p, q) = v := ⟨_, rfl⟩
      rw [hv] at HJE
      have HV := Lib.hid hv
      clear hv
      go_wp2_with fail
      refine (harmsQ_any Bw Bf dw df o (p : Int) (q : Int) law _ HSO.out HQ13.out HTB13.out).mono ?_
      rintro e w14 ⟨rfl, hb⟩
      rw [HJE.out.1, if_pos rfl, Int.toNat_natCast, Int.toNat_natCast, HM.out]
      have hB14 : Below w13.heap.size w13 w14 := bTrans (Below.refl _ _) hb
      have HD14 := Lib.hid (bTrans HD13.out hB14)
      have HT14 := Lib.hid (HT13.out.mono hB14)
      have HTB14 := Lib.hid (HTB13.out.mono hB14)
      have HLA14 := Lib.hid (HLA13.out.mono hB14)
      have HQ14 := Lib.hid (HQ13.out.mono hB14)
      have HRL14 := Lib.hid (HRL13.out.mono hB14)
      have T14 := Lib.hid (T13.out.mono hB14)
      have X14 := Lib.hid (X13.out.mono hB14)
      have O14 := Lib.hid (O13.out.mono hB14)
      clear hb hB14 HD13 HT13 HTB13 HLA13 HQ13 HRL13 T13 T_0 T_1 T_2 T_l X13 X_0 X_1 X_2 X_3 X_l O13 O_0 O_1 O_2 O_l
      obtain ⟨T_0, T_1, T_2, T_l⟩ := T14.out.c3
      obtain ⟨X_0, X_1, X_2, X_3, X_l⟩ := X14.out.c4
      obtain ⟨O_0, O_1, O_2, O_l⟩ := O14.out.c3
      have HFL := Lib.hid (fun (w' : World) (hb : Below w14.heap.size w14 w') => (HV.out ▸ fallAt_F t i p q ▸ fall5_any Aw Af cw cf t i p q w' HOK.out HII.out HP.out HQQ.out ((HT14.out).mono hb) : Calls Tryd.prog 63 #[.agg #[.int .i64 t.wells, .slice Aw t.nw cw, .slice Af t.nf cf], .int .i64 i, .int .i64 p, .int .i64 q] w' fun e w'' => e = .returned (.int .i64 v) ∧ Below w'.heap.size w' w''))
      have HWK := Lib.hid (fun (w' : World) (hb : Below w14.heap.size w14 w') => works5_any w' ((HTB14.out).mono hb))
      rcases HJE.out.2 with ⟨hm, hvl⟩ | ⟨hm, hvl⟩
      · skip
        subst hm
        go_wp2_with fail
        refine wp_region_quiet_below (by kernel_rfl) (by kernel_rfl) ?_
        repeat (go_big_quiet_step (((first | (go_at_call 63; with_reducible exact Calls.regrown_of (HFL.out _ (below_regrown _ _ _))) | (go_at_call 18; with_reducible exact Calls.regrown_of (HWK.out _ (below_regrown _ _ _)))))))
        refine wpQuiet_nil ?_
        intro w15 hw9
        have hb := below_of_regrown hw9
        clear hw9 HFL HWK
        have hB15 : Below w14.heap.size w14 w15 := bTrans (Below.refl _ _) hb
        have HD15 := Lib.hid (bTrans HD14.out hB15)
        have HT15 := Lib.hid (HT14.out.mono hB15)
        have HTB15 := Lib.hid (HTB14.out.mono hB15)
        have HLA15 := Lib.hid (HLA14.out.mono hB15)
        have HQ15 := Lib.hid (HQ14.out.mono hB15)
        have HRL15 := Lib.hid (HRL14.out.mono hB15)
        have T15 := Lib.hid (T14.out.mono hB15)
        have X15 := Lib.hid (X14.out.mono hB15)
        have O15 := Lib.hid (O14.out.mono hB15)
        clear hb hB15 HD14 HT14 HTB14 HLA14 HQ14 HRL14 T14 T_0 T_1 T_2 T_l X14 X_0 X_1 X_2 X_3 X_l O14 O_0 O_1 O_2 O_l
        obtain ⟨T_0, T_1, T_2, T_l⟩ := T15.out.c3
        obtain ⟨X_0, X_1, X_2, X_3, X_l⟩ := X15.out.c4
        obtain ⟨O_0, O_1, O_2, O_l⟩ := O15.out.c3
        go_wp2_with fail
        go_ret
        exact ⟨rfl, HD15.out⟩
      · skip
        subst hm
        have hd1 : decide (v > law) = false := decide_eq_false (by omega)
        have hd2 : decide (law < v) = false := decide_eq_false (by omega)
        have hvl2 : ¬ law < v := by omega
        go_wp2_with fail
        refine wp_region_quiet_below (by kernel_rfl) (by kernel_rfl) ?_
        repeat (go_big_quiet_step (((first | (go_at_call 63; with_reducible exact Calls.regrown_of (HFL.out _ (below_regrown _ _ _))) | (go_at_call 18; with_reducible exact Calls.regrown_of (HWK.out _ (below_regrown _ _ _)))))))
        refine wpQuiet_nil ?_
        intro w15 hw9
        have hb := below_of_regrown hw9
        clear hw9 HFL HWK
        have hB15 : Below w14.heap.size w14 w15 := bTrans (Below.refl _ _) hb
        have HD15 := Lib.hid (bTrans HD14.out hB15)
        have HT15 := Lib.hid (HT14.out.mono hB15)
        have HTB15 := Lib.hid (HTB14.out.mono hB15)
        have HLA15 := Lib.hid (HLA14.out.mono hB15)
        have HQ15 := Lib.hid (HQ14.out.mono hB15)
        have HRL15 := Lib.hid (HRL14.out.mono hB15)
        have T15 := Lib.hid (T14.out.mono hB15)
        have X15 := Lib.hid (X14.out.mono hB15)
        have O15 := Lib.hid (O14.out.mono hB15)
        clear hb hB15 HD14 HT14 HTB14 HLA14 HQ14 HRL14 T14 T_0 T_1 T_2 T_l X14 X_0 X_1 X_2 X_3 X_l O14 O_0 O_1 O_2 O_l
        obtain ⟨T_0, T_1, T_2, T_l⟩ := T15.out.c3
        obtain ⟨X_0, X_1, X_2, X_3, X_l⟩ := X15.out.c4
        obtain ⟨O_0, O_1, O_2, O_l⟩ := O15.out.c3
        go_wp2_with fail
        go_ret
        exact ⟨rfl, HD15.out⟩
end Go.Proofs.YtchhodikgllgnaaDoor
