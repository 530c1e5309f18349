/- Parts joined. -/
import Derived.Test.YtchhodikgllgnaaDoorJT
import Derived.Test.YtchhodikgllgnaaDoorJS
import Derived.Test.YtchhodikgllgnaaDoorJL
import Derived.Test.YtchhodikgllgnaaDoorJI
import Derived.Test.YtchhodikgllgnaaDoorJQ
import Derived.Test.YtchhodikgllgnaaDoorJR
set_option linter.unusedSimpArgs false
set_option linter.unusedVariables false
/- Walks of the law 05: Far, ready, isKnown, inside; of the reference 01: In. Conditions: lengths are Go's. -/
namespace Go.Proofs.YtchhodikgllgnaaDoor
open Go.RowKit Go.Sort
theorem Qt.err_zero {t : Qt} : t.err = 0 ↔ t.Ok := by
  constructor
  · intro h
    by_cases ok : t.Ok
    · exact ok
    · rw [Qt.err_bad ok] at h
      cases h
  · exact Qt.err_ok
/-- far too much, or a valid town with more than the statement examines -/
noncomputable def Qt.farB (t : Qt) : Bool := t.huge || (decide (t.err = 0) && (decide (3 < t.wells) || decide (5 < t.leftL.length)))
noncomputable def Qt.readyB (t : Qt) : Bool := !t.farB && decide (t.err = 0)
theorem readyB_ok {t : Qt} (h : t.readyB = true) : t.Ok ∧ t.huge = false ∧ t.wells ≤ 3 ∧ t.leftL.length ≤ 5 := by
  unfold Qt.readyB Qt.farB at h
  simp only [Bool.and_eq_true, Bool.not_eq_true', Bool.or_eq_false_iff, Bool.and_eq_false_iff, decide_eq_true_eq, decide_eq_false_iff_not] at h
  obtain ⟨⟨h1, h2⟩, h3⟩ := h
  rcases h2 with h2 | h2
  · exact absurd h3 h2
  · exact ⟨Qt.err_zero.1 h3, h1, by omega, by omega⟩
set_option maxHeartbeats 4000000 in
set_option maxRecDepth 100000 in
theorem far_any (Aw Af : Option Addr) (cw cf : Nat) (t : Qt) (w : World) (hs : t.Small) (hT : QAt w Aw Af t) :
    Calls Tryd.prog 17 #[.agg #[.int .i64 t.wells, .slice Aw t.nw cw, .slice Af t.nf cf]] w fun e w' => e = .returned (.bool t.farB) ∧ Below w.heap.size w w' := by
  have hb0 := bAlloc (Below.refl w.heap.size w) (.cells #[.int .i64 t.wells, .slice Aw t.nw cw, .slice Af t.nf cf] 25)
  have HT := Lib.hid (hT.mono hb0)
  have HB := Lib.hid hb0
  have HS := Lib.hid hs
  obtain ⟨bf, hbf⟩ : ∃ b, t.farB = b := ⟨_, rfl⟩
  have HF := Lib.hid hbf
  rw [hbf]
  clear hT hb0 hs hbf
  go_enter Tryd.func17, Tryd.ntmps17
  go_wp2_with fail
  refine (huge_any _ _ _ _ t _ HS.out HT.out).mono ?_
  rintro e w1 ⟨rfl, hb1⟩
  have HB1 := Lib.hid hb1
  obtain ⟨bc1, bf1⟩ := bcell hb1
  have hz1 := hb1.size
  simp only [World.size_alloc] at hz1
  have hy1 : w.heap.size < w1.heap.size := by omega
  clear hb1
  obtain ⟨bh, hbh⟩ : ∃ b, t.huge = b := ⟨_, rfl⟩
  have HH := Lib.hid hbh
  rw [hbh]
  clear hbh
  cases bh
  case true =>
    go_wp2_with fail
    go_ret
    exact ⟨ret_bool (by rw [← HF.out]; unfold Qt.farB; rw [HH.out]; rfl), bTrans HB.out HB1.out⟩
  go_wp2_with fail
  refine (refCheck5 _ _ _ _ t _ HS.out.1 HS.out.2.1 (HT.out.mono HB1.out)).mono ?_
  rintro e w2 ⟨rfl, hb2⟩
  have HB2 := Lib.hid (bTrans HB1.out hb2)
  obtain ⟨bc2, bf2⟩ := bcell HB2.out
  have hz2 := HB2.out.size
  simp only [World.size_alloc] at hz2
  have hy2 : w.heap.size < w2.heap.size := by omega
  clear hb2 bc1 bf1 hz1 hy1
  by_cases hok : t.Ok
  case neg =>
    have HE := Lib.hid (Qt.err_bad hok)
    rw [HE.out]
    clear hok
    go_wp2_with fail
    go_ret
    exact ⟨ret_bool (by rw [← HF.out]; unfold Qt.farB; rw [HH.out, HE.out]; rfl), bTrans HB.out HB2.out⟩
  have HOK := Lib.hid hok
  have HE := Lib.hid (Qt.err_ok hok)
  rw [HE.out]
  clear hok
  by_cases h3 : t.wells > 3
  case pos =>
    have H3 := Lib.hid h3
    go_wp2_with fail
    go_ret
    exact ⟨ret_bool (by rw [← HF.out]; unfold Qt.farB; rw [HH.out, HE.out]; have := H3.out; simp; omega), bTrans HB.out HB2.out⟩
  have H3 := Lib.hid h3
  go_wp2_with fail
  refine (refLeftOf _ _ _ _ t _ HOK.out (HT.out.mono HB2.out)).mono ?_
  rintro e w3 ⟨⟨v, rfl, hv⟩, hb3⟩
  obtain ⟨A, c, rfl, _⟩ := hv.nums
  have HB3 := Lib.hid (bTrans HB2.out hb3)
  obtain ⟨n, hn⟩ : ∃ n, t.leftL.length = n := ⟨_, rfl⟩
  have HN := Lib.hid hn
  rw [hn]
  clear hv hb3 hn bc2 bf2 hz2 hy2
  by_cases h5 : (n : Int) > 5
  · have H5 := Lib.hid h5
    go_wp2_with fail
    go_ret
    exact ⟨ret_bool (by rw [← HF.out]; unfold Qt.farB; rw [HH.out, HE.out, HN.out]; have := H5.out; simp; omega), bTrans HB.out HB3.out⟩
  · have H5 := Lib.hid h5
    go_wp2_with fail
    go_ret
    exact ⟨ret_bool (by rw [← HF.out]; unfold Qt.farB; rw [HH.out, HE.out, HN.out, decide_eq_false (show ¬ 3 < t.wells by have := H3.out; omega), decide_eq_false (show ¬ 5 < n by have := H5.out; omega), show decide ((5 : Int) < (n : Int)) = false from decide_eq_false (by have := H5.out; omega)]; rfl), bTrans HB.out HB3.out⟩
set_option maxHeartbeats 4000000 in
set_option maxRecDepth 100000 in
theorem ready_any (Aw Af : Option Addr) (cw cf : Nat) (t : Qt) (w : World) (hs : t.Small) (hT : QAt w Aw Af t) :
    Calls Tryd.prog 26 #[.agg #[.int .i64 t.wells, .slice Aw t.nw cw, .slice Af t.nf cf]] w fun e w' => e = .returned (.bool t.readyB) ∧ Below w.heap.size w w' := by
  have hb0 := bAlloc (Below.refl w.heap.size w) (.cells #[.int .i64 t.wells, .slice Aw t.nw cw, .slice Af t.nf cf] 25)
  have HT := Lib.hid (hT.mono hb0)
  have HB := Lib.hid hb0
  have HS := Lib.hid hs
  obtain ⟨bf, hbf⟩ : ∃ b, t.readyB = b := ⟨_, rfl⟩
  have HF := Lib.hid hbf
  rw [hbf]
  clear hT hb0 hs hbf
  go_enter Tryd.func26, Tryd.ntmps26
  go_wp2_with fail
  refine (far_any _ _ _ _ t _ HS.out HT.out).mono ?_
  rintro e w1 ⟨rfl, hb1⟩
  have HB1 := Lib.hid hb1
  obtain ⟨bc1, bf1⟩ := bcell hb1
  have hz1 := hb1.size
  simp only [World.size_alloc] at hz1
  have hy1 : w.heap.size < w1.heap.size := by omega
  clear hb1
  obtain ⟨bh, hbh⟩ : ∃ b, t.farB = b := ⟨_, rfl⟩
  have HH := Lib.hid hbh
  rw [hbh]
  clear hbh
  cases bh
  case true =>
    go_wp2_with fail
    go_ret
    exact ⟨ret_bool (by rw [← HF.out]; unfold Qt.readyB; rw [HH.out]; rfl), bTrans HB.out HB1.out⟩
  go_wp2_with fail
  refine (refCheck5 _ _ _ _ t _ HS.out.1 HS.out.2.1 (HT.out.mono HB1.out)).mono ?_
  rintro e w2 ⟨rfl, hb2⟩
  have HB2 := Lib.hid (bTrans HB1.out hb2)
  clear hb2 bc1 bf1 hz1 hy1
  obtain ⟨er, her⟩ : ∃ er, t.err = er := ⟨_, rfl⟩
  have HE := Lib.hid her
  rw [her]
  clear her
  by_cases h0 : er = 0
  · subst h0
    go_wp2_with fail
    go_ret
    exact ⟨ret_bool (by rw [← HF.out]; unfold Qt.readyB; rw [HH.out, HE.out]; rfl), bTrans HB.out HB2.out⟩
  · have H0 := Lib.hid h0
    have h1 : (er == 0) = false := by simp [h0]
    clear h0
    go_wp2_with fail
    go_ret
    exact ⟨ret_bool (by rw [← HF.out]; unfold Qt.readyB; rw [HH.out, HE.out]; have := H0.out; simp [this]), bTrans HB.out HB2.out⟩
theorem isKnown_any (n : Int) (w : World) :
    Calls Tryd.prog 46 #[.int .i64 n] w fun e w' => e = .returned (.bool (n == 0 || n == 3)) ∧ Below w.heap.size w w' := by
  by_cases h0 : n = 0
  · subst h0
    go_enter Tryd.func46, Tryd.ntmps46
    go_wp2_with fail
    go_ret
    exact ⟨rfl, Below.refl _ _⟩
  · have h1 : (n == 0) = false := by simp [h0]
    have H1 := Lib.hid h1
    clear h0
    go_enter Tryd.func46, Tryd.ntmps46
    go_wp2_with fail
    go_ret
    exact ⟨ret_bool (by rw [H1.out, Bool.false_or]), Below.refl _ _⟩
/-- a span inside another one -/
def inSpan (a b : Int × Int) : Bool := decide (b.1 ≤ a.1) && decide (a.1 ≤ a.2) && decide (a.2 ≤ b.2)
set_option maxHeartbeats 2000000 in
set_option maxRecDepth 100000 in
theorem inside_any (a1 a2 b1 b2 : Int) (w : World) :
    Calls Tryd.prog 41 #[.agg #[.int .i64 a1, .int .i64 a2], .agg #[.int .i64 b1, .int .i64 b2]] w fun e w' => e = .returned (.bool (inSpan (a1, a2) (b1, b2))) ∧ Below w.heap.size w w' := by
  have HB := Lib.hid (bAlloc (bAlloc (Below.refl w.heap.size w) (.cells #[.int .i64 a1, .int .i64 a2] 47)) (.cells #[.int .i64 b1, .int .i64 b2] 47))
  obtain ⟨x1, h1⟩ : ∃ x, decide (b1 ≤ a1) = x := ⟨_, rfl⟩
  obtain ⟨x2, h2⟩ : ∃ x, decide (a1 ≤ a2) = x := ⟨_, rfl⟩
  obtain ⟨x3, h3⟩ : ∃ x, decide (a2 ≤ b2) = x := ⟨_, rfl⟩
  have HE := Lib.hid (show inSpan (a1, a2) (b1, b2) = (x1 && x2 && x3) by unfold inSpan; rw [h1, h2, h3])
  rw [HE.out]
  clear HE
  cases x1 <;> cases x2 <;> cases x3 <;> simp only [decide_eq_true_eq, decide_eq_false_iff_not] at h1 h2 h3
  all_goals
    go_enter Tryd.func41, Tryd.ntmps41
    go_wp2_with fail
    go_ret
    exact ⟨rfl, HB.out⟩
set_option maxHeartbeats 2000000 in
set_option maxRecDepth 100000 in
theorem in1_any (A : Option Addr) (n c : Nat) (f : Nat → Int) (x : Int) (w : World) (hn : n ≤ 9223372036854775807) (hI : IntsAt w A n f) :
    Calls Tryd.prog 40 #[.slice A n c, .int .i64 x] w fun e w' => e = .returned (.bool (anyB (fun i => f i == x) n)) ∧ Below w.heap.size w w' := by
  have HI := Lib.hid hI
  clear hI
  go_enter Tryd.func40, Tryd.ntmps40
  go_wp2_with fail
  go_loopw [5] (fun s wr => ∃ k : Nat, k ≤ n ∧ s = .int .i64 k ∧ anyB (fun i => f i == x) k = false ∧ w = wr) (fun s _ => n - (intOf s).toNat)
  case atStart => exact ⟨0, Nat.zero_le _, rfl, rfl, rfl⟩
  case round =>
    obtain ⟨k, hk, rfl, hno, rfl⟩ := hrel
    have HNO := Lib.hid hno
    clear hno
    by_cases hlt : k < n
    · obtain ⟨b, o, rfl, hb, c0⟩ := HI.out.get hlt
      have k1 : (k : Int) < (n : Int) := by omega
      have k0 : (0 : Int) ≤ (k : Int) := by omega
      obtain ⟨v, hv⟩ : ∃ v, f k = v := ⟨_, rfl⟩
      rw [hv] at c0
      by_cases hx : v = x
      · have HH := Lib.hid (show anyB (fun i => f i == x) n = true from anyB_hit hlt (by simp [hv, hx]))
        have hx1 : (v == x) = true := by simp [hx]
        clear hv hx
        go_wp2_with fail
        go_ret
        exact ⟨ret_bool (by rw [HH.out]), Below.refl _ _⟩
      · have HH := Lib.hid (show anyB (fun i => f i == x) (k + 1) = false from anyB_step HNO.out (by simp [hv, hx]))
        have hx1 : (v == x) = false := by simp [hx]
        clear hv hx
        go_wp2_with fail
        go_roundw
        case rel =>
          first
          | exact ⟨k + 1, by omega, by go_num, HH.out, trivial⟩
          | ((repeat apply Exists.intro)
             refine ⟨⟨k + 1, by omega, ?_, HH.out, trivial⟩, rfl⟩
             go_num)
        case measure => simp [intOf]; omega
    · obtain rfl : k = n := by omega
      have k1 : ¬ (k : Int) < (k : Int) := by omega
      go_wp2_with fail
      go_ret
      exact ⟨ret_bool (by rw [HNO.out]), Below.refl _ _⟩
end Go.Proofs.YtchhodikgllgnaaDoor
/- Walks of the reference 05: Split. Conditions: lengths are Go's. -/
namespace Go.Proofs.YtchhodikgllgnaaDoor
open Go.RowKit Go.Sort
theorem left_worlds {t : Qt} : ∀ a, a ∈ t.leftL → ∃ i : Nat, i < t.nw ∧ a = i := fun a ha => by
  obtain ⟨i, hi, _, rfl⟩ := (leftTo_mem t t.nw).1 ha
  exact ⟨i, hi, rfl⟩
theorem left_six {t : Qt} (ok : t.Ok) : t.leftL.length ≤ 6 := by have := leftTo_len t t.nw; have := ok.nw; unfold Qt.leftL; omega
theorem maxTo_succ (g : Nat → Int) (n : Nat) : maxTo g (n + 1) = if maxTo g n < g n then g n else maxTo g n := by
  show max (maxTo g n) (g n) = _
  split <;> omega
set_option maxHeartbeats 4000000 in
set_option maxRecDepth 100000 in
theorem split5_any (Aw Af : Option Addr) (cw cf : Nat) (t : Qt) (p q : Int) (w : World) (hs : t.Small) (hT : QAt w Aw Af t) :
    Calls Tryd.prog 21 #[.agg #[.int .i64 t.wells, .slice Aw t.nw cw, .slice Af t.nf cf], .agg #[.int .i64 p, .int .i64 q]] w fun e w' => e = .returned (.tuple #[.int .i64 (t.splitV p q), .int .i64 (t.knowErr (t.wellB p && t.wellB q))]) ∧ Below w.heap.size w w' := by
  have hb0 := bAlloc (bAlloc (Below.refl w.heap.size w) (.cells #[.int .i64 t.wells, .slice Aw t.nw cw, .slice Af t.nf cf] 25)) (.cells #[.int .i64 p, .int .i64 q] 27)
  have HT := Lib.hid (hT.mono hb0)
  have HB := Lib.hid hb0
  clear hT hb0
  obtain ⟨bb, hbb⟩ : ∃ b, t.testB p q = b := ⟨_, rfl⟩
  have HC1 := Lib.hid (fun w => hbb ▸ isTest5_any Aw Af cw cf t p q w : ∀ w : World, Calls Tryd.prog 30 #[.agg #[.int .i64 t.wells, .slice Aw t.nw cw, .slice Af t.nf cf], .agg #[.int .i64 p, .int .i64 q]] w fun e w' => e = .returned (.bool bb) ∧ Below w.heap.size w w')
  obtain ⟨er, her⟩ : ∃ er, t.knowErr bb = er := ⟨_, rfl⟩
  have HCO := Lib.hid (fun (w' : World) (hb : Below ((w.alloc (.cells #[.int .i64 t.wells, .slice Aw t.nw cw, .slice Af t.nf cf] 25)).alloc (.cells #[.int .i64 p, .int .i64 q] 27)).heap.size ((w.alloc (.cells #[.int .i64 t.wells, .slice Aw t.nw cw, .slice Af t.nf cf] 25)).alloc (.cells #[.int .i64 p, .int .i64 q] 27)) w') => ((refKnown Aw Af cw cf t bb w' hs.1 hs.2.1 (HT.out.mono hb)).mono fun e w'' h => ⟨by
      obtain ⟨v, h1, h2, h3⟩ := h.1
      rw [her] at h1 h2 h3
      exact ⟨v, h1, fun he => (h2 he).lower hb.size, h3⟩, h.2⟩ : Calls Tryd.prog 74 #[.agg #[.int .i64 t.wells, .slice Aw t.nw cw, .slice Af t.nf cf], .bool bb] w' fun e w'' => (∃ v, e = .returned (.tuple #[v, .int .i64 er]) ∧ (er = 0 → OwnL w'' ((w.alloc (.cells #[.int .i64 t.wells, .slice Aw t.nw cw, .slice Af t.nf cf] 25)).alloc (.cells #[.int .i64 p, .int .i64 q] 27)).heap.size v t.leftL) ∧ (er ≠ 0 → v = .slice none 0 0)) ∧ Below w'.heap.size w' w''))
  have HE := Lib.hid (show t.knowErr (t.wellB p && t.wellB q) = er by rw [← her, ← hbb]; rfl)
  have HSV := Lib.hid (show t.splitV p q = if er = 0 then t.splitL (p.toNat, q.toNat) t.leftL else 0 by unfold Qt.splitV; rw [HE.out])
  rw [HE.out, HSV.out]
  have HKE := Lib.hid her
  have HG := Lib.hid hbb
  clear her hbb HE HSV
  by_cases he : er = 0
  · subst he
    obtain ⟨ok, rfl, hne⟩ := knowErr_zero HKE.out
    have hg := HG.out
    unfold Qt.testB at hg
    simp only [Bool.and_eq_true] at hg
    have hp := inR_iff.1 ((wellB_ok ok p).symm.trans hg.1)
    have hq := inR_iff.1 ((wellB_ok ok q).symm.trans hg.2)
    obtain ⟨i, rfl⟩ : ∃ i : Nat, p = (i : Int) := ⟨p.toNat, by omega⟩
    obtain ⟨j, rfl⟩ : ∃ j : Nat, q = (j : Int) := ⟨q.toNat, by omega⟩
    have HP := Lib.hid (show (i : Int) < t.wells by omega)
    have HQ := Lib.hid (show (j : Int) < t.wells by omega)
    have HOK := Lib.hid ok
    obtain ⟨n, hn⟩ : ∃ n, t.leftL.length = n := ⟨_, rfl⟩
    have n6 : n ≤ 6 := by rw [← hn]; exact left_six ok
    rw [if_pos rfl, Int.toNat_natCast, Int.toNat_natCast]
    have HN := Lib.hid hn
    obtain ⟨g, hg2⟩ : ∃ g : Nat → Int, g = fun f : Nat => ((t.shown (i, j) t.leftL (f : Int)).length : Int) := ⟨_, rfl⟩
    have HSL := Lib.hid (show t.splitL (i, j) t.leftL = maxTo g 10 by unfold Qt.splitL; rw [hg2])
    have HGG := Lib.hid (show ∀ f : Nat, g f = ((t.shown (i, j) t.leftL (f : Int)).length : Int) from fun f => by rw [hg2])
    rw [HSL.out]
    clear hp hq hne ok hn hg hg2
    go_enter Tryd.func21, Tryd.ntmps21
    go_wp2_with fail
    refine wp_region_call 4 (fun v w2 => (∃ u, v = .tuple #[u, .int .i64 0] ∧ OwnL w2 ((w.alloc (.cells #[.int .i64 t.wells, .slice Aw t.nw cw, .slice Af t.nf cf] 25)).alloc (.cells #[.int .i64 (i : Int), .int .i64 (j : Int)] 27)).heap.size u t.leftL) ∧ Below ((w.alloc (.cells #[.int .i64 t.wells, .slice Aw t.nw cw, .slice Af t.nf cf] 25)).alloc (.cells #[.int .i64 (i : Int), .int .i64 (j : Int)] 27)).heap.size ((w.alloc (.cells #[.int .i64 t.wells, .slice Aw t.nw cw, .slice Af t.nf cf] 25)).alloc (.cells #[.int .i64 (i : Int), .int .i64 (j : Int)] 27)) w2) (by kernel_rfl) (by decide +kernel) rfl ?_
    apply Exists.intro
    refine ⟨fun K hK => ?_, ?_, fun w1 hb1 K Q' hK => ?_, ?_⟩
    · skip
      repeat (first | (refine wpCalm_skip rfl ?_) | (refine wpCalm_step rfl (fun K hK => ?_); go_simp; (first | (refine hK _ ?_; clear hK K) | (apply Exists.intro; refine ⟨fun _ => ?_, hK _ ?_⟩; ((go_at_call 30; with_reducible exact newer_of (HC1.out _))); clear hK K))))
      refine wpCalm_nil ?_
      exact hK
    · rfl
    · go_simp
      refine (HCO.out w1 hb1).mono ?_
      rintro e w2 ⟨⟨v, rfl, ho, _⟩, hb2⟩
      exact hK _ w2 ⟨⟨v, rfl, ho (by trivial)⟩, bTrans hb1 hb2⟩
    rintro v w2 ⟨⟨u, rfl, ho⟩, hb2⟩
    have HL2 := Lib.hid ho
    have HB2 := Lib.hid hb2
    obtain ⟨A, c, rfl, _⟩ := ho.nums
    rw [HN.out]
    clear ho hb2
    apply Exists.intro
    refine ⟨fun K hK => ?_, fun w3 hb3 => ?_⟩
    · skip
      repeat (first | (refine wpCalm_skip rfl ?_) | (refine wpCalm_step rfl (fun K hK => ?_); go_simp; (first | (refine hK _ ?_; clear hK K) | (apply Exists.intro; refine ⟨fun _ => ?_, hK _ ?_⟩; (fail); clear hK K))))
      refine wpCalm_nil ?_
      exact hK
    have HL3 := Lib.hid (HL2.out.mono hb3)
    have HB3 := Lib.hid (bTrans HB2.out hb3)
    clear hb3
    go_wp2_with fail
    go_loopw [8, 9] (fun s8 s9 wr => ∃ k : Nat, k ≤ 10 ∧ s9 = .int .i64 k ∧ s8 = .int .i64 (maxTo g k) ∧ Below w3.heap.size w3 wr) (fun _ i _ => 10 - (intOf i).toNat)
    case atStart => exact ⟨0, by omega, rfl, rfl, Below.refl _ _⟩
    case round =>
      obtain ⟨k, hk2, rfl, rfl, hbel⟩ := hrel
      have HL := Lib.hid hbel
      have HLB := Lib.hid (bTrans HB3.out hbel)
      obtain ⟨bc3, bf3⟩ := bcell (bTrans HB3.out hbel)
      have hz3 := (bTrans HB3.out hbel).size
      simp only [World.size_alloc] at hz3
      have hy3 : w.heap.size < wr.heap.size := by omega
      have hv3 : w.heap.size + 1 < wr.heap.size := by omega
      clear hbel
      obtain ⟨m, hm⟩ : ∃ m, maxTo g k = m := ⟨_, rfl⟩
      have HM := Lib.hid hm
      rw [hm]
      clear hm
      by_cases hlt : k < 10
      · have k1 : (k : Int) ≤ 9 := by omega
        obtain ⟨A1, c1, e1, hrow⟩ := (HL3.out.mono HL.out).nums
        simp only [Value.slice.injEq] at e1
        obtain ⟨rfl, _, rfl⟩ := e1
        have HSH := Lib.hid (by
          have := shown5_any Aw Af A cw cf c t i j t.leftL (k : Int) wr HOK.out (HT.out.mono HLB.out) HP.out HQ.out left_worlds (by rw [HN.out]; omega) hrow
          rw [HN.out] at this
          exact this : Calls Tryd.prog 47 #[.agg #[.int .i64 t.wells, .slice Aw t.nw cw, .slice Af t.nf cf], .agg #[.int .i64 (i : Int), .int .i64 (j : Int)], .slice A n c, .int .i64 (k : Int)] wr fun e w' => (∃ v, e = .returned v ∧ OwnL w' wr.heap.size v (t.shown (i, j) t.leftL k)) ∧ Below wr.heap.size wr w')
        clear hrow
        go_wp2_with fail
        refine HSH.out.mono ?_
        rintro e w9 ⟨⟨v, rfl, hv⟩, hb9⟩
        obtain ⟨A9, c9, rfl, _⟩ := hv.nums
        have HL9 := Lib.hid (bTrans HL.out hb9)
        obtain ⟨n9, hn9⟩ : ∃ n9, (t.shown (i, j) t.leftL (k : Int)).length = n9 := ⟨_, rfl⟩
        obtain ⟨m2, hm2⟩ : ∃ m2, (if m < (n9 : Int) then (n9 : Int) else m) = m2 := ⟨_, rfl⟩
        have HR := Lib.hid (show maxTo g (k + 1) = m2 by rw [maxTo_succ, HM.out, HGG.out, hn9, hm2])
        rw [hn9]
        clear hv hb9 hn9 HSH bc3 bf3
        go_wp2_with fail
        go_roundw
        case rel =>
          first
          | exact ⟨k + 1, by omega, by go_num, by rw [HR.out], HL9.out⟩
          | ((repeat apply Exists.intro)
             refine ⟨⟨k + 1, by omega, ?_, by rw [HR.out], HL9.out⟩, rfl⟩
             go_num)
        case measure => simp [intOf]; omega
      · obtain rfl : k = 10 := by omega
        have HZ := Lib.hid HM.out
        go_wp2_with fail
        go_ret2
        exact ⟨by rw [HZ.out]; rfl, bTrans HB.out HLB.out⟩
  · have g0 : (er != 0) = true := by simp [he]
    have HNZ := Lib.hid he
    rw [if_neg he]
    clear he
    go_enter Tryd.func21, Tryd.ntmps21
    go_wp2_with fail
    refine wp_region_call 4 (fun v w2 => v = .tuple #[.slice none 0 0, .int .i64 er] ∧ Below ((w.alloc (.cells #[.int .i64 t.wells, .slice Aw t.nw cw, .slice Af t.nf cf] 25)).alloc (.cells #[.int .i64 p, .int .i64 q] 27)).heap.size ((w.alloc (.cells #[.int .i64 t.wells, .slice Aw t.nw cw, .slice Af t.nf cf] 25)).alloc (.cells #[.int .i64 p, .int .i64 q] 27)) w2) (by kernel_rfl) (by decide +kernel) rfl ?_
    apply Exists.intro
    refine ⟨fun K hK => ?_, ?_, fun w1 hb1 K Q' hK => ?_, ?_⟩
    · skip
      repeat (first | (refine wpCalm_skip rfl ?_) | (refine wpCalm_step rfl (fun K hK => ?_); go_simp; (first | (refine hK _ ?_; clear hK K) | (apply Exists.intro; refine ⟨fun _ => ?_, hK _ ?_⟩; ((go_at_call 30; with_reducible exact newer_of (HC1.out _))); clear hK K))))
      refine wpCalm_nil ?_
      exact hK
    · rfl
    · go_simp
      refine (HCO.out w1 hb1).mono ?_
      rintro e w2 ⟨⟨v, rfl, _, ho⟩, hb2⟩
      exact hK _ w2 ⟨by rw [ho HNZ.out], bTrans hb1 hb2⟩
    rintro v w2 ⟨rfl, hb2⟩
    have HB2 := Lib.hid hb2
    clear hb2
    apply Exists.intro
    refine ⟨fun K hK => ?_, fun w3 hb3 => ?_⟩
    · skip
      repeat (first | (refine wpCalm_skip rfl ?_) | (refine wpCalm_step rfl (fun K hK => ?_); go_simp; (first | (refine hK _ ?_; clear hK K) | (apply Exists.intro; refine ⟨fun _ => ?_, hK _ ?_⟩; (fail); clear hK K))))
      refine wpCalm_nil ?_
      exact hK
    have HB3 := Lib.hid (bTrans HB2.out hb3)
    clear hb3
    go_wp2_with fail
    go_ret2
    exact ⟨rfl, bTrans HB.out HB3.out⟩
end Go.Proofs.YtchhodikgllgnaaDoor
/- Walks of the reference 05: behind, depth. Conditions: a valid town and worlds of it. -/
namespace Go.Proofs.YtchhodikgllgnaaDoor
open Go.RowKit Go.Sort
theorem behind_le (t : Qt) (x : Tp) (L : List Int) : t.behind x L ≤ L.length := by
  unfold Qt.behind Qt.behindW
  split
  · exact Int.le_refl _
  · refine maxTo_le.2 ⟨by omega, fun f _ => ?_⟩
    split
    · rename_i h
      have h1 := depth_below t (L := t.shown x L (f : Int)) (fun e => by rw [e] at h; simp at h)
      have h2 := shown_len t x L (f : Int)
      omega
    · omega
/-- what is known of depth at some worlds -/
def Dep5 (t : Qt) (Aw Af : Option Addr) (cw cf : Nat) (L : List Int) : Prop := ∀ (A : Option Addr) (c : Nat) (w : World), QAt w Aw Af t → RowAt w A (numL L) → Calls Tryd.prog 94 #[.agg #[.int .i64 t.wells, .slice Aw t.nw cw, .slice Af t.nf cf], .slice A L.length c] w fun e w' => e = .returned (.int .i64 (t.depth L)) ∧ Below w.heap.size w w'
def behG (t : Qt) (x : Tp) (L : List Int) (f : Nat) : Int := if 1 < (t.shown x L (f : Int)).length then t.depth (t.shown x L (f : Int)) else 0
def behB (t : Qt) (x : Tp) (L : List Int) (f : Nat) : Bool := (t.shown x L (f : Int)).length == L.length
theorem behind_hit {t : Qt} {x : Tp} {L : List Int} {k : Nat} (hk : k < 10) (h : behB t x L k = true) : t.behind x L = L.length := by
  unfold Qt.behind Qt.behindW
  have e : anyB (behB t x L) 10 = true := anyB_hit hk h
  exact if_pos e
theorem behind_all {t : Qt} {x : Tp} {L : List Int} (h : anyB (behB t x L) 10 = false) : t.behind x L = maxTo (behG t x L) 10 := by
  unfold Qt.behind Qt.behindW
  rw [if_neg]
  · rfl
  · have : anyB (fun f : Nat => (t.shown x L (f : Int)).length == L.length) 10 = false := h
    rw [this]
    exact Bool.false_ne_true
set_option maxHeartbeats 4000000 in
set_option maxRecDepth 100000 in
theorem behind5_any (Aw Af A : Option Addr) (cw cf c : Nat) (t : Qt) (i j : Nat) (L : List Int) (w : World) (ok : t.Ok) (hT : QAt w Aw Af t) (hp : (i : Int) < t.wells) (hq : (j : Int) < t.wells) (hL : ∀ a, a ∈ L → ∃ i : Nat, i < t.nw ∧ a = i) (hlen : L.length ≤ 100) (hA : RowAt w A (numL L))
    (hd : ∀ L' : List Int, L'.length < L.length → (∀ a, a ∈ L' → ∃ i : Nat, i < t.nw ∧ a = i) → Dep5 t Aw Af cw cf L') :
    Calls Tryd.prog 96 #[.agg #[.int .i64 t.wells, .slice Aw t.nw cw, .slice Af t.nf cf], .agg #[.int .i64 (i : Int), .int .i64 (j : Int)], .slice A L.length c] w fun e w' => e = .returned (.int .i64 (t.behind (i, j) L)) ∧ Below w.heap.size w w' := by
  have hb0 := bAlloc (bAlloc (Below.refl w.heap.size w) (.cells #[.int .i64 t.wells, .slice Aw t.nw cw, .slice Af t.nf cf] 25)) (.cells #[.int .i64 (i : Int), .int .i64 (j : Int)] 27)
  have HB := Lib.hid hb0
  have HT := Lib.hid (hT.mono hb0)
  have HA := Lib.hid (hA.mono hb0)
  have HOK := Lib.hid ok
  have HP := Lib.hid hp
  have HQ := Lib.hid hq
  have HLL := Lib.hid hL
  have HD := Lib.hid hd
  obtain ⟨n, hn⟩ : ∃ n, L.length = n := ⟨_, rfl⟩
  have HN := Lib.hid hn
  rw [hn] at hlen ⊢
  clear hT hA ok hp hq hL hd hb0 hn
  go_enter Tryd.func96, Tryd.ntmps96
  go_wp2_with fail
  go_loopw [7, 8] (fun s7 s8 wr => ∃ k : Nat, k ≤ 10 ∧ s8 = .int .i64 k ∧ s7 = .int .i64 (maxTo (behG t (i, j) L) k) ∧ anyB (behB t (i, j) L) k = false ∧ Below ((w.alloc (.cells #[.int .i64 t.wells, .slice Aw t.nw cw, .slice Af t.nf cf] 25)).alloc (.cells #[.int .i64 (i : Int), .int .i64 (j : Int)] 27)).heap.size ((w.alloc (.cells #[.int .i64 t.wells, .slice Aw t.nw cw, .slice Af t.nf cf] 25)).alloc (.cells #[.int .i64 (i : Int), .int .i64 (j : Int)] 27)) wr) (fun _ i _ => 10 - (intOf i).toNat)
  case atStart => exact ⟨0, by omega, rfl, rfl, rfl, Below.refl _ _⟩
  case round =>
    obtain ⟨k, hk2, rfl, rfl, hno, hbel⟩ := hrel
    have HL := Lib.hid hbel
    have HNO := Lib.hid hno
    obtain ⟨bc3, bf3⟩ := bcell hbel
    have hz3 := hbel.size
    simp only [World.size_alloc] at hz3
    have hy3 : w.heap.size < wr.heap.size := by omega
    have hv3 : w.heap.size + 1 < wr.heap.size := by omega
    clear hbel hno
    obtain ⟨m, hm⟩ : ∃ m, maxTo (behG t (i, j) L) k = m := ⟨_, rfl⟩
    have HM := Lib.hid hm
    have HM0 := Lib.hid (show 0 ≤ m by rw [← hm]; exact maxTo_nonneg _ _)
    rw [hm]
    clear hm
    by_cases hlt : k < 10
    · have k1 : (k : Int) ≤ 9 := by omega
      have HSH := Lib.hid (by
        have := shown5_any Aw Af A cw cf c t i j L (k : Int) wr HOK.out (HT.out.mono HL.out) HP.out HQ.out HLL.out (by rw [HN.out]; omega) (HA.out.mono HL.out)
        rw [HN.out] at this
        exact this : Calls Tryd.prog 47 #[.agg #[.int .i64 t.wells, .slice Aw t.nw cw, .slice Af t.nf cf], .agg #[.int .i64 (i : Int), .int .i64 (j : Int)], .slice A n c, .int .i64 (k : Int)] wr fun e w' => (∃ v, e = .returned v ∧ OwnL w' wr.heap.size v (t.shown (i, j) L k)) ∧ Below wr.heap.size wr w')
      go_wp2_with fail
      refine HSH.out.mono ?_
      rintro e w9 ⟨⟨v, rfl, hv⟩, hb9⟩
      obtain ⟨A9, c9, rfl, hr9⟩ := hv.nums
      have HL9 := Lib.hid (bTrans HL.out hb9)
      obtain ⟨L9, hL9⟩ : ∃ L9, t.shown (i, j) L (k : Int) = L9 := ⟨_, rfl⟩
      rw [hL9] at hr9 ⊢
      have HR9 := Lib.hid hr9
      have HL9E := Lib.hid hL9
      obtain ⟨n9, hn9⟩ : ∃ n9, L9.length = n9 := ⟨_, rfl⟩
      have HN9 := Lib.hid hn9
      rw [hn9]
      obtain ⟨bc9, bf9⟩ := bcell HL9.out
      have hz9 := HL9.out.size
      simp only [World.size_alloc] at hz9
      have hy9 : w.heap.size < w9.heap.size := by omega
      clear hv hb9 hr9 hn9 hL9 HSH bc3 bf3 hz3 hy3 hv3
      by_cases heq : (n9 : Int) = (n : Int)
      · have HY := Lib.hid (show t.behind (i, j) L = (n : Int) by
          rw [behind_hit hlt (show behB t (i, j) L k = true by unfold behB; rw [HL9E.out, HN9.out, HN.out]; simp; omega), HN.out])
        have e1 : ((n9 : Int) == (n : Int)) = true := by simp; omega
        clear heq
        go_wp2_with fail
        go_ret
        exact ⟨by rw [HY.out]; rfl, bTrans HB.out HL9.out⟩
      · have HNX := Lib.hid (show anyB (behB t (i, j) L) (k + 1) = false from anyB_step HNO.out (by unfold behB; rw [HL9E.out, HN9.out, HN.out]; simp; omega))
        have HLT := Lib.hid (show n9 < n by
          have := shown_len t (i, j) L (k : Int)
          rw [HL9E.out, HN9.out, HN.out] at this
          omega)
        have e1 : ((n9 : Int) == (n : Int)) = false := by simp; omega
        clear heq
        by_cases hgt : (n9 : Int) > 1
        · have HG := Lib.hid (show behG t (i, j) L k = t.depth L9 by unfold behG; rw [HL9E.out, HN9.out, if_pos (by omega)])
          obtain ⟨d, hdd⟩ : ∃ d, t.depth L9 = d := ⟨_, rfl⟩
          have HDE := Lib.hid hdd
          have HDC := Lib.hid (by
            have := HD.out L9 (by rw [HN9.out, HN.out]; exact HLT.out) (fun a ha => HLL.out a (by rw [← HL9E.out] at ha; exact (List.mem_filter.1 ha).1)) A9 c9 w9 (HT.out.mono HL9.out) HR9.out
            rw [HN9.out, hdd] at this
            exact this : Calls Tryd.prog 94 #[.agg #[.int .i64 t.wells, .slice Aw t.nw cw, .slice Af t.nf cf], .slice A9 n9 c9] w9 fun e w' => e = .returned (.int .i64 d) ∧ Below w9.heap.size w9 w')
          obtain ⟨m2, hm2⟩ : ∃ m2, (if m < d then d else m) = m2 := ⟨_, rfl⟩
          have HR := Lib.hid (show maxTo (behG t (i, j) L) (k + 1) = m2 by rw [maxTo_succ, HM.out, HG.out, HDE.out, hm2])
          clear hdd
          go_wp2_with fail
          refine HDC.out.mono ?_
          rintro e w8 ⟨rfl, hb8⟩
          have HL8 := Lib.hid (bTrans HL9.out hb8)
          clear hb8 HDC bc9 bf9
          go_wp2_with fail
          go_roundw
          case rel =>
            first
            | exact ⟨k + 1, by omega, by go_num, by rw [HR.out], HNX.out, HL8.out⟩
            | ((repeat apply Exists.intro)
               refine ⟨⟨k + 1, by omega, ?_, by rw [HR.out], HNX.out, HL8.out⟩, rfl⟩
               go_num)
          case measure => simp [intOf]; omega
        · have HR := Lib.hid (show maxTo (behG t (i, j) L) (k + 1) = m by
            have hg : behG t (i, j) L k = 0 := by unfold behG; rw [HL9E.out, HN9.out, if_neg (by omega)]
            rw [maxTo_succ, HM.out, hg, if_neg (by have := HM0.out; omega)])
          go_wp2_with fail
          go_roundw
          case rel =>
            first
            | exact ⟨k + 1, by omega, by go_num, by rw [HR.out], HNX.out, HL9.out⟩
            | ((repeat apply Exists.intro)
               refine ⟨⟨k + 1, by omega, ?_, by rw [HR.out], HNX.out, HL9.out⟩, rfl⟩
               go_num)
          case measure => simp [intOf]; omega
    · obtain rfl : k = 10 := by omega
      have HZ := Lib.hid (show t.behind (i, j) L = m by rw [behind_all HNO.out, HM.out])
      go_wp2_with fail
      go_ret
      exact ⟨by rw [HZ.out]; rfl, bTrans HB.out HL.out⟩
theorem min_succ (n0 : Int) (g : Tp → Int) (l : List Tp) (k : Nat) (x : Tp) (h : l[k]? = some x) : minF n0 g (l.take (k + 1)) = if g x < minF n0 g (l.take k) then g x else minF n0 g (l.take k) := by
  rw [List.take_add_one, h]
  show minF n0 g (l.take k ++ [x]) = _
  rw [minF_snoc]
  split <;> omega
set_option maxHeartbeats 4000000 in
set_option maxRecDepth 100000 in
theorem depth5_any (t : Qt) (Aw Af : Option Addr) (cw cf : Nat) (ok : t.Ok) : ∀ (n : Nat) (L : List Int), L.length = n → L.length ≤ 100 → (∀ a, a ∈ L → ∃ i : Nat, i < t.nw ∧ a = i) → Dep5 t Aw Af cw cf L := by
  intro n
  induction n using Nat.strongRecOn with
  | _ n ih =>
  intro L hn hlen hL A c w hT hA
  have hb0 := bAlloc (Below.refl w.heap.size w) (.cells #[.int .i64 t.wells, .slice Aw t.nw cw, .slice Af t.nf cf] 25)
  have HB := Lib.hid hb0
  have HT := Lib.hid (hT.mono hb0)
  have HA := Lib.hid (hA.mono hb0)
  have HOK := Lib.hid ok
  have HLL := Lib.hid hL
  have HD := Lib.hid (show ∀ L' : List Int, L'.length < L.length → (∀ a, a ∈ L' → ∃ i : Nat, i < t.nw ∧ a = i) → Dep5 t Aw Af cw cf L' from fun L' h1 h2 => ih L'.length (by omega) L' rfl (by omega) h2)
  obtain ⟨m, hm⟩ : ∃ m : Nat, t.wells = (m : Int) := ⟨t.wells.toNat, by have := ok.w0; omega⟩
  have m4 : m ≤ 4 := by have := ok.w1; omega
  have HTS := Lib.hid (fun w' => tests5_any Aw Af cw cf m t w' hm m4)
  have HTL := Lib.hid (show t.tests.length ≤ 100000 by unfold Qt.tests; rw [testsL_len, hm, Int.toNat_natCast]; have : m * m ≤ 4 * 4 := Nat.mul_le_mul m4 m4; omega)
  have HTO := Lib.hid (show t.TestsOk t.tests from fun x hx => by
    have := testsL_mem.1 hx
    have := ok.w0
    omega)
  have HN := Lib.hid hn
  have HLE := Lib.hid hlen
  have HAP := Lib.hid (fun (w' : World) (hb : Below (w.alloc (.cells #[.int .i64 t.wells, .slice Aw t.nw cw, .slice Af t.nf cf] 25)).heap.size (w.alloc (.cells #[.int .i64 t.wells, .slice Aw t.nw cw, .slice Af t.nf cf] 25)) w') => (by
    have := allApart5_any Aw Af none A cw cf 0 c t [] L w' HOK.out (HT.out.mono hb) (fun x hx => by cases hx) (by simp) (.inl rfl) HLL.out HLE.out (HA.out.mono hb)
    rw [HN.out] at this
    exact this : Calls Tryd.prog 29 #[.agg #[.int .i64 t.wells, .slice Aw t.nw cw, .slice Af t.nf cf], .slice none 0 0, .slice A n c] w' fun e w'' => e = .returned (.bool (t.allApart [] L)) ∧ Below w'.heap.size w' w''))
  obtain ⟨dv, hdv⟩ : ∃ dv, t.depth L = dv := ⟨_, rfl⟩
  have HDV := Lib.hid hdv
  rw [hn] at hlen
  rw [hdv, hn]
  clear hT hA ok hL hb0 hn ih hdv hm
  go_enter Tryd.func94, Tryd.ntmps94
  go_wp2_with fail
  refine (HAP.out _ (Below.refl _ _)).mono ?_
  rintro e w1 ⟨rfl, hb1⟩
  have HB1 := Lib.hid hb1
  obtain ⟨bc1, bf1⟩ := bcell hb1
  have hz1 := hb1.size
  simp only [World.size_alloc] at hz1
  have hy1 : w.heap.size < w1.heap.size := by omega
  clear hb1
  obtain ⟨ba, hba⟩ : ∃ b, t.allApart [] L = b := ⟨_, rfl⟩
  have HBA := Lib.hid hba
  rw [hba]
  clear hba
  cases ba
  case true =>
    have HY := Lib.hid (show dv = 0 by rw [← HDV.out, depth_step, HBA.out]; rfl)
    go_wp2_with fail
    go_ret
    exact ⟨by rw [HY.out]; rfl, bTrans HB.out HB1.out⟩
  have HST := Lib.hid (show dv = minF L.length (fun x => 1 + t.behind x L) t.tests by rw [← HDV.out, depth_step, HBA.out, if_neg (by decide)])
  go_wp2_with fail
  refine (HTS.out _).mono ?_
  rintro e w2 ⟨⟨v, rfl, hv⟩, hb2⟩
  obtain ⟨At, ct, rfl, hrt⟩ := hv.read
  obtain ⟨nt, hnt⟩ : ∃ nt, t.tests.length = nt := ⟨_, rfl⟩
  rw [hnt]
  have HNT := Lib.hid hnt
  have hnt5 : nt ≤ 100000 := by rw [← hnt]; exact HTL.out
  have HRT := Lib.hid hrt
  have HB2 := Lib.hid (bTrans HB1.out hb2)
  clear hv hrt hb2 hnt bc1 bf1 hz1 hy1
  go_wp2_with fail
  go_loopw [5, 7] (fun s5 s7 wr => ∃ k : Nat, k ≤ nt ∧ s7 = .int .i64 k ∧ s5 = .int .i64 (minF L.length (fun x => 1 + t.behind x L) (t.tests.take k)) ∧ Below w2.heap.size w2 wr) (fun _ s _ => nt - (intOf s).toNat)
  case atStart => exact ⟨0, Nat.zero_le _, rfl, by rw [← HN.out]; rfl, Below.refl _ _⟩
  case round =>
    obtain ⟨k, hk, rfl, rfl, hbel⟩ := hrel
    have HL := Lib.hid hbel
    have HLB := Lib.hid (bTrans HB2.out hbel)
    obtain ⟨bc3, bf3⟩ := bcell HLB.out
    have hz3 := HLB.out.size
    simp only [World.size_alloc] at hz3
    have hy3 : w.heap.size < wr.heap.size := by omega
    clear hbel
    obtain ⟨b0, hb0⟩ : ∃ b, minF L.length (fun x => 1 + t.behind x L) (t.tests.take k) = b := ⟨_, rfl⟩
    have HB0 := Lib.hid hb0
    rw [hb0]
    clear hb0
    by_cases hlt : k < nt
    · obtain ⟨x, hx⟩ : ∃ x, t.tests[k]? = some x := ⟨_, List.getElem?_eq_getElem (by rw [HNT.out]; exact hlt)⟩
      obtain ⟨b, o, rfl, hb, c0, c1⟩ := SliceE.tst (HRT.out.mono HL.out) hx
      have hxo := HTO.out x (List.mem_of_getElem? hx)
      obtain ⟨p, q⟩ := x
      have k1 : (k : Int) < (nt : Int) := by omega
      have k0 : (0 : Int) ≤ (k : Int) := by omega
      obtain ⟨bv, hbv⟩ : ∃ bv, t.behind (p, q) L = bv := ⟨_, rfl⟩
      have hl0 : 0 ≤ bv := by rw [← hbv]; exact behind_nonneg t _ _
      have hl1 : bv ≤ (n : Int) := by have := behind_le t (p, q) L; rw [hbv, HN.out] at this; exact this
      have e1 : IntKind.i64.wrap (1 + bv) = 1 + bv := IntWalk.i64_in _ (by omega)
      have HF := Lib.hid (fun (w' : World) (hb : Below wr.heap.size wr w') => (by
        have := behind5_any Aw Af A cw cf c t p q L w' HOK.out ((HT.out.mono HLB.out).mono hb) hxo.1 hxo.2 HLL.out HLE.out ((HA.out.mono HLB.out).mono hb) HD.out
        rw [HN.out, hbv] at this
        exact this : Calls Tryd.prog 96 #[.agg #[.int .i64 t.wells, .slice Aw t.nw cw, .slice Af t.nf cf], .agg #[.int .i64 (p : Int), .int .i64 (q : Int)], .slice A n c] w' fun e w'' => e = .returned (.int .i64 bv) ∧ Below w'.heap.size w' w''))
      obtain ⟨m2, hm2⟩ : ∃ m2, (if 1 + bv < b0 then 1 + bv else b0) = m2 := ⟨_, rfl⟩
      have HR := Lib.hid (show minF L.length (fun x => 1 + t.behind x L) (t.tests.take (k + 1)) = m2 by
        rw [min_succ _ _ _ _ _ hx, HB0.out]
        simp only [hbv]
        exact hm2)
      clear hx hxo hbv hl0 hl1
      go_wp2_with fail
      refine wp_region_quiet_below (by kernel_rfl) (by kernel_rfl) ?_
      repeat (go_big_quiet_step (((go_at_call 96; with_reducible exact Calls.regrown_of (HF.out _ (below_regrown _ _ _))))))
      refine wpQuiet_nil ?_
      intro w9 hw9
      have HL9 := Lib.hid (bTrans HL.out (below_of_regrown hw9))
      clear hw9 bc3 bf3
      go_wp2_with fail
      go_roundw
      case rel =>
        first
        | exact ⟨k + 1, by omega, by go_num, by rw [HR.out], HL9.out⟩
        | ((repeat apply Exists.intro)
           refine ⟨⟨k + 1, by omega, ?_, by rw [HR.out], HL9.out⟩, rfl⟩
           go_num)
      case measure => simp [intOf]; omega
    · obtain rfl : k = nt := by omega
      have HZ := Lib.hid (show dv = b0 by rw [HST.out, ← HB0.out, List.take_of_length_le (by rw [HNT.out]; exact Nat.le_refl _)])
      go_wp2_with fail
      go_ret
      exact ⟨by rw [HZ.out]; rfl, bTrans HB.out HLB.out⟩
end Go.Proofs.YtchhodikgllgnaaDoor
/- Walks of the reference 05: Depth, Next. Conditions: lengths are Go's. -/
namespace Go.Proofs.YtchhodikgllgnaaDoor
open Go.RowKit Go.Sort
set_option maxHeartbeats 4000000 in
set_option maxRecDepth 100000 in
theorem depthE5_any (Aw Af : Option Addr) (cw cf : Nat) (t : Qt) (w : World) (hs : t.Small) (hT : QAt w Aw Af t) :
    Calls Tryd.prog 43 #[.agg #[.int .i64 t.wells, .slice Aw t.nw cw, .slice Af t.nf cf]] w fun e w' => e = .returned (.tuple #[.int .i64 t.depthOut, .int .i64 (t.knowErr true)]) ∧ Below w.heap.size w w' := by
  have hb0 := bAlloc (Below.refl w.heap.size w) (.cells #[.int .i64 t.wells, .slice Aw t.nw cw, .slice Af t.nf cf] 25)
  have HT := Lib.hid (hT.mono hb0)
  have HB := Lib.hid hb0
  have HS := Lib.hid hs
  obtain ⟨er, her⟩ : ∃ er, t.knowErr true = er := ⟨_, rfl⟩
  obtain ⟨dv, hdv⟩ : ∃ dv, t.depthOut = dv := ⟨_, rfl⟩
  have HE := Lib.hid her
  have HDV := Lib.hid (show (if er = 0 then t.depth t.leftL else 0) = dv by rw [← hdv, ← her]; rfl)
  rw [her, hdv]
  clear hT hb0 hs her hdv
  go_enter Tryd.func43, Tryd.ntmps43
  go_wp2_with fail
  refine (refKnown Aw Af cw cf t true _ HS.out.1 HS.out.2.1 HT.out).mono ?_
  rintro e w1 ⟨⟨v, rfl, h1, h2⟩, hb1⟩
  rw [HE.out] at h1 h2 ⊢
  have HB1 := Lib.hid hb1
  obtain ⟨bc1, bf1⟩ := bcell hb1
  have hz1 := hb1.size
  simp only [World.size_alloc] at hz1
  have hy1 : w.heap.size < w1.heap.size := by omega
  clear hb1
  by_cases h0 : er = 0
  · subst h0
    have HL1 := Lib.hid (h1 rfl)
    have HOK := Lib.hid (knowErr_zero HE.out).1
    obtain ⟨A, c, rfl, hr⟩ := HL1.out.nums
    have HR := Lib.hid hr
    obtain ⟨n, hn⟩ : ∃ n, t.leftL.length = n := ⟨_, rfl⟩
    have HN := Lib.hid hn
    have HDC := Lib.hid (by
      have := depth5_any t Aw Af cw cf HOK.out _ t.leftL rfl (by have := left_six HOK.out; omega) left_worlds A c w1 (HT.out.mono HB1.out) HR.out
      rw [HN.out, show t.depth t.leftL = dv from by rw [← HDV.out, if_pos rfl]] at this
      exact this : Calls Tryd.prog 94 #[.agg #[.int .i64 t.wells, .slice Aw t.nw cw, .slice Af t.nf cf], .slice A n c] w1 fun e w' => e = .returned (.int .i64 dv) ∧ Below w1.heap.size w1 w')
    rw [hn]
    clear h1 h2 hr hn
    go_wp2_with fail
    refine HDC.out.mono ?_
    rintro e w2 ⟨rfl, hb2⟩
    have HB2 := Lib.hid (bTrans HB1.out hb2)
    clear hb2 HDC
    go_wp2_with fail
    go_ret2
    exact ⟨rfl, bTrans HB.out HB2.out⟩
  · obtain rfl := h2 h0
    have g0 : (er != 0) = true := by simp [h0]
    have HZ := Lib.hid (show dv = 0 by rw [← HDV.out, if_neg h0])
    clear h1 h2 h0
    go_wp2_with fail
    go_ret2
    exact ⟨by rw [HZ.out]; rfl, bTrans HB.out HB1.out⟩
theorem next_take {t : Qt} {L : List Int} {k : Nat} {x : Tp} (h0 : 0 < t.depth L) (hno : ∀ y, y ∈ t.tests.take k → ¬ t.behind y L < t.depth L) (hx : t.tests[k]? = some x) (hlt : t.behind x L < t.depth L) : t.next L = some x := by
  unfold Qt.next
  rw [if_pos h0]
  have e : t.tests = t.tests.take k ++ x :: t.tests.drop (k + 1) := by
    conv => lhs; rw [← List.take_append_drop k t.tests]
    congr 1
    obtain ⟨hk, rfl⟩ := List.getElem?_eq_some_iff.1 hx
    exact List.drop_eq_getElem_cons hk
  rw [e, List.find?_append, List.find?_eq_none.2 (fun y hy => by simpa using hno y hy)]
  simp [hlt]
theorem next_not {t : Qt} {L : List Int} (hno : ∀ y, y ∈ t.tests → ¬ t.behind y L < t.depth L) : t.next L = none := by
  unfold Qt.next
  split
  · exact List.find?_eq_none.2 fun y hy => by simpa using hno y hy
  · rfl
theorem take_snoc_mem {l : List Tp} {k : Nat} {x y : Tp} (hx : l[k]? = some x) (hy : y ∈ l.take (k + 1)) : y ∈ l.take k ∨ y = x := by
  rw [List.take_add_one, hx] at hy
  rcases List.mem_append.1 hy with h | h
  · exact .inl h
  · exact .inr (by simpa using h)
/-- none of the first tests can be the next one -/
def nextNo (t : Qt) (dv : Int) (k : Nat) : Prop := ∀ y, y ∈ t.tests.take k → ¬ t.behind y t.leftL < dv
def shapeN (n : Nat) (v : Value) : Prop := ∃ A c, v = .slice A n c
theorem ownTG (n N : Nat) (l : List Tp) : (Stir.held (shapeN n) (fun w v => OwnE tstE w N v l)).good := ⟨⟨_, none, 0, rfl⟩, fun _ _ _ hb h => OwnE.mono h hb⟩
theorem ownNG (n N : Nat) (l : List Int) : (Stir.held (shapeN n) (fun w v => OwnL w N v l)).good := ⟨⟨_, none, 0, rfl⟩, fun _ _ _ hb h => OwnL.mono h hb⟩
set_option maxHeartbeats 4000000 in
set_option maxRecDepth 100000 in
theorem next5_any (Aw Af : Option Addr) (cw cf : Nat) (t : Qt) (w : World) (hs : t.Small) (hT : QAt w Aw Af t) :
    Calls Tryd.prog 45 #[.agg #[.int .i64 t.wells, .slice Aw t.nw cw, .slice Af t.nf cf]] w fun e w' => e = .returned (.tuple #[.agg #[.int .i64 t.nextOut.1, .int .i64 t.nextOut.2], .int .i64 t.nextErr]) ∧ Below w.heap.size w w' := by
  have hb0 := bAlloc (bAlloc (Below.refl w.heap.size w) (.cells #[.int .i64 t.wells, .slice Aw t.nw cw, .slice Af t.nf cf] 25)) (.cells #[.int .i64 0, .int .i64 0] 27)
  have HT := Lib.hid (hT.mono hb0)
  have HB := Lib.hid hb0
  have HS := Lib.hid hs
  obtain ⟨er, her⟩ : ∃ er, t.knowErr true = er := ⟨_, rfl⟩
  have HE := Lib.hid her
  obtain ⟨dv, hdv⟩ : ∃ dv, t.depthOut = dv := ⟨_, rfl⟩
  have HDV := Lib.hid (show (if er = 0 then t.depth t.leftL else 0) = dv by rw [← hdv, ← her]; rfl)
  have HDC := Lib.hid (by
    have := depthE5_any Aw Af cw cf t _ HS.out HT.out
    rw [her, hdv] at this
    exact this : Calls Tryd.prog 43 #[.agg #[.int .i64 t.wells, .slice Aw t.nw cw, .slice Af t.nf cf]] ((w.alloc (.cells #[.int .i64 t.wells, .slice Aw t.nw cw, .slice Af t.nf cf] 25)).alloc (.cells #[.int .i64 0, .int .i64 0] 27)) fun e w' => e = .returned (.tuple #[.int .i64 dv, .int .i64 er]) ∧ Below ((w.alloc (.cells #[.int .i64 t.wells, .slice Aw t.nw cw, .slice Af t.nf cf] 25)).alloc (.cells #[.int .i64 0, .int .i64 0] 27)).heap.size ((w.alloc (.cells #[.int .i64 t.wells, .slice Aw t.nw cw, .slice Af t.nf cf] 25)).alloc (.cells #[.int .i64 0, .int .i64 0] 27)) w')
  obtain ⟨q1, hq1⟩ : ∃ v : Nat, t.nextOut.1 = v := ⟨_, rfl⟩
  obtain ⟨q2, hq2⟩ : ∃ v : Nat, t.nextOut.2 = v := ⟨_, rfl⟩
  obtain ⟨ne, hne⟩ : ∃ v, t.nextErr = v := ⟨_, rfl⟩
  have HO := Lib.hid (And.intro hq1 (And.intro hq2 hne))
  rw [hq1, hq2, hne]
  clear hT hb0 hs her hdv hq1 hq2 hne
  go_enter Tryd.func45, Tryd.ntmps45
  go_wp2_with fail
  refine HDC.out.mono ?_
  rintro e w1 ⟨rfl, hb1⟩
  have HB1 := Lib.hid hb1
  obtain ⟨bc1, bf1⟩ := bcell hb1
  have hz1 := hb1.size
  simp only [World.size_alloc] at hz1
  have hy1 : w.heap.size < w1.heap.size := by omega
  have hv1 : w.heap.size + 1 < w1.heap.size := by omega
  clear hb1 HDC
  by_cases h0 : er = 0
  case neg =>
    have g0 : (er != 0) = true := by simp [h0]
    have HZ := Lib.hid (show q1 = 0 ∧ q2 = 0 ∧ ne = er by
      rw [← HO.out.1, ← HO.out.2.1, ← HO.out.2.2]
      unfold Qt.nextOut Qt.nextErr
      rw [HE.out, if_neg h0, if_neg h0]
      exact ⟨rfl, rfl, rfl⟩)
    clear h0
    go_wp2_with fail
    refine bodyPost_ret (v := .tuple #[.agg #[.int .i64 0, .int .i64 0], .int .i64 er]) (by simp [results, Tryd.results45, go_sem, *]) rfl ⟨by rw [HZ.out.1, HZ.out.2.1, HZ.out.2.2]; rfl, ?_⟩
    exact Below.setCell (p := ⟨w.heap.size + 1, 1, none⟩) (Below.setCell (p := ⟨w.heap.size + 1, 0, none⟩) (bTrans HB.out HB1.out) (by simp <;> omega) (.int .i64 0)) (by simp <;> omega) (.int .i64 0)
  subst h0
  have HOK := Lib.hid (knowErr_zero HE.out).1
  have HLE := Lib.hid (left_six HOK.out)
  obtain ⟨n, hn⟩ : ∃ n, t.leftL.length = n := ⟨_, rfl⟩
  have HN := Lib.hid hn
  have hdv : t.depth t.leftL = dv := by rw [← HDV.out, if_pos rfl]
  have HDD := Lib.hid hdv
  have HNX := Lib.hid (show ∀ y : Option Tp, t.next t.leftL = y → q1 = (y.getD (0, 0)).1 ∧ q2 = (y.getD (0, 0)).2 ∧ ne = if y.isSome then 0 else 3 from fun y hy => by
    rw [← HO.out.1, ← HO.out.2.1, ← HO.out.2.2]
    have e := nextP_eq HOK.out.fallsL (by have := HLE.out; omega)
    unfold Qt.nextOut Qt.nextErr
    rw [HE.out, if_pos rfl, if_pos rfl, e, hy]
    exact ⟨rfl, rfl, rfl⟩)
  obtain ⟨m, hm⟩ : ∃ m : Nat, t.wells = (m : Int) := ⟨t.wells.toNat, by have := HOK.out.w0; omega⟩
  have m4 : m ≤ 4 := by have := HOK.out.w1; omega
  have HTS := Lib.hid (fun w' => tests5_any Aw Af cw cf m t w' hm m4)
  have HTL := Lib.hid (show t.tests.length ≤ 100000 by unfold Qt.tests; rw [testsL_len, hm, Int.toNat_natCast]; have : m * m ≤ 4 * 4 := Nat.mul_le_mul m4 m4; omega)
  have HTO := Lib.hid (show t.TestsOk t.tests from fun x hx => by
    have := testsL_mem.1 hx
    have := HOK.out.w0
    omega)
  obtain ⟨nt, hnt⟩ : ∃ nt, t.tests.length = nt := ⟨_, rfl⟩
  have HNT := Lib.hid hnt
  have hnt5 : nt ≤ 100000 := by rw [← hnt]; exact HTL.out
  clear hn hdv hnt hm
  go_wp2_with fail
  refine wp_region_stir 4 [.const (.agg #[.int .i64 t.wells, .slice Aw t.nw cw, .slice Af t.nf cf]), .held (shapeN nt) (fun w v => OwnE tstE w 0 v t.tests), .const (.agg #[.int .i64 t.wells, .slice Aw t.nw cw, .slice Af t.nf cf]), .held (shapeN n) (fun w v => OwnL w 0 v t.leftL)] (by kernel_rfl) (by kernel_rfl) rfl ⟨trivial, ownTG _ _ _, trivial, ownNG _ _ _, trivial⟩ (crossAll_no _ _ _ _ trivial) ?_
  refine wpStir_const (by go_simp) ?_
  refine wpStir_held rfl (fun w' hb hd => ?_) (fun v hv => ?_)
  · clear hd
    go_simp
    refine (HTS.out w').mono ?_
    rintro e w'' ⟨⟨v, rfl, hv⟩, hb'⟩
    obtain ⟨A, c, e, _⟩ := hv.read
    rw [HNT.out] at e
    exact ⟨v, rfl, hb', ⟨A, c, e⟩, hv.lower (Nat.zero_le _)⟩
  obtain ⟨At, ct, rfl⟩ := hv
  refine wpStir_const (by go_simp) ?_
  simp only [Act.put, List.setIfInBounds_toArray, List.set_cons_succ, List.set_cons_zero]
  refine wpStir_held rfl (fun w' hb hd => ?_) (fun v hv => ?_)
  · clear hd
    go_simp
    refine (refLeftOf Aw Af cw cf t w' HOK.out (HT.out.mono (bTrans HB1.out hb))).mono ?_
    rintro e w'' ⟨⟨v, rfl, hv⟩, hb'⟩
    obtain ⟨A, c, e, _⟩ := hv.nums
    rw [HN.out] at e
    exact ⟨v, rfl, hb', ⟨A, c, e⟩, hv.lower (Nat.zero_le _)⟩
  obtain ⟨Al, cl, rfl⟩ := hv
  simp only [Act.put, List.setIfInBounds_toArray, List.set_cons_succ, List.set_cons_zero]
  refine wpStir_end (fun w2 hb2 hd => ?_)
  have hl2 := hd.1
  have ht2 := hd.2.1
  clear hd
  obtain ⟨A1, c1, e1, r1⟩ := hl2.nums
  obtain ⟨A2, c2, e2, r2⟩ := ht2.read
  simp only [Value.slice.injEq] at e1 e2
  obtain ⟨rfl, e3, rfl⟩ := e1
  obtain ⟨rfl, e4, rfl⟩ := e2
  clear e3 e4
  have HRL := Lib.hid r1
  have HRT := Lib.hid r2
  have HB2 := Lib.hid (bTrans HB1.out hb2)
  clear hl2 ht2 r1 r2 hb2 bc1 bf1 hz1 hy1 hv1
  simp only [List.drop_succ_cons, List.drop_zero]
  go_wp2_with fail
  go_loopw [8] (fun s8 wr => ∃ k : Nat, k ≤ nt ∧ s8 = .int .i64 k ∧ nextNo t dv k ∧ Below w2.heap.size w2 wr) (fun s _ => nt - (intOf s).toNat)
  case atStart => exact ⟨0, Nat.zero_le _, rfl, (fun y hy => by simp at hy), Below.refl _ _⟩
  case round =>
    obtain ⟨k, hk, rfl, hno, hbel⟩ := hrel
    have HNO := Lib.hid hno
    have HL := Lib.hid hbel
    have HLB := Lib.hid (bTrans HB2.out hbel)
    obtain ⟨bc3, bf3⟩ := bcell HLB.out
    have hz3 := HLB.out.size
    simp only [World.size_alloc] at hz3
    have hy3 : w.heap.size < wr.heap.size := by omega
    have hv3 : w.heap.size + 1 < wr.heap.size := by omega
    clear hbel hno
    by_cases hlt : k < nt
    · have k1 : (k : Int) < (nt : Int) := by omega
      have k0 : (0 : Int) ≤ (k : Int) := by omega
      by_cases hd0 : dv > 0
      · obtain ⟨x, hx⟩ : ∃ x, t.tests[k]? = some x := ⟨_, List.getElem?_eq_getElem (by rw [HNT.out]; exact hlt)⟩
        obtain ⟨b, o, rfl, hb, c0, c1⟩ := SliceE.tst (HRT.out.mono HL.out) hx
        have HX := Lib.hid hx
        have hxo := HTO.out x (List.mem_of_getElem? hx)
        obtain ⟨p, q⟩ := x
        obtain ⟨bv, hbv⟩ : ∃ bv, t.behind (p, q) t.leftL = bv := ⟨_, rfl⟩
        have HBV := Lib.hid hbv
        have HF := Lib.hid (fun (w' : World) (hb : Below wr.heap.size wr w') => (by
          have := behind5_any Aw Af Al cw cf cl t p q t.leftL w' HOK.out ((HT.out.mono HLB.out).mono hb) hxo.1 hxo.2 left_worlds (by have := HLE.out; omega) ((HRL.out.mono HL.out).mono hb) (fun L' h1 h2 => depth5_any t Aw Af cw cf HOK.out _ L' rfl (by have := HLE.out; omega) h2)
          rw [HN.out, hbv] at this
          exact this : Calls Tryd.prog 96 #[.agg #[.int .i64 t.wells, .slice Aw t.nw cw, .slice Af t.nf cf], .agg #[.int .i64 (p : Int), .int .i64 (q : Int)], .slice Al n cl] w' fun e w'' => e = .returned (.int .i64 bv) ∧ Below w'.heap.size w' w''))
        clear hx hxo hbv
        have hblt := hb
        by_cases hbd : bv < dv
        · have HY := Lib.hid (show t.next t.leftL = some (p, q) from next_take (by rw [HDD.out]; exact hd0) (by rw [HDD.out]; exact HNO.out) HX.out (by rw [HDD.out, HBV.out]; exact hbd))
          have HZ := Lib.hid (HNX.out _ HY.out)
          go_wp2_with fail
          refine wp_region_quiet_below (by kernel_rfl) (by kernel_rfl) ?_
          repeat (go_big_quiet_step (((go_at_call 96; with_reducible exact Calls.regrown_of (HF.out _ (below_regrown _ _ _))))))
          refine wpQuiet_nil ?_
          intro w9 hw9
          have hb9 := below_of_regrown hw9
          have HL9 := Lib.hid (bTrans HLB.out hb9)
          obtain ⟨bc9, bf9⟩ := bcell HL9.out
          have hz9 := HL9.out.size
          simp only [World.size_alloc] at hz9
          have hy9 : w.heap.size < w9.heap.size := by omega
          have hv9 : w.heap.size + 1 < w9.heap.size := by omega
          have d0 := (hb9.cell (p := ⟨b, _, none⟩) hb).trans c0
          have d1 := (hb9.cell (p := ⟨b, _, none⟩) hb).trans c1
          have hbb := Nat.lt_of_lt_of_le hb hb9.size
          clear hw9 hb9 bc3 bf3 hz3 hy3 hv3 c0 c1 hb hblt
          go_wp2_with fail
          refine bodyPost_ret (v := .tuple #[.agg #[.int .i64 (p : Int), .int .i64 (q : Int)], .int .i64 0]) (by simp [results, Tryd.results45, go_sem, *]) rfl ⟨by rw [HZ.out.1, HZ.out.2.1, HZ.out.2.2]; rfl, ?_⟩
          exact Below.setCell (p := ⟨w.heap.size + 1, 1, none⟩) (Below.setCell (p := ⟨w.heap.size + 1, 0, none⟩) (bTrans HB.out HL9.out) (by simp <;> omega) _) (by simp <;> omega) _
        · have HNN := Lib.hid (show nextNo t dv (k + 1) from fun y hy => by
            rcases take_snoc_mem HX.out hy with h | rfl
            · exact HNO.out y h
            · rw [HBV.out]; exact hbd)
          go_wp2_with fail
          refine wp_region_quiet_below (by kernel_rfl) (by kernel_rfl) ?_
          repeat (go_big_quiet_step (((go_at_call 96; with_reducible exact Calls.regrown_of (HF.out _ (below_regrown _ _ _))))))
          refine wpQuiet_nil ?_
          intro w9 hw9
          have HL9 := Lib.hid (bTrans HL.out (below_of_regrown hw9))
          clear hw9 bc3 bf3
          go_wp2_with fail
          go_roundw
          case rel =>
            first
            | exact ⟨k + 1, by omega, by go_num, HNN.out, HL9.out⟩
            | ((repeat apply Exists.intro)
               refine ⟨⟨k + 1, by omega, ?_, HNN.out, HL9.out⟩, rfl⟩
               go_num)
          case measure => simp [intOf]; omega
      · have HY := Lib.hid (show t.next t.leftL = none by unfold Qt.next; rw [HDD.out, if_neg (by omega)])
        have HZ := Lib.hid (HNX.out _ HY.out)
        go_wp2_with fail
        refine bodyPost_ret (v := .tuple #[.agg #[.int .i64 0, .int .i64 0], .int .i64 3]) (by simp [results, Tryd.results45, go_sem, *]) rfl ⟨by rw [HZ.out.1, HZ.out.2.1, HZ.out.2.2]; rfl, ?_⟩
        exact Below.setCell (p := ⟨w.heap.size + 1, 1, none⟩) (Below.setCell (p := ⟨w.heap.size + 1, 0, none⟩) (bTrans HB.out HLB.out) (by simp <;> omega) (.int .i64 0)) (by simp <;> omega) (.int .i64 0)
    · obtain rfl : k = nt := by omega
      have HY := Lib.hid (show t.next t.leftL = none from next_not fun y hy => by
        rw [HDD.out]
        exact HNO.out y (by rw [List.take_of_length_le (by rw [HNT.out]; exact Nat.le_refl _)]; exact hy))
      have HZ := Lib.hid (HNX.out _ HY.out)
      go_wp2_with fail
      refine bodyPost_ret (v := .tuple #[.agg #[.int .i64 0, .int .i64 0], .int .i64 3]) (by simp [results, Tryd.results45, go_sem, *]) rfl ⟨by rw [HZ.out.1, HZ.out.2.1, HZ.out.2.2]; rfl, ?_⟩
      exact Below.setCell (p := ⟨w.heap.size + 1, 1, none⟩) (Below.setCell (p := ⟨w.heap.size + 1, 0, none⟩) (bTrans HB.out HLB.out) (by simp <;> omega) (.int .i64 0)) (by simp <;> omega) (.int .i64 0)
end Go.Proofs.YtchhodikgllgnaaDoor
/- The statement QuarrelsDepth: the walk. Conditions: what is read fits into memory; the listed table holds what it holds. -/
namespace Go.Proofs.YtchhodikgllgnaaDoor
open Go.RowKit Go.Sort
set_option maxHeartbeats 8000000 in
set_option maxRecDepth 100000 in
theorem quarrelsDepth_any (Aw Af : Option Addr) (cw cf : Nat) (t : Qt)  (w : World) (hf : t.Fits) (hT : QAt w Aw Af t) (hB : TabAt w) :
    Calls Tryd.prog 7 #[.agg #[.int .i64 t.wells, .slice Aw t.nw cw, .slice Af t.nf cf]] w fun e w' => e = .returned (.bool true) ∧ Below w.heap.size w w' := by
  have HT0 := Lib.hid hT
  have HTB0 := Lib.hid hB
  have HD0 := Lib.hid (Below.refl w.heap.size w)
  have HS := Lib.hid hf.small
  have HF := Lib.hid hf
  clear hT hB hf
  go_enter Tryd.func7, Tryd.ntmps7
  go_wp2_with fail
  refine (far_any _ _ _ _ t _ HS.out (HT0.out.mono (bAlloc (Below.refl _ _) (.cells #[.int .i64 t.wells, .slice Aw t.nw cw, .slice Af t.nf cf] 25)))).mono ?_
  rintro e w1 ⟨rfl, hb⟩
  have hB1 : Below w.heap.size w w1 := bTrans (bAlloc (Below.refl _ _) (.cells #[.int .i64 t.wells, .slice Aw t.nw cw, .slice Af t.nf cf] 25)) hb
  have HD1 := Lib.hid (bTrans HD0.out hB1)
  have HT1 := Lib.hid (HT0.out.mono hB1)
  have HTB1 := Lib.hid (HTB0.out.mono hB1)
  have T1 := Lib.hid (show TBox w1 w.heap.size 25 #[.int .i64 t.wells, .slice Aw t.nw cw, .slice Af t.nf cf] from by have := ((TBox.new w #[.int .i64 t.wells, .slice Aw t.nw cw, .slice Af t.nf cf] 25).mono (Below.refl _ _)).mono hb; simpa using this)
  clear hb hB1 HD0 HT0 HTB0
  obtain ⟨T_0, T_1, T_2, T_l⟩ := T1.out.c3
  cases t.farB
  case true =>
    go_wp2_with fail
    refine (works5_any _ HTB1.out).mono ?_
    rintro e w99 ⟨rfl, hb99⟩
    go_wp2_with fail
    go_ret
    exact ⟨rfl, bTrans HD1.out hb99⟩
  go_wp2_with fail
  refine (copy5_any _ _ _ _ t _ HF.out HT1.out).mono ?_
  rintro e w2 ⟨⟨vW, vF, rfl, hc⟩, hb⟩
  obtain ⟨Bw, dw, Bf, df, rfl, rfl, hq⟩ := hc.qat
  have hB2 : Below w1.heap.size w1 w2 := bTrans (Below.refl _ _) hb
  have HD2 := Lib.hid (bTrans HD1.out hB2)
  have HT2 := Lib.hid (HT1.out.mono hB2)
  have HTB2 := Lib.hid (HTB1.out.mono hB2)
  have HQ2 := Lib.hid (hq)
  have T2 := Lib.hid (T1.out.mono hB2)
  clear hb hB2 HD1 HT1 HTB1 T1 T_0 T_1 T_2 T_l
  obtain ⟨T_0, T_1, T_2, T_l⟩ := T2.out.c3
  clear hc hq
  go_wp2_with fail
  refine (depthQ_any Bw Bf dw df t _ HS.out (HQ2.out.mono (bAlloc (Below.refl _ _) (.cells #[.int .i64 t.wells, .slice Bw t.nw dw, .slice Bf t.nf df] 25))) (HTB2.out.mono (bAlloc (Below.refl _ _) (.cells #[.int .i64 t.wells, .slice Bw t.nw dw, .slice Bf t.nf df] 25)))).mono ?_
  rintro e w3 ⟨rfl, hb⟩
  have hB3 : Below w2.heap.size w2 w3 := bTrans (bAlloc (Below.refl _ _) (.cells #[.int .i64 t.wells, .slice Bw t.nw dw, .slice Bf t.nf df] 25)) hb
  have HD3 := Lib.hid (bTrans HD2.out hB3)
  have HT3 := Lib.hid (HT2.out.mono hB3)
  have HTB3 := Lib.hid (HTB2.out.mono hB3)
  have HQ3 := Lib.hid (HQ2.out.mono hB3)
  have T3 := Lib.hid (T2.out.mono hB3)
  have O3 := Lib.hid (show TBox w3 w2.heap.size 25 #[.int .i64 t.wells, .slice Bw t.nw dw, .slice Bf t.nf df] from by have := ((TBox.new w2 #[.int .i64 t.wells, .slice Bw t.nw dw, .slice Bf t.nf df] 25).mono (Below.refl _ _)).mono hb; simpa using this)
  clear hb hB3 HD2 HT2 HTB2 HQ2 T2 T_0 T_1 T_2 T_l
  obtain ⟨T_0, T_1, T_2, T_l⟩ := T3.out.c3
  obtain ⟨O_0, O_1, O_2, O_l⟩ := O3.out.c3
  obtain ⟨dv, hdv⟩ : ∃ v, t.depthOut = v := ⟨_, rfl⟩
  obtain ⟨er, her⟩ : ∃ v, t.knowErr true = v := ⟨_, rfl⟩
  rw [hdv, her]
  have HV := Lib.hid (And.intro hdv her)
  clear hdv her
  go_wp2_with fail
  refine (depthE5_any Aw Af cw cf t _ HS.out HT3.out).mono ?_
  rintro e w4 ⟨rfl, hb⟩
  rw [HV.out.1, HV.out.2]
  have hB4 : Below w3.heap.size w3 w4 := bTrans (Below.refl _ _) hb
  have HD4 := Lib.hid (bTrans HD3.out hB4)
  have HT4 := Lib.hid (HT3.out.mono hB4)
  have HTB4 := Lib.hid (HTB3.out.mono hB4)
  have HQ4 := Lib.hid (HQ3.out.mono hB4)
  have T4 := Lib.hid (T3.out.mono hB4)
  have O4 := Lib.hid (O3.out.mono hB4)
  clear hb hB4 HD3 HT3 HTB3 HQ3 T3 T_0 T_1 T_2 T_l O3 O_0 O_1 O_2 O_l
  obtain ⟨T_0, T_1, T_2, T_l⟩ := T4.out.c3
  obtain ⟨O_0, O_1, O_2, O_l⟩ := O4.out.c3
  go_wp2_with fail
  refine (nextQ_any Bw Bf dw df t _ HS.out HQ4.out HTB4.out).mono ?_
  rintro e w5 ⟨rfl, hb⟩
  have hB5 : Below w4.heap.size w4 w5 := bTrans (Below.refl _ _) hb
  have HD5 := Lib.hid (bTrans HD4.out hB5)
  have HT5 := Lib.hid (HT4.out.mono hB5)
  have HTB5 := Lib.hid (HTB4.out.mono hB5)
  have HQ5 := Lib.hid (HQ4.out.mono hB5)
  have T5 := Lib.hid (T4.out.mono hB5)
  have O5 := Lib.hid (O4.out.mono hB5)
  clear hb hB5 HD4 HT4 HTB4 HQ4 T4 T_0 T_1 T_2 T_l O4 O_0 O_1 O_2 O_l
  obtain ⟨T_0, T_1, T_2, T_l⟩ := T5.out.c3
  obtain ⟨O_0, O_1, O_2, O_l⟩ := O5.out.c3
  obtain ⟨q1, hq1⟩ : ∃ v : Nat, t.nextOut.1 = v := ⟨_, rfl⟩
  obtain ⟨q2, hq2⟩ : ∃ v : Nat, t.nextOut.2 = v := ⟨_, rfl⟩
  obtain ⟨en, hen⟩ : ∃ v, t.nextErr = v := ⟨_, rfl⟩
  rw [hq1, hq2, hen]
  have HW := Lib.hid (And.intro hq1 (And.intro hq2 hen))
  have hst : sameT (q1 : Int) (q2 : Int) (q1 : Int) (q2 : Int) = true := by simp [sameT]
  clear hq1 hq2 hen
  go_wp2_with fail
  refine (next5_any Aw Af cw cf t _ HS.out (HT5.out.mono (bAlloc (Below.refl _ _) (.cells #[.int .i64 (q1 : Int), .int .i64 (q2 : Int)] 27)))).mono ?_
  rintro e w6 ⟨rfl, hb⟩
  rw [HW.out.1, HW.out.2.1, HW.out.2.2]
  have hB6 : Below w5.heap.size w5 w6 := bTrans (bAlloc (Below.refl _ _) (.cells #[.int .i64 (q1 : Int), .int .i64 (q2 : Int)] 27)) hb
  have HD6 := Lib.hid (bTrans HD5.out hB6)
  have HT6 := Lib.hid (HT5.out.mono hB6)
  have HTB6 := Lib.hid (HTB5.out.mono hB6)
  have HQ6 := Lib.hid (HQ5.out.mono hB6)
  have T6 := Lib.hid (T5.out.mono hB6)
  have O6 := Lib.hid (O5.out.mono hB6)
  have S16 := Lib.hid (show TBox w6 w5.heap.size 27 #[.int .i64 (q1 : Int), .int .i64 (q2 : Int)] from by have := ((TBox.new w5 #[.int .i64 (q1 : Int), .int .i64 (q2 : Int)] 27).mono (Below.refl _ _)).mono hb; simpa using this)
  clear hb hB6 HD5 HT5 HTB5 HQ5 T5 T_0 T_1 T_2 T_l O5 O_0 O_1 O_2 O_l
  obtain ⟨T_0, T_1, T_2, T_l⟩ := T6.out.c3
  obtain ⟨O_0, O_1, O_2, O_l⟩ := O6.out.c3
  obtain ⟨S1_0, S1_1, S1_l⟩ := S16.out.c2
  go_wp2_with fail
  refine (same5_any Bw Bf Aw Af dw df cw cf t _ HS.out (HQ6.out.mono (bAlloc (Below.refl _ _) (.cells #[.int .i64 (q1 : Int), .int .i64 (q2 : Int)] 27))) (HT6.out.mono (bAlloc (Below.refl _ _) (.cells #[.int .i64 (q1 : Int), .int .i64 (q2 : Int)] 27)))).mono ?_
  rintro e w7 ⟨rfl, hb⟩
  have hB7 : Below w6.heap.size w6 w7 := bTrans (bAlloc (Below.refl _ _) (.cells #[.int .i64 (q1 : Int), .int .i64 (q2 : Int)] 27)) hb
  have HD7 := Lib.hid (bTrans HD6.out hB7)
  have HT7 := Lib.hid (HT6.out.mono hB7)
  have HTB7 := Lib.hid (HTB6.out.mono hB7)
  have HQ7 := Lib.hid (HQ6.out.mono hB7)
  have T7 := Lib.hid (T6.out.mono hB7)
  have O7 := Lib.hid (O6.out.mono hB7)
  have S17 := Lib.hid (S16.out.mono hB7)
  have S27 := Lib.hid (show TBox w7 w6.heap.size 27 #[.int .i64 (q1 : Int), .int .i64 (q2 : Int)] from by have := ((TBox.new w6 #[.int .i64 (q1 : Int), .int .i64 (q2 : Int)] 27).mono (Below.refl _ _)).mono hb; simpa using this)
  clear hb hB7 HD6 HT6 HTB6 HQ6 T6 T_0 T_1 T_2 T_l O6 O_0 O_1 O_2 O_l S16 S1_0 S1_1 S1_l
  obtain ⟨T_0, T_1, T_2, T_l⟩ := T7.out.c3
  obtain ⟨O_0, O_1, O_2, O_l⟩ := O7.out.c3
  obtain ⟨S1_0, S1_1, S1_l⟩ := S17.out.c2
  obtain ⟨S2_0, S2_1, S2_l⟩ := S27.out.c2
  go_wp2_with fail
  refine (works5_any _ HTB7.out).mono ?_
  rintro e w99 ⟨rfl, hb99⟩
  go_wp2_with fail
  go_ret
  exact ⟨rfl, bTrans HD7.out hb99⟩
end Go.Proofs.YtchhodikgllgnaaDoor
