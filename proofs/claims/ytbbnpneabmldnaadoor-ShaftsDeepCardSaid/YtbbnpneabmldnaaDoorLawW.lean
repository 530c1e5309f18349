/- Walks: Deep and Next of the reference; ShaftsDeep returns true. Condition: the way that there is not lies in its variable. -/
import Derived.Test.YtbbnpneabmldnaaDoorLawU
import Derived.Test.YtbbnpneabmldnaaDoorLawM
namespace Go.Proofs.YtbbnpneabmldnaaDoor
open Go.RowKit Go.Sort
noncomputable def askV (S : Sh) (is : Bool) : Int := if S.err = 0 then (if is then 0 else 1) else 20
theorem ask_at (Ar Af : Option Addr) (cr cf : Nat) (S : Sh) (is : Bool) (x : Int) (h : askV S is = x) (w : World) (hr : S.nr ≤ 9223372036854775807) (hf : S.nf ≤ 9223372036854775807) (hS : ShAt w Ar Af S) :
    Calls Tryd.prog 69 #[.agg #[.slice Ar S.nr cr, .slice Af S.nf cf, .int .i64 S.deep, .int .i64 S.haul, .int .i64 S.rest], .bool is] w fun e w' => e = .returned (.int .i64 x) ∧ Below w.heap.size w w' := by
  have := ask_any Ar Af cr cf S is w hr hf hS
  rw [show (if S.err = 0 then (if is then (0 : Int) else 1) else 20) = x from h] at this
  exact this
theorem isMoney_b (n : Int) (b : Bool) (h : inR n 0 9999 = b) (w : World) : Calls Tryd.prog 48 #[.int .i64 n] w fun e w' => e = .returned (.bool b) ∧ Below w.heap.size w w' :=
  (isMoney_any n w).mono fun e w' ⟨he, hw⟩ => ⟨by rw [he, h], by rw [← hw]; exact Below.refl _ _⟩
theorem isRock_b (Ar Af : Option Addr) (cr cf : Nat) (S : Sh) (n : Int) (b : Bool) (h : inR n 0 (S.nr - 1) = b) (w : World) (hr : S.nr ≤ 9223372036854775807) :
    Calls Tryd.prog 33 #[.agg #[.slice Ar S.nr cr, .slice Af S.nf cf, .int .i64 S.deep, .int .i64 S.haul, .int .i64 S.rest], .int .i64 n] w fun e w' => e = .returned (.bool b) ∧ Below w.heap.size w w' := by
  have := isRock_any Ar Af cr cf S n w hr
  rw [h] at this
  exact this
theorem ask_cases {S : Sh} {is : Bool} : (¬ S.Ok ∧ askV S is = 20) ∨ (S.Ok ∧ is = false ∧ askV S is = 1) ∨ (S.Ok ∧ is = true ∧ askV S is = 0) := by
  unfold askV
  by_cases ok : S.Ok
  · rw [if_pos (Sh.err_ok ok)]
    cases is
    · exact .inr (.inl ⟨ok, rfl, rfl⟩)
    · exact .inr (.inr ⟨ok, rfl, rfl⟩)
  · exact .inl ⟨ok, by rw [Sh.err_bad ok]; rfl⟩
theorem cheap_known {S : Sh} (ok : S.Ok) : ∃ n e, S.cheapOut = (n, e) ∧ 0 ≤ n ∧ n ≤ 4968 ∧ (e = 0 ∨ e = 3) := by
  rcases out_cases ok with ⟨_, _, n, _, h, _, _, _, h0, h1⟩ | ⟨_, _, h⟩
  · exact ⟨n, 0, h, h0, h1, .inl rfl⟩
  · exact ⟨0, 3, h, by omega, by omega, .inr rfl⟩
theorem deepTo_stop {S : Sh} {p : Int} {k : Nat} {n e : Int} (h : (S.first (k + 1)).cheapOut = (n, e)) : (e = 0 ∧ n ≤ p ∧ S.deepTo p (k + 1) = k + 1) ∨ (e = 0 ∧ (n ≤ p) = False ∧ S.deepTo p (k + 1) = S.deepTo p k) ∨ ((e == 0) = false ∧ S.deepTo p (k + 1) = S.deepTo p k) := by
  simp only [Sh.deepTo, h]
  by_cases he : e = 0
  · by_cases hn : n ≤ p
    · exact .inl ⟨he, hn, if_pos ⟨he, hn⟩⟩
    · exact .inr (.inl ⟨he, eq_false hn, if_neg (fun h => hn h.2)⟩)
  · exact .inr (.inr ⟨beq_eq_false_iff_ne.2 he, if_neg (fun h => he h.1)⟩)
set_option maxHeartbeats 4000000 in
set_option maxRecDepth 100000 in
theorem refDeep_any (Ar Af : Option Addr) (cr cf : Nat) (S : Sh) (p : Int) (w : World) (hr : S.nr ≤ 9223372036854775807) (hf : S.nf ≤ 9223372036854775807) (hS : ShAt w Ar Af S) :
    Calls Tryd.prog 46 #[.agg #[.slice Ar S.nr cr, .slice Af S.nf cf, .int .i64 S.deep, .int .i64 S.haul, .int .i64 S.rest], .int .i64 p] w fun e w' => e = .returned (.tuple #[.int .i64 (S.deepOut p).1, .int .i64 (S.deepOut p).2]) ∧ Below w.heap.size w w' := by
  have hb0 := bAlloc (Below.refl w.heap.size w) (.cells #[.slice Ar S.nr cr, .slice Af S.nf cf, .int .i64 S.deep, .int .i64 S.haul, .int .i64 S.rest] 25)
  have HS := Lib.hid (hS.mono hb0)
  have HB := Lib.hid hb0
  clear hS hb0
  obtain ⟨b, hb⟩ : ∃ b, inR p 0 9999 = b := ⟨_, rfl⟩
  have HM := Lib.hid hb
  have hcase : ∃ x, askV S b = x ∧ ((((x : Int) != 0) = true ∧ S.deepOut p = (0, x)) ∨ (x = 0 ∧ S.Ok ∧ S.deepOut p = ((S.deepTo p S.nf : Int), 0))) := by
    rcases ask_cases (S := S) (is := b) with ⟨ok, ha⟩ | ⟨ok, rfl, ha⟩ | ⟨ok, rfl, ha⟩
    · exact ⟨20, ha, .inl ⟨rfl, deepOut_bad ok⟩⟩
    · exact ⟨1, ha, .inl ⟨rfl, deepOut_arg ok hb⟩⟩
    · exact ⟨0, ha, .inr ⟨rfl, ok, deepOut_ok ok hb⟩⟩
  obtain ⟨x, hx, hcase⟩ := hcase
  have HA := Lib.hid hx
  clear hb hx
  rcases hcase with ⟨hx0, he⟩ | ⟨rfl, ok, he⟩
  all_goals
    have HE := Lib.hid he
    clear he
    go_enter Tryd.func46, Tryd.ntmps46
    go_wp2_with fail
    refine wp_region_quiet_below (by kernel_rfl) (by kernel_rfl) ?_
    repeat (go_big_quiet_step (((first | (go_at_call 48; exact Calls.regrown_of (isMoney_b _ _ HM.out _)) | (go_at_call 69; exact Calls.regrown_of (ask_at _ _ _ _ S _ _ HA.out _ hr hf (HS.out.mono (below_regrown _ _ _))))))))
    refine wpQuiet_nil ?_
    intro w1 hw1
    have hb1 := below_of_regrown hw1
    have HB1 := Lib.hid hb1
    obtain ⟨bc1, bf1⟩ := bcell hb1
    have hz1 := hb1.size
    simp only [World.size_alloc] at hz1
    have hy1 : w.heap.size < w1.heap.size := by omega
    clear hb1 hw1
    go_wp2_with fail
  · go_ret2
    exact ⟨by rw [HE.out]; rfl, bTrans HB.out HB1.out⟩
  · have hnf := ok.nf
    have hnr := ok.nr
    clear bc1 bf1
    go_loopw [7] (fun i wr => ∃ d : Nat, d ≤ S.nf ∧ i = .int .i64 d ∧ S.deepTo p S.nf = S.deepTo p d ∧ Below (w.alloc (.cells #[.slice Ar S.nr cr, .slice Af S.nf cf, .int .i64 S.deep, .int .i64 S.haul, .int .i64 S.rest] 25)).heap.size (w.alloc (.cells #[.slice Ar S.nr cr, .slice Af S.nf cf, .int .i64 S.deep, .int .i64 S.haul, .int .i64 S.rest] 25)) wr) (fun i _ => (intOf i).toNat)
    case atStart => exact ⟨S.nf, Nat.le_refl _, rfl, rfl, HB1.out⟩
    case round =>
      obtain ⟨d, hd, rfl, hde, hbel⟩ := hrel
      have HD := Lib.hid hde
      have HB2 := Lib.hid hbel
      obtain ⟨bc2, bf2⟩ := bcell hbel
      have hz2 := hbel.size
      simp only [World.size_alloc] at hz2
      have hy2 : w.heap.size < wr.heap.size := hz2
      clear hde hbel
      by_cases hpos : 0 < d
      · obtain ⟨k, rfl⟩ : ∃ k, d = k + 1 := ⟨d - 1, by omega⟩
        have hp1 : (0 : Int) < ((k + 1 : Nat) : Int) := by omega
        obtain ⟨n, e, hce⟩ : ∃ n e, (S.first (k + 1)).cheapOut = (n, e) := ⟨_, _, rfl⟩
        have HCE := Lib.hid hce
        have HST := Lib.hid (deepTo_stop (p := p) hce)
        clear hce
        go_wp2_with fail
        refine (First_any _ _ _ _ S (k + 1) _ (by omega) (by omega) hd (HS.out.mono HB2.out)).mono ?_
        rintro e3 w3 ⟨⟨Ar3, p3, cr3, cf3, rfl, hS3, _, _⟩, hb3⟩
        have HS3 := Lib.hid hS3
        have HB3 := Lib.hid (bTrans HB2.out hb3)
        obtain ⟨bc3, bf3⟩ := bcell HB3.out
        have hz3 := HB3.out.size
        simp only [World.size_alloc] at hz3
        have hy3 : w.heap.size < w3.heap.size := by omega
        clear hS3 hb3 bc2 bf2 hz2 hy2
        go_wp2_with fail
        refine (refCheap_any _ _ _ _ (S.first (k + 1)) _ (show S.nr ≤ _ by omega) (show k + 1 ≤ _ by omega) HS3.out).mono ?_
        rintro e4 w4 ⟨he4, hb4⟩
        rw [HCE.out] at he4
        subst he4
        have HB4 := Lib.hid (bTrans HB3.out hb4)
        obtain ⟨bc4, bf4⟩ := bcell HB4.out
        have hz4 := HB4.out.size
        simp only [World.size_alloc] at hz4
        have hy4 : w.heap.size < w4.heap.size := by omega
        clear hb4 bc3 bf3 hz3 hy3
        rcases HST.out with ⟨rfl, hn, hdt⟩ | ⟨rfl, hn, hdt⟩ | ⟨he, hdt⟩
        · have HDT := Lib.hid hdt
          clear hdt
          go_wp2_with fail
          go_ret2
          exact ⟨by rw [HE.out, HD.out, HDT.out]; rfl, bTrans HB.out HB4.out⟩
        · have HDT := Lib.hid hdt
          clear hdt
          go_wp2_with fail
          go_roundw
          case rel => exact ⟨k, by omega, by first | rfl | go_num, by rw [HD.out, HDT.out], HB4.out⟩
          case measure => simp [intOf] <;> omega
        · have HDT := Lib.hid hdt
          clear hdt
          go_wp2_with fail
          go_roundw
          case rel => exact ⟨k, by omega, by first | rfl | go_num, by rw [HD.out, HDT.out], HB4.out⟩
          case measure => simp [intOf] <;> omega
      · obtain rfl : d = 0 := by omega
        go_wp2_with fail
        go_ret2
        exact ⟨by rw [HE.out, HD.out]; rfl, bTrans HB.out HB2.out⟩
theorem next_cases {S : Sh} (ok : S.Ok) {r : Int} (hr : inR r 0 ((S.nr : Int) - 1) = true) (h12 : S.nf ≠ 12) : ∃ n1 e1 n2 e2, S.cheapOut = (n1, e1) ∧ (S.more r).cheapOut = (n2, e2) ∧ 0 ≤ n1 ∧ n1 ≤ 4968 ∧ 0 ≤ n2 ∧ n2 ≤ 4968 ∧ ((e1 = 3 ∧ S.nextOut r = (0, 3)) ∨ (e1 = 0 ∧ e2 = 3 ∧ S.nextOut r = (0, 3)) ∨ (e1 = 0 ∧ e2 = 0 ∧ S.nextOut r = (n2 - n1, 0))) := by
  obtain ⟨h0, h1⟩ := inR_iff.1 hr
  have hnf := ok.nf
  obtain ⟨n1, e1, q1, a1, b1, c1⟩ := cheap_known ok
  obtain ⟨n2, e2, q2, a2, b2, c2⟩ := cheap_known (ok.more h0 (by omega) (by omega))
  refine ⟨n1, e1, n2, e2, q1, q2, a1, b1, a2, b2, ?_⟩
  rw [nextOut_rest ok hr h12, q1, q2]
  rcases c1 with rfl | rfl
  · rcases c2 with rfl | rfl
    · exact .inr (.inr ⟨rfl, rfl, rfl⟩)
    · exact .inr (.inl ⟨rfl, rfl, rfl⟩)
  · exact .inl ⟨rfl, rfl⟩
set_option maxHeartbeats 4000000 in
set_option maxRecDepth 100000 in
theorem refNext_any (Ar Af : Option Addr) (cr cf : Nat) (S : Sh) (r : Int) (w : World) (hr : S.nr ≤ 9223372036854775807) (hf : S.nf ≤ 9223372036854775807) (hS : ShAt w Ar Af S) :
    Calls Tryd.prog 47 #[.agg #[.slice Ar S.nr cr, .slice Af S.nf cf, .int .i64 S.deep, .int .i64 S.haul, .int .i64 S.rest], .int .i64 r] w fun e w' => e = .returned (.tuple #[.int .i64 (S.nextOut r).1, .int .i64 (S.nextOut r).2]) ∧ Below w.heap.size w w' := by
  have hb0 := bAlloc (Below.refl w.heap.size w) (.cells #[.slice Ar S.nr cr, .slice Af S.nf cf, .int .i64 S.deep, .int .i64 S.haul, .int .i64 S.rest] 25)
  have HS := Lib.hid (hS.mono hb0)
  have HB := Lib.hid hb0
  clear hS hb0
  obtain ⟨b, hb⟩ : ∃ b, inR r 0 ((S.nr : Int) - 1) = b := ⟨_, rfl⟩
  have HM := Lib.hid hb
  have hcase : ∃ x, askV S b = x ∧ ((((x : Int) != 0) = true ∧ S.nextOut r = (0, x)) ∨ (x = 0 ∧ S.Ok ∧ b = true)) := by
    rcases ask_cases (S := S) (is := b) with ⟨ok, ha⟩ | ⟨ok, rfl, ha⟩ | ⟨ok, rfl, ha⟩
    · exact ⟨20, ha, .inl ⟨rfl, nextOut_bad ok⟩⟩
    · exact ⟨1, ha, .inl ⟨rfl, nextOut_arg ok hb⟩⟩
    · exact ⟨0, ha, .inr ⟨rfl, ok, rfl⟩⟩
  obtain ⟨x, hx, hcase⟩ := hcase
  have HA := Lib.hid hx
  clear hx
  rcases hcase with ⟨hx0, he⟩ | ⟨rfl, ok, rfl⟩
  · have HE := Lib.hid he
    clear he hb
    go_enter Tryd.func47, Tryd.ntmps47
    go_wp2_with fail
    refine wp_region_quiet_below (by kernel_rfl) (by kernel_rfl) ?_
    repeat (go_big_quiet_step (((first | (go_at_call 33; exact Calls.regrown_of (isRock_b _ _ _ _ S _ _ HM.out _ hr)) | (go_at_call 69; exact Calls.regrown_of (ask_at _ _ _ _ S _ _ HA.out _ hr hf (HS.out.mono (below_regrown _ _ _))))))))
    refine wpQuiet_nil ?_
    intro w1 hw1
    have hb1 := below_of_regrown hw1
    clear hw1
    go_wp2_with fail
    go_ret2
    exact ⟨by rw [HE.out]; rfl, bTrans HB.out hb1⟩
  · have hnf := ok.nf
    have hnr := ok.nr
    by_cases h12 : S.nf = 12
    · have HE := Lib.hid (nextOut_many ok hb h12)
      have hq : ((S.nf : Int) == 12) = true := by rw [h12]; rfl
      clear hb h12
      go_enter Tryd.func47, Tryd.ntmps47
      go_wp2_with fail
      refine wp_region_quiet_below (by kernel_rfl) (by kernel_rfl) ?_
      repeat (go_big_quiet_step (((first | (go_at_call 33; exact Calls.regrown_of (isRock_b _ _ _ _ S _ _ HM.out _ hr)) | (go_at_call 69; exact Calls.regrown_of (ask_at _ _ _ _ S _ _ HA.out _ hr hf (HS.out.mono (below_regrown _ _ _))))))))
      refine wpQuiet_nil ?_
      intro w1 hw1
      have hb1 := below_of_regrown hw1
      obtain ⟨bc1, bf1⟩ := bcell hb1
      have hz1 := hb1.size
      simp only [World.size_alloc] at hz1
      have hy1 : w.heap.size < w1.heap.size := by omega
      clear hw1
      go_wp2_with fail
      go_ret2
      exact ⟨by rw [HE.out]; rfl, bTrans HB.out hb1⟩
    · have hq : ((S.nf : Int) == 12) = false := beq_eq_false_iff_ne.2 (by omega)
      obtain ⟨n1, e1, n2, e2, hc1, hc2, a1, b1, a2, b2, hcase⟩ := next_cases ok hb h12
      have HC1 := Lib.hid hc1
      have HC2 := Lib.hid hc2
      clear hb hc1 hc2
      rcases hcase with ⟨rfl, he⟩ | ⟨rfl, rfl, he⟩ | ⟨rfl, rfl, he⟩
      all_goals
        have HE := Lib.hid he
        clear he
        go_enter Tryd.func47, Tryd.ntmps47
        go_wp2_with fail
        refine wp_region_quiet_below (by kernel_rfl) (by kernel_rfl) ?_
        repeat (go_big_quiet_step (((first | (go_at_call 33; exact Calls.regrown_of (isRock_b _ _ _ _ S _ _ HM.out _ hr)) | (go_at_call 69; exact Calls.regrown_of (ask_at _ _ _ _ S _ _ HA.out _ hr hf (HS.out.mono (below_regrown _ _ _))))))))
        refine wpQuiet_nil ?_
        intro w1 hw1
        have hb1 := below_of_regrown hw1
        have HB1 := Lib.hid hb1
        obtain ⟨bc1, bf1⟩ := bcell hb1
        have hz1 := hb1.size
        simp only [World.size_alloc] at hz1
        have hy1 : w.heap.size < w1.heap.size := by omega
        clear hw1 hb1
        go_wp2_with fail
        refine (refCheap_any _ _ _ _ S _ hr hf (HS.out.mono HB1.out)).mono ?_
        rintro e w2 ⟨he2, hb2⟩
        rw [HC1.out] at he2
        subst he2
        have HB2 := Lib.hid (bTrans HB1.out hb2)
        obtain ⟨bc2, bf2⟩ := bcell HB2.out
        have hz2 := HB2.out.size
        simp only [World.size_alloc] at hz2
        have hy2 : w.heap.size < w2.heap.size := by omega
        clear hb2 bc1 bf1 hz1 hy1
        go_wp2_with fail
        refine (More_any _ _ _ _ S r _ (by omega) (by omega) (HS.out.mono HB2.out)).mono ?_
        rintro e w3 ⟨⟨Ar3, p3, cr3, cf3, rfl, hS3, _, _⟩, hb3⟩
        have HS3 := Lib.hid hS3
        have HB3 := Lib.hid (bTrans HB2.out hb3)
        clear hS3 hb3 bc2 bf2 hz2 hy2
        go_wp2_with fail
        refine (refCheap_any _ _ _ _ (S.more r) _ (show S.nr ≤ _ by omega) (show S.nf + 1 ≤ _ by omega) HS3.out).mono ?_
        rintro e w4 ⟨he4, hb4⟩
        rw [HC2.out] at he4
        subst he4
        have HB4 := Lib.hid (bTrans HB3.out hb4)
        clear hb4
        go_wp2_with fail
        go_ret2
        exact ⟨by rw [HE.out]; rfl, bTrans HB.out HB4.out⟩
set_option maxHeartbeats 8000000 in
set_option maxRecDepth 100000 in
theorem ShaftsDeep_any (Ar Af : Option Addr) (cr cf : Nat) (S : Sh) (x r : Int) (w : World) (hr : S.nr ≤ 9223372036854775807) (hf : S.nf ≤ 9223372036854775807) (_ : S.nf ≤ cf) (_ : cf ≤ 9223372036854775807) (_ : Af = none → S.nf = 0 ∧ cf = 0) (hS : ShAt w Ar Af S) (hN : NoneAt w) (_ : -9223372036854775808 ≤ x ∧ x ≤ 9223372036854775807) (_ : -9223372036854775808 ≤ r ∧ r ≤ 9223372036854775807) :
    Calls Tryd.prog 9 #[.agg #[.slice Ar S.nr cr, .slice Af S.nf cf, .int .i64 S.deep, .int .i64 S.haul, .int .i64 S.rest], .int .i64 x, .int .i64 r] w fun e w' => e = .returned (.bool true) ∧ Below w.heap.size w w' := by
  have hb0 := bAlloc (Below.refl w.heap.size w) (.cells #[.slice Ar S.nr cr, .slice Af S.nf cf, .int .i64 S.deep, .int .i64 S.haul, .int .i64 S.rest] 25)
  have HS := Lib.hid (hS.mono hb0)
  have HN := Lib.hid (hN.mono hb0)
  have HB := Lib.hid hb0
  clear hS hN hb0
  go_enter Tryd.func9, Tryd.ntmps9
  go_wp2_with fail
  refine (Far_any _ _ _ _ S _ hr hf HS.out).mono ?_
  rintro e w1 ⟨⟨bt, rfl, hbb⟩, hb1⟩
  cases bt
  · obtain ⟨h40, h41⟩ := hbb rfl
    clear hbb
    have HB1 := Lib.hid hb1
    obtain ⟨bc1, bf1⟩ := bcell hb1
    have hz1 := hb1.size
    simp only [World.size_alloc] at hz1
    have hy1 : w.heap.size < w1.heap.size := by omega
    have hgo : (((S.nf : Int) == 8) = true ∧ S.Ok) ∨ (((S.nf : Int) == 8) = true ∧ ¬ S.Ok) ∨ ((S.nf : Int) == 8) = false := by
      cases h : ((S.nf : Int) == 8)
      · exact .inr (.inr rfl)
      · by_cases ok : S.Ok
        · exact .inl ⟨rfl, ok⟩
        · exact .inr (.inl ⟨rfl, ok⟩)
    rcases hgo with ⟨h8, ok⟩ | ⟨h8, ok⟩ | h8
    case' inl =>
      clear hb1
      go_wp2_with fail
      refine (refCheck_any _ _ _ _ S _ hr hf (HS.out.mono HB1.out)).mono ?_
      rintro e w2 ⟨he2, hb2⟩
      rw [Sh.err_ok ok] at he2
      subst he2
      go_wp2_with fail
      refine (works_any _ ((HN.out.mono HB1.out).mono hb2)).mono ?_
      rintro e w3 ⟨rfl, hb3⟩
      go_wp2_with fail
      go_ret
      exact ⟨rfl, bTrans HB.out (bTrans HB1.out (bTrans hb2 hb3))⟩
    case' inr.inl =>
      clear hb1
      go_wp2_with fail
      refine (refCheck_any _ _ _ _ S _ hr hf (HS.out.mono HB1.out)).mono ?_
      rintro e w2 ⟨he2, hb2⟩
      rw [Sh.err_bad ok] at he2
      subst he2
      have hb1 := bTrans HB1.out hb2
      clear hb2 bc1 bf1 hz1 hy1 HB1
      obtain ⟨bc1, bf1⟩ := bcell hb1
      have hz1 := hb1.size
      simp only [World.size_alloc] at hz1
      have hy1 : w.heap.size < w2.heap.size := by omega
      have HB1 : True := trivial
      go_wp2_with fail
    case' inr.inr => go_wp2_with fail
    all_goals
      clear HB1
      refine (Copy_any _ _ _ _ S _ (by omega) (by omega) (HS.out.mono hb1)).mono ?_
      rintro e w2 ⟨⟨A2, F2, c2, d2, rfl, hS2, hFr, hFf⟩, hb2⟩
      have HB2 := Lib.hid (Below.refl (w2.alloc (.cells #[.slice A2 S.nr c2, .slice F2 S.nf d2, .int .i64 S.deep, .int .i64 S.haul, .int .i64 S.rest] 25)).heap.size (w2.alloc (.cells #[.slice A2 S.nr c2, .slice F2 S.nf d2, .int .i64 S.deep, .int .i64 S.haul, .int .i64 S.rest] 25)))
      have HB0 := Lib.hid (bTrans HB.out (bTrans (bTrans hb1 hb2) (bAlloc (Below.refl _ _) (.cells #[.slice A2 S.nr c2, .slice F2 S.nf d2, .int .i64 S.deep, .int .i64 S.haul, .int .i64 S.rest] 25))))
      have HBx := Lib.hid (bTrans (bTrans hb1 hb2) (bAlloc (Below.refl _ _) (.cells #[.slice A2 S.nr c2, .slice F2 S.nf d2, .int .i64 S.deep, .int .i64 S.haul, .int .i64 S.rest] 25)))
      have HS2 := Lib.hid (hS2.mono (bAlloc (Below.refl _ _) (.cells #[.slice A2 S.nr c2, .slice F2 S.nf d2, .int .i64 S.deep, .int .i64 S.haul, .int .i64 S.rest] 25)))
      have HO2 := Lib.hid ((HS.out.mono (bTrans hb1 hb2)).mono (bAlloc (Below.refl _ _) (.cells #[.slice A2 S.nr c2, .slice F2 S.nf d2, .int .i64 S.deep, .int .i64 S.haul, .int .i64 S.rest] 25)))
      have HN2 := Lib.hid ((HN.out.mono (bTrans hb1 hb2)).mono (bAlloc (Below.refl _ _) (.cells #[.slice A2 S.nr c2, .slice F2 S.nf d2, .int .i64 S.deep, .int .i64 S.haul, .int .i64 S.rest] 25)))
      obtain ⟨bc2, bf2⟩ := bcell (bTrans hb1 hb2)
      have hz2 := (bTrans hb1 hb2).size
      simp only [World.size_alloc] at hz2
      have hy2 : w.heap.size < w2.heap.size := by omega
      have hx2 : True := trivial
      have HFR := Lib.hid hFr
      have HFF := Lib.hid hFf
      clear hb1 hb2 bc1 bf1 hz1 hy1 hS2 hFr hFf
      go_wp2_with fail
      have HB3 := Lib.hid HB2.out
      have HS3 := Lib.hid HS2.out
      have HO3 := Lib.hid HO2.out
      have HN3 := Lib.hid HN2.out
      have bc3 : True := trivial
      have bf3 : True := trivial
      have hz3 : True := trivial
      have hy3 : True := trivial
      have hx3 : True := trivial
      clear HS2 HO2 HN2
      obtain ⟨p, q, hp⟩ : ∃ p q, S.deepOut x = (p, q) := ⟨_, _, rfl⟩
      obtain ⟨u, v, hu⟩ : ∃ u v, S.nextOut r = (u, v) := ⟨_, _, rfl⟩
      have HP := Lib.hid hp
      have HU := Lib.hid hu
      clear hp hu
      refine (Deep_any _ _ _ _ S x _ hr hf HFF.out.1 HFF.out.2.1 HS3.out HN3.out).mono ?_
      rintro e w4 ⟨he4, hb4⟩
      rw [HP.out] at he4; subst he4
      have HB4 := Lib.hid (bTrans HB3.out hb4)
      have HS4 := Lib.hid (HS3.out.mono hb4)
      have HO4 := Lib.hid (HO3.out.mono hb4)
      have HN4 := Lib.hid (HN3.out.mono hb4)
      obtain ⟨bc4, bf4⟩ := bcell HB4.out
      have hz4 := HB4.out.size
      simp only [World.size_alloc] at hz4
      have hy4 : w.heap.size < w4.heap.size := by omega
      have hx4 : w2.heap.size < w4.heap.size := by omega
      clear hb4 bc3 bf3 hz3 hy3 hx3 HB3 HS3 HO3 HN3
      go_wp2_with fail
      refine (refDeep_any _ _ _ _ S x _ hr hf HO4.out).mono ?_
      rintro e w5 ⟨he5, hb5⟩
      rw [HP.out] at he5; subst he5
      have HB5 := Lib.hid (bTrans HB4.out hb5)
      have HS5 := Lib.hid (HS4.out.mono hb5)
      have HO5 := Lib.hid (HO4.out.mono hb5)
      have HN5 := Lib.hid (HN4.out.mono hb5)
      obtain ⟨bc5, bf5⟩ := bcell HB5.out
      have hz5 := HB5.out.size
      simp only [World.size_alloc] at hz5
      have hy5 : w.heap.size < w5.heap.size := by omega
      have hx5 : w2.heap.size < w5.heap.size := by omega
      clear hb5 bc4 bf4 hz4 hy4 hx4 HB4 HS4 HO4 HN4
      go_wp2_with fail
      refine (Next_any _ _ _ _ S r _ hr hf HFF.out.1 HFF.out.2.1 (fun e => absurd e HFF.out.ne) HS5.out HN5.out).mono ?_
      rintro e w6 ⟨he6, hb6⟩
      rw [HU.out] at he6; subst he6
      have HB6 := Lib.hid (bTrans HB5.out hb6)
      have HS6 := Lib.hid (HS5.out.mono hb6)
      have HO6 := Lib.hid (HO5.out.mono hb6)
      have HN6 := Lib.hid (HN5.out.mono hb6)
      obtain ⟨bc6, bf6⟩ := bcell HB6.out
      have hz6 := HB6.out.size
      simp only [World.size_alloc] at hz6
      have hy6 : w.heap.size < w6.heap.size := by omega
      have hx6 : w2.heap.size < w6.heap.size := by omega
      clear hb6 bc5 bf5 hz5 hy5 hx5 HB5 HS5 HO5 HN5
      go_wp2_with fail
      refine (refNext_any _ _ _ _ S r _ hr hf HO6.out).mono ?_
      rintro e w7 ⟨he7, hb7⟩
      rw [HU.out] at he7; subst he7
      have HB7 := Lib.hid (bTrans HB6.out hb7)
      have HS7 := Lib.hid (HS6.out.mono hb7)
      have HO7 := Lib.hid (HO6.out.mono hb7)
      have HN7 := Lib.hid (HN6.out.mono hb7)
      obtain ⟨bc7, bf7⟩ := bcell HB7.out
      have hz7 := HB7.out.size
      simp only [World.size_alloc] at hz7
      have hy7 : w.heap.size < w7.heap.size := by omega
      have hx7 : w2.heap.size < w7.heap.size := by omega
      clear hb7 bc6 bf6 hz6 hy6 hx6 HB6 HS6 HO6 HN6
      go_wp2_with fail
      refine (Same_true _ _ _ _ _ _ _ _ S _ (by omega) (by omega) HS7.out HO7.out).mono ?_
      rintro e w8 ⟨he8, hb8⟩
      subst he8
      have HB8 := Lib.hid (bTrans HB7.out hb8)
      have HS8 := Lib.hid (HS7.out.mono hb8)
      have HO8 := Lib.hid (HO7.out.mono hb8)
      have HN8 := Lib.hid (HN7.out.mono hb8)
      obtain ⟨bc8, bf8⟩ := bcell HB8.out
      have hz8 := HB8.out.size
      simp only [World.size_alloc] at hz8
      have hy8 : w.heap.size < w8.heap.size := by omega
      have hx8 : w2.heap.size < w8.heap.size := by omega
      clear hb8 bc7 bf7 hz7 hy7 hx7 HB7 HS7 HO7 HN7
      go_wp2_with fail
      refine (works_any _ HN8.out).mono ?_
      rintro e w9 ⟨rfl, hb9⟩
      go_wp2_with fail
      go_ret
      exact ⟨rfl, bTrans (bTrans HB0.out HB8.out) hb9⟩
  · clear hbb
    go_wp2_with fail
    refine (works_any _ (HN.out.mono hb1)).mono ?_
    rintro e w2 ⟨rfl, hb2⟩
    go_wp2_with fail
    go_ret
    exact ⟨rfl, bTrans HB.out (bTrans hb1 hb2)⟩
end Go.Proofs.YtbbnpneabmldnaaDoor
