/- The statement TopReached: the walk, lifted to the row, and to the card. No condition. -/
import Derived.Test.YtdboicnlkbnbnaaDoorCards
import Derived.Test.YtdboicnlkbnbnaaDoorFrame
namespace Go.Proofs.YtdboicnlkbnbnaaDoor
open Go.RowKit Go.Sort Go.ChangeShapes Go.WideShapes Go.ChangeAt Go.Deep
set_option maxRecDepth 100000 in
theorem topReached_lifted (os : Os) (started : os.Started) (H : Type) (enc : TypeId × Value → H) :
    ReturnsInHanded {} Tryd.checked os 3 .any (fun w args => (Rows.topReachedSpec.pre enc Tryd.prog Tryd.f3 [] false w args ∧ laidMetH Tryd.prog [("steening/shafts.none", Rows.laid_steening_shafts_none)] w) ∧ sizedMet enc Tryd.prog Tryd.f3 (OpenSpec.ofChange Rows.topReachedSpec) false w args)
      (Rows.topReachedSpec.post enc Tryd.prog Tryd.f3 false true false false) := by
  refine returnsInHanded_of_change_and (C := Tryd.checked) (X := fun w _ => laidMetH Tryd.prog [("steening/shafts.none", Rows.laid_steening_shafts_none)] w) (fun _ _ _ hh h => h.of_heap hh) ownK started (by kernel_rfl) Tryd.func3
    (ChangeSpec.witness_shaped (enc := enc) (C := Tryd.checked) (os := os) (X := fun w _ => laidMetH Tryd.prog [("steening/shafts.none", Rows.laid_steening_shafts_none)] w) false (World.doorLaid Tryd.prog 400 os) #[.agg #[.int .i64 0, .slice none 0 0, .slice none 0 0], .agg #[.slice none 0 0, .slice none 0 0, .int .i64 0, .int .i64 0, .int .i64 0], .agg #[.int .i64 0, .slice none 0 0, .int .i64 0, .int .i64 0, .int .i64 0]] 8 rfl (World.shaped_of_RefB (by kernel_rfl) (by kernel_rfl)) (by kernel_rfl) (by kernel_rfl) (by kernel_rfl) (door_met os _)) ?_
  intro W base args ds gs before hval0 hW _ _ hL _
  have hval : ∀ (j : Nat) t v, Tryd.f3.params[j]? = some t → args[j]? = some v → Value.okWide Tryd.prog W .any base t v := hval0
  have hW' := hW
  obtain ⟨p, q, hA0, hV, rfl, hfz, hnd⟩ := hW
  have hA : DataW.TrodAll enc Tryd.prog W 0 (fun _ => true) true Tryd.f3.params.toList args.toList ds p := hA0
  rw [Tryd.params3] at hA hval
  obtain ⟨v0, v1, v2, d0, d1, d2, p0, p1, p2, rfl, rfl, rfl, h0, h1, h2⟩ := trodAll_three hA
  obtain ⟨rfl, rfl⟩ := trodVars_none hV
  obtain ⟨As, Al, cs, cl, t, rfl, hT, hs, hl⟩ := lv_in (hval 0 25 v0 rfl rfl) h0
  obtain ⟨Ar, Af, cr, cf, S, rfl, hS, hr, hf⟩ := shaft_in (hval 1 29 v1 rfl rfl) h1
  obtain ⟨well, Ax, nx, cx, g, sd, rfl, hX, hx⟩ := reach_in (hval 2 33 v2 rfl rfl) h2
  have hN := none_of_laid hL
  refine (TopReached_any As Al cs cl t Ar Af cr cf S Ax nx cx g well sd W (Nat.le_trans hs.1 hs.2.1) (Nat.le_trans hl.1 hl.2.1) (Nat.le_trans hr.1 hr.2.1) (Nat.le_trans hf.1 hf.2.1) (Nat.le_trans hx.1 hx.2.1) hT hS hX hN).mono fun e W' ⟨he, hb⟩ => ?_
  subst he
  refine ⟨_, rfl, post_law laidOutP rfl Tryd.underlying4 rfl ?_ rfl hW' hb⟩
  rw [Tryd.params3]
  have hall : ([25, 29, 33].all fun t => Tryd.prog.readableRec t && decide (t < Tryd.prog.types.size)) = true := by kernel_rfl
  intro t ht
  have := List.all_eq_true.1 hall t (by simpa using ht)
  simp only [Bool.and_eq_true, decide_eq_true_eq] at this
  exact this
theorem topReached_holds : Rows.TopReachedSaid :=
  OpenClaim.holds_of_wide 3 Tryd.f3 rfl rfl rfl rfl rfl rfl rfl ⟨rfl, rfl, rfl, rfl, rfl⟩ rfl rfl rfl rfl rfl (by kernel_rfl) Tryd.func3 (by kernel_rfl)
    (of_decide_eq_true (by kernel_rfl)) (by unfold Func.isWrapper; first | (rw [if_pos (by decide +kernel)]; kernel_rfl) | (rw [if_neg (by decide +kernel)]; exact ⟨rfl, rfl⟩))
    (fun os started H enc _ => topReached_lifted os started H enc)
theorem topReached_card : Rows.TopReachedCardSaid :=
  Claim7.holds_tied_plain_at .later [] [.data] true (true, "a4fe78a3b8532fe99870d9c87874a56a12f077dcaa8121d62cd264199cafe349") false
    topReached_holds (fun _ h => by cases h) (by kernel_rfl) (fun _ h => by cases h) topReached_row_tie rfl ⟨rfl, rfl⟩ (by kernel_rfl) rfl
    (fun f fn hf hfn => by
      obtain rfl : f = 3 := Option.some.inj ((show Tryd.prog.funcNamed "steening/steeningtop.TopReached" = some 3 by kernel_rfl).symm.trans hf) |>.symm
      obtain rfl : fn = Tryd.f3 := (Option.some.inj (Tryd.func3.symm.trans hfn)).symm
      exact ⟨by kernel_rfl, fun j t ht => by
        rw [Tryd.params3] at ht
        have hm : t ∈ [25, 29, 33] := by simpa using Array.mem_of_getElem? ht
        have hall : ([25, 29, 33].all fun u => !Tryd.prog.wantsStandIn u) = true := by kernel_rfl
        exact (show Tryd.prog.wantsStandIn t = false by simpa using List.all_eq_true.1 hall t hm)⟩)
    (by kernel_rfl)
#print axioms topReached_card
end Go.Proofs.YtdboicnlkbnbnaaDoor
