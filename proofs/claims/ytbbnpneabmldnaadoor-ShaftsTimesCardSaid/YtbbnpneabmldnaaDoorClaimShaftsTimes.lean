/- The statement ShaftsTimes: the walk, lifted to the row, and to the card. No condition. -/
import Derived.Test.YtbbnpneabmldnaaDoorCards
import Derived.Test.YtbbnpneabmldnaaDoorLawFrameB
import Derived.Test.YtbbnpneabmldnaaDoorLawX
namespace Go.Proofs.YtbbnpneabmldnaaDoor
open Go.RowKit Go.Sort Go.ChangeShapes Go.WideShapes Go.ChangeAt Go.Deep
set_option maxRecDepth 100000 in
theorem shaftsTimes_lifted (os : Os) (started : os.Started) (H : Type) (enc : TypeId × Value → H) :
    ReturnsInHanded {} Tryd.checked os 5 .any (fun w args => (Rows.shaftsTimesSpec.pre enc Tryd.prog Tryd.f5 [] false w args ∧ laidMetH Tryd.prog [("steening/shafts.none", Rows.laid_steening_shafts_none)] w) ∧ sizedMet enc Tryd.prog Tryd.f5 (OpenSpec.ofChange Rows.shaftsTimesSpec) false w args)
      (Rows.shaftsTimesSpec.post enc Tryd.prog Tryd.f5 false true false false) := by
  refine returnsInHanded_of_change_and (C := Tryd.checked) (X := fun w _ => laidMetH Tryd.prog [("steening/shafts.none", Rows.laid_steening_shafts_none)] w) (fun _ _ _ hh h => h.of_heap hh) ownK started (by kernel_rfl) Tryd.func5
    (ChangeSpec.witness_shaped (enc := enc) (C := Tryd.checked) (os := os) (X := fun w _ => laidMetH Tryd.prog [("steening/shafts.none", Rows.laid_steening_shafts_none)] w) false (World.doorLaid Tryd.prog 400 os) #[.agg #[.slice none 0 0, .slice none 0 0, .int .i64 0, .int .i64 0, .int .i64 0], .agg #[.int .i64 0, .int .i64 0, .int .i64 0]] 8 rfl (World.shaped_of_RefB (by kernel_rfl) (by kernel_rfl)) (by kernel_rfl) (by kernel_rfl) (by kernel_rfl) (door_met os _)) ?_
  intro W base args ds gs before hval0 hW _ _ hL _
  have hval : ∀ (j : Nat) t v, Tryd.f5.params[j]? = some t → args[j]? = some v → Value.okWide Tryd.prog W .any base t v := hval0
  have hW' := hW
  obtain ⟨p, q, hA0, hV, rfl, hfz, hnd⟩ := hW
  have hA : DataW.TrodAll enc Tryd.prog W 0 (fun _ => true) true Tryd.f5.params.toList args.toList ds p := hA0
  rw [Tryd.params5] at hA hval
  obtain ⟨v0, v1, d0, d1, p0, p1, rfl, rfl, rfl, h0, h1⟩ := trodAll_two hA
  obtain ⟨rfl, rfl⟩ := trodVars_none hV
  obtain ⟨Ar, Af, cr, cf, S, rfl, hS, hr, hf⟩ := shaft_in (hval 0 25 v0 rfl rfl) h0
  obtain ⟨y0, y1, y2, rfl, wy0, wy1, wy2⟩ := struct3_in Tryd.underlying43 (by kernel_rfl) Tryd.underlying3 (hval 1 43 v1 rfl rfl) h1
  have hN := none_of_laid hL
  refine (ShaftsTimes_any Ar Af cr cf S y0 y1 y2 W (Nat.le_trans hr.1 hr.2.1) (Nat.le_trans hf.1 hf.2.1) hf.1 hf.2.1 hf.2.2 hS hN wy0 wy1 wy2).mono fun e W' ⟨he, hb⟩ => ?_
  subst he
  refine ⟨_, rfl, post_law laidOutP rfl Tryd.underlying4 rfl ?_ rfl hW' hb⟩
  rw [Tryd.params5]
  have hall : ([25, 43].all fun t => Tryd.prog.readableRec t && decide (t < Tryd.prog.types.size)) = true := by kernel_rfl
  intro t ht
  have := List.all_eq_true.1 hall t (by simpa using ht)
  simp only [Bool.and_eq_true, decide_eq_true_eq] at this
  exact this
theorem shaftsTimes_holds : Rows.ShaftsTimesSaid :=
  OpenClaim.holds_of_wide 5 Tryd.f5 rfl rfl rfl rfl rfl rfl rfl ⟨rfl, rfl, rfl, rfl, rfl⟩ rfl rfl rfl rfl rfl (by kernel_rfl) Tryd.func5 (by kernel_rfl)
    (of_decide_eq_true (by kernel_rfl)) (by unfold Func.isWrapper; first | (rw [if_pos (by decide +kernel)]; kernel_rfl) | (rw [if_neg (by decide +kernel)]; exact ⟨rfl, rfl⟩))
    (fun os started H enc _ => shaftsTimes_lifted os started H enc)
theorem shaftsTimes_card : Rows.ShaftsTimesCardSaid :=
  Claim7.holds_tied_plain_at .later [] [.data] true (true, "a79b833ad5c74cbea164e392a64e78eeb51d8a43487005101e289f4b9e7d22dc") false
    shaftsTimes_holds (fun _ h => by cases h) (by kernel_rfl) (fun _ h => by cases h) shaftsTimes_row_tie rfl ⟨rfl, rfl⟩ (by kernel_rfl) rfl
    (fun f fn hf hfn => by
      obtain rfl : f = 5 := Option.some.inj ((show Tryd.prog.funcNamed "steening/steeninglaw02.ShaftsTimes" = some 5 by kernel_rfl).symm.trans hf) |>.symm
      obtain rfl : fn = Tryd.f5 := (Option.some.inj (Tryd.func5.symm.trans hfn)).symm
      exact ⟨by kernel_rfl, fun j t ht => by
        rw [Tryd.params5] at ht
        have hm : t ∈ [25, 43] := by simpa using Array.mem_of_getElem? ht
        have hall : ([25, 43].all fun u => !Tryd.prog.wantsStandIn u) = true := by kernel_rfl
        exact (show Tryd.prog.wantsStandIn t = false by simpa using List.all_eq_true.1 hall t hm)⟩)
    (by kernel_rfl)
#print axioms shaftsTimes_card
end Go.Proofs.YtbbnpneabmldnaaDoor
