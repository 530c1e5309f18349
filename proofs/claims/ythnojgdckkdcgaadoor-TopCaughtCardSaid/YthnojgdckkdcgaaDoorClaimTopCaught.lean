/- The statement TopCaught: the walk, lifted to the row, and to the card. No condition. -/
import Derived.Test.YthnojgdckkdcgaaDoorCards
import Derived.Test.YthnojgdckkdcgaaDoorNCA
import Derived.Test.YthnojgdckkdcgaaDoorNCB
import Derived.Test.YthnojgdckkdcgaaDoorNCC
import Derived.Test.YthnojgdckkdcgaaDoorNCD
import Derived.Test.YthnojgdckkdcgaaDoorNCE
import Derived.Test.YthnojgdckkdcgaaDoorNCF
import Derived.Test.YthnojgdckkdcgaaDoorNCG
import Derived.Test.YthnojgdckkdcgaaDoorNCH
import Derived.Test.YthnojgdckkdcgaaDoorNCI
import Derived.Test.YthnojgdckkdcgaaDoorNCJ
import Derived.Test.YthnojgdckkdcgaaDoorNCK
import Derived.Test.YthnojgdckkdcgaaDoorNCL
import Derived.Test.YthnojgdckkdcgaaDoorNCM
import Derived.Test.YthnojgdckkdcgaaDoorNCN
import Derived.Test.YthnojgdckkdcgaaDoorNCO
set_option linter.unusedSimpArgs false
set_option linter.unusedVariables false
namespace Go.Proofs.YthnojgdckkdcgaaDoor
open Go.RowKit Go.Sort Go.ChangeShapes Go.WideShapes Go.ChangeAt Go.Deep
set_option maxRecDepth 100000 in
theorem topCaught_lifted (os : Os) (started : os.Started) (H : Type) (enc : TypeId × Value → H) :
    ReturnsInHanded {} Tryd.checked os 3 .any (fun w args => (Rows.topCaughtSpec.pre enc Tryd.prog Tryd.f3 [] false w args ∧ laidMetH Tryd.prog [("math/bits.deBruijn32tab", Rows.laid_math_bits_deBruijn32tab), ("math/bits.deBruijn64tab", Rows.laid_math_bits_deBruijn64tab)] w) ∧ sizedMet enc Tryd.prog Tryd.f3 (OpenSpec.ofChange Rows.topCaughtSpec) false w args)
      (Rows.topCaughtSpec.post enc Tryd.prog Tryd.f3 false true false false) := by
  refine returnsInHanded_of_change_and (C := Tryd.checked) (X := fun w _ => laidMetH Tryd.prog [("math/bits.deBruijn32tab", Rows.laid_math_bits_deBruijn32tab), ("math/bits.deBruijn64tab", Rows.laid_math_bits_deBruijn64tab)] w) (fun _ _ _ hh h => h.of_heap hh) ownK started (by kernel_rfl) Tryd.func3
    (ChangeSpec.witness_shaped (enc := enc) (C := Tryd.checked) (os := os) (X := fun w _ => laidMetH Tryd.prog [("math/bits.deBruijn32tab", Rows.laid_math_bits_deBruijn32tab), ("math/bits.deBruijn64tab", Rows.laid_math_bits_deBruijn64tab)] w) false (World.doorLaid Tryd.prog 400 os) #[.agg #[.slice none 0 0, .slice none 0 0], .int .i64 0] 8 rfl (World.shaped_of_RefB (by kernel_rfl) (by kernel_rfl)) (by kernel_rfl) (by kernel_rfl) (by kernel_rfl) (door_met os _)) ?_
  intro W base args ds gs before hval0 hW _ hz hL _
  have hval : ∀ (j : Nat) t v, Tryd.f3.params[j]? = some t → args[j]? = some v → Value.okWide Tryd.prog W .any base t v := hval0
  have hW' := hW
  obtain ⟨p, q, hA0, hV, rfl, hfz, hnd⟩ := hW
  have hA : DataW.TrodAll enc Tryd.prog W 0 (fun _ => true) true Tryd.f3.params.toList args.toList ds p := hA0
  have hz : (DataW.weightsEach Tryd.prog (Tryd.f3.params.toList ++ Rows.topCaughtSpec.plain.varTypes Tryd.prog) (ds ++ gs)).all (· ≤ reachBytes) = true := hz
  rw [Tryd.params3] at hA hval hz
  obtain ⟨v0, v1, d0, d1, p0, p1, rfl, rfl, rfl, h0, h1⟩ := trodAll_two hA
  obtain ⟨rfl, rfl⟩ := trodVars_none hV
  obtain ⟨Ap, Ao, cp, co, y, rfl, hT, hFit⟩ := duct_in (hval 0 25 v0 rfl rfl) (fit_arg (t := 25) hz (j := 0) rfl rfl) h0
  obtain ⟨x1, rfl, _, _, wx1⟩ := open_int Tryd.underlying3 (hval 1 3 v1 rfl rfl) h1
  obtain ⟨lx1, ux1⟩ := int_wf wx1
  have hB := tab_of_laid hL
  refine (topCaught_any Ap Ao cp co y x1 W hFit hT hB).mono fun e W' ⟨he, hb⟩ => ?_
  subst he
  refine ⟨_, rfl, post_law laidOutP rfl Tryd.underlying4 rfl ?_ rfl hW' hb⟩
  rw [Tryd.params3]
  have hall : ([25, 3].all fun t => Tryd.prog.readableRec t && decide (t < Tryd.prog.types.size)) = true := by kernel_rfl
  intro t ht
  have := List.all_eq_true.1 hall t (by simpa using ht)
  simp only [Bool.and_eq_true, decide_eq_true_eq] at this
  exact this
theorem topCaught_holds : Rows.TopCaughtSaid :=
  OpenClaim.holds_of_wide 3 Tryd.f3 rfl rfl rfl rfl rfl rfl rfl ⟨rfl, rfl, rfl, rfl, rfl⟩ rfl rfl rfl rfl rfl (by kernel_rfl) Tryd.func3 (by kernel_rfl)
    (of_decide_eq_true (by kernel_rfl)) (by unfold Func.isWrapper; first | (rw [if_pos (by decide +kernel)]; kernel_rfl) | (rw [if_neg (by decide +kernel)]; exact ⟨rfl, rfl⟩))
    (fun os started H enc _ => topCaught_lifted os started H enc)
theorem topCaught_card : Rows.TopCaughtCardSaid :=
  Claim7.holds_tied_plain_at .later [] [.data, .data] true (true, "3148783cb98051df318a8e4787213c7e8c1f48aa460869dfddbe25dcabea8b5b") false
    topCaught_holds (fun _ h => by cases h) (by kernel_rfl) (fun _ h => by cases h) topCaught_row_tie rfl ⟨rfl, rfl⟩ (by kernel_rfl) rfl
    (fun f fn hf hfn => by
      obtain rfl : f = 3 := Option.some.inj ((show Tryd.prog.funcNamed "steening/steeningtop.TopCaught" = some 3 by kernel_rfl).symm.trans hf) |>.symm
      obtain rfl : fn = Tryd.f3 := (Option.some.inj (Tryd.func3.symm.trans hfn)).symm
      exact ⟨by kernel_rfl, fun j t ht => by
        rw [Tryd.params3] at ht
        have hm : t ∈ [25, 3] := by simpa using Array.mem_of_getElem? ht
        have hall : ([25, 3].all fun u => !Tryd.prog.wantsStandIn u) = true := by kernel_rfl
        exact (show Tryd.prog.wantsStandIn t = false by simpa using List.all_eq_true.1 hall t hm)⟩)
    (by kernel_rfl)
#print axioms topCaught_card
end Go.Proofs.YthnojgdckkdcgaaDoor
