/- The statement QuarrelsCover: the walk, lifted to the row, and to the card. No condition. -/
import Derived.Test.YtchhodikgllgnaaDoorCards
import Derived.Test.YtchhodikgllgnaaDoorNQK
import Derived.Test.YtchhodikgllgnaaDoorNQT
set_option linter.unusedSimpArgs false
set_option linter.unusedVariables false
namespace Go.Proofs.YtchhodikgllgnaaDoor
open Go.RowKit Go.Sort Go.ChangeShapes Go.WideShapes Go.ChangeAt Go.Deep
set_option maxRecDepth 100000 in
theorem quarrelsCover_lifted (os : Os) (started : os.Started) (H : Type) (enc : TypeId × Value → H) :
    ReturnsInHanded {} Tryd.checked os 4 .any (fun w args => (Rows.quarrelsCoverSpec.pre enc Tryd.prog Tryd.f4 [] false w args ∧ laidMetH Tryd.prog [("math/bits.deBruijn32tab", Rows.laid_math_bits_deBruijn32tab), ("math/bits.deBruijn64tab", Rows.laid_math_bits_deBruijn64tab)] w) ∧ sizedMet enc Tryd.prog Tryd.f4 (OpenSpec.ofChange Rows.quarrelsCoverSpec) false w args)
      (Rows.quarrelsCoverSpec.post enc Tryd.prog Tryd.f4 false true false false) := by
  refine returnsInHanded_of_change_and (C := Tryd.checked) (X := fun w _ => laidMetH Tryd.prog [("math/bits.deBruijn32tab", Rows.laid_math_bits_deBruijn32tab), ("math/bits.deBruijn64tab", Rows.laid_math_bits_deBruijn64tab)] w) (fun _ _ _ hh h => h.of_heap hh) ownK started (by kernel_rfl) Tryd.func4
    (ChangeSpec.witness_shaped (enc := enc) (C := Tryd.checked) (os := os) (X := fun w _ => laidMetH Tryd.prog [("math/bits.deBruijn32tab", Rows.laid_math_bits_deBruijn32tab), ("math/bits.deBruijn64tab", Rows.laid_math_bits_deBruijn64tab)] w) false (World.doorLaid Tryd.prog 400 os) #[.agg #[.int .i64 0, .slice none 0 0, .slice none 0 0], .slice none 0 0] 8 rfl (World.shaped_of_RefB (by kernel_rfl) (by kernel_rfl)) (by kernel_rfl) (by kernel_rfl) (by kernel_rfl) (door_met os _)) ?_
  intro W base args ds gs before hval0 hW _ hz hL _
  have hval : ∀ (j : Nat) t v, Tryd.f4.params[j]? = some t → args[j]? = some v → Value.okWide Tryd.prog W .any base t v := hval0
  have hW' := hW
  obtain ⟨p, q, hA0, hV, rfl, hfz, hnd⟩ := hW
  have hA : DataW.TrodAll enc Tryd.prog W 0 (fun _ => true) true Tryd.f4.params.toList args.toList ds p := hA0
  have hz : (DataW.weightsEach Tryd.prog (Tryd.f4.params.toList ++ Rows.quarrelsCoverSpec.plain.varTypes Tryd.prog) (ds ++ gs)).all (· ≤ reachBytes) = true := hz
  rw [Tryd.params4] at hA hval hz
  obtain ⟨v0, v1, d0, d1, p0, p1, rfl, rfl, rfl, h0, h1⟩ := trodAll_two hA
  obtain ⟨rfl, rfl⟩ := trodVars_none hV
  obtain ⟨Aw, Af, cw, cf, t, rfl, hT, hFit, hW0, hs, hl⟩ := town_in (hval 0 25 v0 rfl rfl) (fit_arg (t := 25) hz (j := 0) rfl rfl) h0
  obtain ⟨A1, n1, k1, y1, rfl, hI1, hS1, hN1⟩ := tests_in Tryd.underlying34 Tryd.underlying27 (by kernel_rfl) Tryd.underlying3 (by kernel_rfl) (hval 1 34 v1 rfl rfl) (fit_arg (t := 34) hz (j := 1) rfl rfl) h1
  have hB := tab_of_laid hL
  refine (quarrelsCover_any Aw Af cw cf t A1 n1 k1 y1 W hFit hT hB hI1 (by omega)).mono fun e W' ⟨he, hb⟩ => ?_
  subst he
  refine ⟨_, rfl, post_law laidOutP rfl Tryd.underlying4 rfl ?_ rfl hW' hb⟩
  rw [Tryd.params4]
  have hall : ([25, 34].all fun t => Tryd.prog.readableRec t && decide (t < Tryd.prog.types.size)) = true := by kernel_rfl
  intro t ht
  have := List.all_eq_true.1 hall t (by simpa using ht)
  simp only [Bool.and_eq_true, decide_eq_true_eq] at this
  exact this
theorem quarrelsCover_holds : Rows.QuarrelsCoverSaid :=
  OpenClaim.holds_of_wide 4 Tryd.f4 rfl rfl rfl rfl rfl rfl rfl ⟨rfl, rfl, rfl, rfl, rfl⟩ rfl rfl rfl rfl rfl (by kernel_rfl) Tryd.func4 (by kernel_rfl)
    (of_decide_eq_true (by kernel_rfl)) (by unfold Func.isWrapper; first | (rw [if_pos (by decide +kernel)]; kernel_rfl) | (rw [if_neg (by decide +kernel)]; exact ⟨rfl, rfl⟩))
    (fun os started H enc _ => quarrelsCover_lifted os started H enc)
theorem quarrelsCover_card : Rows.QuarrelsCoverCardSaid :=
  Claim7.holds_tied_plain_at .later [] [.data, .data] true (true, "22a196eec62d511e5b3c4d253aea39b08e3e8bd515ae105b94aa2b8457dcb743") false
    quarrelsCover_holds (fun _ h => by cases h) (by kernel_rfl) (fun _ h => by cases h) quarrelsCover_row_tie rfl ⟨rfl, rfl⟩ (by kernel_rfl) rfl
    (fun f fn hf hfn => by
      obtain rfl : f = 4 := Option.some.inj ((show Tryd.prog.funcNamed "steening/steeninglaw05.QuarrelsCover" = some 4 by kernel_rfl).symm.trans hf) |>.symm
      obtain rfl : fn = Tryd.f4 := (Option.some.inj (Tryd.func4.symm.trans hfn)).symm
      exact ⟨by kernel_rfl, fun j t ht => by
        rw [Tryd.params4] at ht
        have hm : t ∈ [25, 34] := by simpa using Array.mem_of_getElem? ht
        have hall : ([25, 34].all fun u => !Tryd.prog.wantsStandIn u) = true := by kernel_rfl
        exact (show Tryd.prog.wantsStandIn t = false by simpa using List.all_eq_true.1 hall t hm)⟩)
    (by kernel_rfl)
#print axioms quarrelsCover_card
end Go.Proofs.YtchhodikgllgnaaDoor
