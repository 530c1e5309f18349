/- The statement TopTwoBooks: the walk, lifted to the row, and to the card. No condition. -/
import Derived.Test.YtifkjnmnflhnoaaGreatDoorCards
import Derived.Test.YtifkjnmnflhnoaaGreatDoorNBA
import Derived.Test.YtifkjnmnflhnoaaGreatDoorNBB
import Derived.Test.YtifkjnmnflhnoaaGreatDoorNBC
import Derived.Test.YtifkjnmnflhnoaaGreatDoorNBD
import Derived.Test.YtifkjnmnflhnoaaGreatDoorNBE
import Derived.Test.YtifkjnmnflhnoaaGreatDoorNBF
import Derived.Test.YtifkjnmnflhnoaaGreatDoorNBG
import Derived.Test.YtifkjnmnflhnoaaGreatDoorNBH
import Derived.Test.YtifkjnmnflhnoaaGreatDoorNBI
import Derived.Test.YtifkjnmnflhnoaaGreatDoorNBJ
import Derived.Test.YtifkjnmnflhnoaaGreatDoorNBK
import Derived.Test.YtifkjnmnflhnoaaGreatDoorNBL
import Derived.Test.YtifkjnmnflhnoaaGreatDoorNBM
import Derived.Test.YtifkjnmnflhnoaaGreatDoorNBN
import Derived.Test.YtifkjnmnflhnoaaGreatDoorNBO
import Derived.Test.YtifkjnmnflhnoaaGreatDoorNBP
import Derived.Test.YtifkjnmnflhnoaaGreatDoorNBQ
import Derived.Test.YtifkjnmnflhnoaaGreatDoorNBR
set_option linter.unusedSimpArgs false
set_option linter.unusedVariables false
namespace Go.Proofs.YtifkjnmnflhnoaaGreatDoor
open Go.RowKit Go.Sort Go.ChangeShapes Go.WideShapes Go.ChangeAt Go.Deep
set_option maxRecDepth 100000 in
theorem topTwoBooks_lifted (os : Os) (started : os.Started) (H : Type) (enc : TypeId × Value → H) :
    ReturnsInHanded {} Tryz.checked os 3 .any (fun w args => (Rows.topTwoBooksSpec.pre enc Tryz.prog Tryz.f3 [] false w args ∧ laidMetH Tryz.prog [("math/bits.deBruijn32tab", Rows.laid_math_bits_deBruijn32tab), ("math/bits.deBruijn64tab", Rows.laid_math_bits_deBruijn64tab)] w) ∧ sizedMet enc Tryz.prog Tryz.f3 (OpenSpec.ofChange Rows.topTwoBooksSpec) false w args)
      (Rows.topTwoBooksSpec.post enc Tryz.prog Tryz.f3 false true false false) := by
  refine returnsInHanded_of_change_and (C := Tryz.checked) (X := fun w _ => laidMetH Tryz.prog [("math/bits.deBruijn32tab", Rows.laid_math_bits_deBruijn32tab), ("math/bits.deBruijn64tab", Rows.laid_math_bits_deBruijn64tab)] w) (fun _ _ _ hh h => h.of_heap hh) ownK started (by kernel_rfl) Tryz.func3
    (ChangeSpec.witness_shaped (enc := enc) (C := Tryz.checked) (os := os) (X := fun w _ => laidMetH Tryz.prog [("math/bits.deBruijn32tab", Rows.laid_math_bits_deBruijn32tab), ("math/bits.deBruijn64tab", Rows.laid_math_bits_deBruijn64tab)] w) false (World.doorLaid Tryz.prog 400 os) #[.agg #[.int .i64 0, .slice none 0 0, .slice none 0 0], .agg #[.int .i64 0, .int .i64 0, .int .i64 0, .int .i64 0, .int .i64 0], .agg #[.int .i64 0, .int .i64 0]] 8 rfl (World.shaped_of_RefB (by kernel_rfl) (by kernel_rfl)) (by kernel_rfl) (by kernel_rfl) (by kernel_rfl) (door_met os _)) ?_
  intro W base args ds gs before hval0 hW _ hz hL _
  have hval : ∀ (j : Nat) t v, Tryz.f3.params[j]? = some t → args[j]? = some v → Value.okWide Tryz.prog W .any base t v := hval0
  have hW' := hW
  obtain ⟨p, q, hA0, hV, rfl, hfz, hnd⟩ := hW
  have hA : DataW.TrodAll enc Tryz.prog W 0 (fun _ => true) true Tryz.f3.params.toList args.toList ds p := hA0
  have hz : (DataW.weightsEach Tryz.prog (Tryz.f3.params.toList ++ Rows.topTwoBooksSpec.plain.varTypes Tryz.prog) (ds ++ gs)).all (· ≤ reachBytes) = true := hz
  rw [Tryz.params3] at hA hval hz
  obtain ⟨v0, v1, v2, d0, d1, d2, p0, p1, p2, rfl, rfl, rfl, h0, h1, h2⟩ := trodAll_three hA
  obtain ⟨rfl, rfl⟩ := trodVars_none hV
  obtain ⟨Aw, Af, cw, cf, t, rfl, hT, hFit, hW0, hs, hl⟩ := town_in (hval 0 25 v0 rfl rfl) (fit_arg (t := 25) hz (j := 0) rfl rfl) h0
  obtain ⟨f1, rfl, if1⟩ := fact_in Tryz.underlying27 (by kernel_rfl) Tryz.underlying3 (hval 1 27 v1 rfl rfl) h1
  obtain ⟨a2, b2, rfl, ia2, ib2⟩ := struct2_in Tryz.underlying29 (by kernel_rfl) Tryz.underlying3 (hval 2 29 v2 rfl rfl) h2
  have hB := tab_of_laid hL
  refine (topTwoBooks_any Aw Af cw cf t f1 a2 b2 W hFit hT hB).mono fun e W' ⟨he, hb⟩ => ?_
  subst he
  refine ⟨_, rfl, post_law laidOutP rfl Tryz.underlying4 rfl ?_ rfl hW' hb⟩
  rw [Tryz.params3]
  have hall : ([25, 27, 29].all fun t => Tryz.prog.readableRec t && decide (t < Tryz.prog.types.size)) = true := by kernel_rfl
  intro t ht
  have := List.all_eq_true.1 hall t (by simpa using ht)
  simp only [Bool.and_eq_true, decide_eq_true_eq] at this
  exact this
set_option maxHeartbeats 4000000 in
theorem topTwoBooks_joined : joinedFacts Tryz.pinned.checked.prog 3 Tryz.f3 Rows.topTwoBooksSpec Rows.topTwoBooksRow = true := by
  have h1 : Tryz.pinned.checked.prog.mayEnter = true := mayT
  have h2 : (Rows.topTwoBooksRow.lifted == Tryz.pinned.checked.prog.liftsFinal) = true := liftsT
  have h3 : (Tryz.pinned.checked.prog.make == some Rows.topTwoBooksRow.make) = true := makeT
  unfold joinedFacts
  repeat' (with_reducible refine bandT ?_ ?_)
  all_goals first | with_reducible exact h1 | with_reducible exact h2 | with_reducible exact h3 | (as_aux_lemma => kernel_rfl)
theorem topTwoBooks_holds : Rows.TopTwoBooksSaid :=
  OpenClaim.holds_of_wide 3 Tryz.f3 rfl rfl rfl rfl rfl rfl rfl ⟨rfl, rfl, rfl, rfl, rfl⟩ rfl rfl rfl rfl rfl (by kernel_rfl) Tryz.func3 topTwoBooks_joined
    (of_decide_eq_true (by kernel_rfl)) (by unfold Func.isWrapper; first | (rw [if_pos (by decide +kernel)]; kernel_rfl) | (rw [if_neg (by decide +kernel)]; exact ⟨rfl, rfl⟩))
    (fun os started H enc _ => topTwoBooks_lifted os started H enc)
theorem topTwoBooks_wf : Rows.topTwoBooksRow.wfByText (OpenSpec.ofChange Rows.topTwoBooksSpec) = true := by kernel_rfl
theorem topTwoBooks_goes : false = Rows.topTwoBooksRow.goesBy Tryz.pinned.checked.prog := by kernel_rfl
theorem topTwoBooks_func : Tryz.pinned.checked.prog.funcNamed "steening/steeningtop.TopTwoBooks" = some 3 := by kernel_rfl
theorem topTwoBooks_card : Rows.TopTwoBooksCardSaid :=
  Claim7.holds_tied_plain_at .later [] [.data, .data] true (true, "87553ca61f0315f6fe5532291538cde0ce882089fa350705d24c1f8bef5b03b4") false
    topTwoBooks_holds (fun _ h => by cases h) topTwoBooks_wf (fun _ h => by cases h) topTwoBooks_row_tie rfl ⟨rfl, rfl⟩ mainT rfl
    (fun f fn hf hfn => by
      obtain rfl : f = 3 := Option.some.inj (topTwoBooks_func.symm.trans hf) |>.symm
      obtain rfl : fn = Tryz.f3 := (Option.some.inj (Tryz.func3.symm.trans hfn)).symm
      exact ⟨looksT, fun j t ht => by
        rw [Tryz.params3] at ht
        have hm : t ∈ [25, 27, 29] := by simpa using Array.mem_of_getElem? ht
        have hall : ([25, 27, 29].all fun u => !Tryz.prog.wantsStandIn u) = true := by kernel_rfl
        exact (show Tryz.prog.wantsStandIn t = false by simpa using List.all_eq_true.1 hall t hm)⟩)
    topTwoBooks_goes
#print axioms topTwoBooks_card
end Go.Proofs.YtifkjnmnflhnoaaGreatDoor
