/- The statement PlacesStreet: the walk, lifted to the row, and to the card. No condition. -/
import Derived.Test.YthnojgdckkdcgaaGreatDoorCards
import Derived.Test.YthnojgdckkdcgaaGreatDoorNSA
import Derived.Test.YthnojgdckkdcgaaGreatDoorNSB
import Derived.Test.YthnojgdckkdcgaaGreatDoorNSC
import Derived.Test.YthnojgdckkdcgaaGreatDoorNSD
import Derived.Test.YthnojgdckkdcgaaGreatDoorNSE
import Derived.Test.YthnojgdckkdcgaaGreatDoorNSF
import Derived.Test.YthnojgdckkdcgaaGreatDoorNSG
import Derived.Test.YthnojgdckkdcgaaGreatDoorNSH
import Derived.Test.YthnojgdckkdcgaaGreatDoorNSI
import Derived.Test.YthnojgdckkdcgaaGreatDoorNSJ
import Derived.Test.YthnojgdckkdcgaaGreatDoorNSK
import Derived.Test.YthnojgdckkdcgaaGreatDoorNSL
import Derived.Test.YthnojgdckkdcgaaGreatDoorNSM
import Derived.Test.YthnojgdckkdcgaaGreatDoorNSN
import Derived.Test.YthnojgdckkdcgaaGreatDoorNSO
import Derived.Test.YthnojgdckkdcgaaGreatDoorNSP
import Derived.Test.YthnojgdckkdcgaaGreatDoorNSQ
import Derived.Test.YthnojgdckkdcgaaGreatDoorNSR
import Derived.Test.YthnojgdckkdcgaaGreatDoorNSS
import Derived.Test.YthnojgdckkdcgaaGreatDoorNST
import Derived.Test.YthnojgdckkdcgaaGreatDoorNSU
import Derived.Test.YthnojgdckkdcgaaGreatDoorNSV
import Derived.Test.YthnojgdckkdcgaaGreatDoorNSW
set_option linter.unusedSimpArgs false
set_option linter.unusedVariables false
namespace Go.Proofs.YthnojgdckkdcgaaGreatDoor
open Go.RowKit Go.Sort Go.ChangeShapes Go.WideShapes Go.ChangeAt Go.Deep
set_option maxRecDepth 100000 in
theorem placesStreet_lifted (os : Os) (started : os.Started) (H : Type) (enc : TypeId × Value → H) :
    ReturnsInHanded {} Tryz.checked os 4 .any (fun w args => (Rows.placesStreetSpec.pre enc Tryz.prog Tryz.f4 [] false w args ∧ laidMetH Tryz.prog [("math/bits.deBruijn32tab", Rows.laid_math_bits_deBruijn32tab), ("math/bits.deBruijn64tab", Rows.laid_math_bits_deBruijn64tab), ("steening/shafts.none", Rows.laid_steening_shafts_none)] w) ∧ sizedMet enc Tryz.prog Tryz.f4 (OpenSpec.ofChange Rows.placesStreetSpec) false w args)
      (Rows.placesStreetSpec.post enc Tryz.prog Tryz.f4 false true false false) := by
  refine returnsInHanded_of_change_and (C := Tryz.checked) (X := fun w _ => laidMetH Tryz.prog [("math/bits.deBruijn32tab", Rows.laid_math_bits_deBruijn32tab), ("math/bits.deBruijn64tab", Rows.laid_math_bits_deBruijn64tab), ("steening/shafts.none", Rows.laid_steening_shafts_none)] w) (fun _ _ _ hh h => h.of_heap hh) ownK started (by kernel_rfl) Tryz.func4
    (ChangeSpec.witness_shaped (enc := enc) (C := Tryz.checked) (os := os) (X := fun w _ => laidMetH Tryz.prog [("math/bits.deBruijn32tab", Rows.laid_math_bits_deBruijn32tab), ("math/bits.deBruijn64tab", Rows.laid_math_bits_deBruijn64tab), ("steening/shafts.none", Rows.laid_steening_shafts_none)] w) false (World.doorLaid Tryz.prog 400 os) #[.agg #[.int .i64 0, .slice none 0 0, .slice none 0 0, .slice none 0 0, .slice none 0 0, .slice none 0 0, .int .i64 0, .int .i64 0, .int .i64 0], .int .i64 0] 8 rfl (World.shaped_of_RefB (by kernel_rfl) (by kernel_rfl)) (by kernel_rfl) (by kernel_rfl) (by kernel_rfl) (door_metP os _)) ?_
  intro W base args ds gs before hval0 hW _ hz hL _
  have hval : ∀ (j : Nat) t v, Tryz.f4.params[j]? = some t → args[j]? = some v → Value.okWide Tryz.prog W .any base t v := hval0
  have hW' := hW
  obtain ⟨p, q, hA0, hV, rfl, hfz, hnd⟩ := hW
  have hA : DataW.TrodAll enc Tryz.prog W 0 (fun _ => true) true Tryz.f4.params.toList args.toList ds p := hA0
  have hz : (DataW.weightsEach Tryz.prog (Tryz.f4.params.toList ++ Rows.placesStreetSpec.plain.varTypes Tryz.prog) (ds ++ gs)).all (· ≤ reachBytes) = true := hz
  rw [Tryz.params4] at hA hval hz
  obtain ⟨v0, v1, d0, d1, p0, p1, rfl, rfl, rfl, h0, h1⟩ := trodAll_two hA
  obtain ⟨rfl, rfl⟩ := trodVars_none hV
  obtain ⟨Aw, Af, Ao, Ap, As, cw, cf, co, cp, cs, t, rfl, hT, hFit⟩ := place_in (hval 0 62 v0 rfl rfl) (fit_arg (t := 62) hz (j := 0) rfl rfl) h0
  obtain ⟨x1, rfl, _, _, wx1⟩ := open_int Tryz.underlying3 (hval 1 3 v1 rfl rfl) h1
  obtain ⟨lx1, ux1⟩ := int_wf wx1
  obtain ⟨hB, hN⟩ := laid_both hL
  refine (placesStreet_any Aw Af Ao Ap As cw cf co cp cs t x1 W hFit hT hB hN).mono fun e W' ⟨he, hb⟩ => ?_
  subst he
  refine ⟨_, rfl, post_law laidOutP rfl Tryz.underlying4 rfl ?_ rfl hW' hb⟩
  rw [Tryz.params4]
  have hall : ([62, 3].all fun t => Tryz.prog.readableRec t && decide (t < Tryz.prog.types.size)) = true := by kernel_rfl
  intro t ht
  have := List.all_eq_true.1 hall t (by simpa using ht)
  simp only [Bool.and_eq_true, decide_eq_true_eq] at this
  exact this
set_option maxHeartbeats 4000000 in
theorem placesStreet_joined : joinedFacts Tryz.pinned.checked.prog 4 Tryz.f4 Rows.placesStreetSpec Rows.placesStreetRow = true := by
  have h1 : Tryz.pinned.checked.prog.mayEnter = true := mayP
  have h2 : (Rows.placesStreetRow.lifted == Tryz.pinned.checked.prog.liftsFinal) = true := liftsP
  have h3 : (Tryz.pinned.checked.prog.make == some Rows.placesStreetRow.make) = true := makeP
  unfold joinedFacts
  repeat' (with_reducible refine bandP ?_ ?_)
  all_goals first | with_reducible exact h1 | with_reducible exact h2 | with_reducible exact h3 | (as_aux_lemma => kernel_rfl)
theorem placesStreet_holds : Rows.PlacesStreetSaid :=
  OpenClaim.holds_of_wide 4 Tryz.f4 rfl rfl rfl rfl rfl rfl rfl ⟨rfl, rfl, rfl, rfl, rfl⟩ rfl rfl rfl rfl rfl (by kernel_rfl) Tryz.func4 placesStreet_joined
    (of_decide_eq_true (by kernel_rfl)) (by unfold Func.isWrapper; first | (rw [if_pos (by decide +kernel)]; kernel_rfl) | (rw [if_neg (by decide +kernel)]; exact ⟨rfl, rfl⟩))
    (fun os started H enc _ => placesStreet_lifted os started H enc)
theorem placesStreet_wf : Rows.placesStreetRow.wfByText (OpenSpec.ofChange Rows.placesStreetSpec) = true := by kernel_rfl
theorem placesStreet_goes : false = Rows.placesStreetRow.goesBy Tryz.pinned.checked.prog := by kernel_rfl
theorem placesStreet_func : Tryz.pinned.checked.prog.funcNamed "steening/steeninglaw09.PlacesStreet" = some 4 := by kernel_rfl
theorem placesStreet_card : Rows.PlacesStreetCardSaid :=
  Claim7.holds_tied_plain_at .later [] [.data, .data, .data] true (true, "be4817d901a3592be5ffe04929981df5e9fc1cead1a3ca6f8071c08015b421ea") false
    placesStreet_holds (fun _ h => by cases h) placesStreet_wf (fun _ h => by cases h) placesStreet_row_tie rfl ⟨rfl, rfl⟩ mainP rfl
    (fun f fn hf hfn => by
      obtain rfl : f = 4 := Option.some.inj (placesStreet_func.symm.trans hf) |>.symm
      obtain rfl : fn = Tryz.f4 := (Option.some.inj (Tryz.func4.symm.trans hfn)).symm
      exact ⟨looksP, fun j t ht => by
        rw [Tryz.params4] at ht
        have hm : t ∈ [62, 3] := by simpa using Array.mem_of_getElem? ht
        have hall : ([62, 3].all fun u => !Tryz.prog.wantsStandIn u) = true := by kernel_rfl
        exact (show Tryz.prog.wantsStandIn t = false by simpa using List.all_eq_true.1 hall t hm)⟩)
    placesStreet_goes
#print axioms placesStreet_card
end Go.Proofs.YthnojgdckkdcgaaGreatDoor
