/- Plan and Cheapest of a valid shaft, by the plain law; a call with copied stops in a region that draws. Conditions: the way that there is not lies in its variable. -/
import Derived.Test.YtbbnpneabmldnaaDoorLawG
namespace Go.Proofs.YtbbnpneabmldnaaDoor
open Go.RowKit Go.Sort
section
variable {P : Program} {ops : Array Oper} {md : Region.Mode}
theorem wpHeld_call {W : World} {Q : Act → World → Prop} {k : Nat} {o : Oper} {l : List Oper} {c : Value} {hs : List Held} {a : Act} {F : List (Nat × (World → Prop))} (hg : o.guard = none)
    (h1 : ∀ w', Below W.heap.size W w' → depsP md ops k F w' → Oper.heldAt P o a w' (fun _ v => v = c))
    (h2 : wpHeld P md ops W Q (k + 1) l hs (a.put o.dst c) F) : wpHeld P md ops W Q k (o :: l) (.const c :: hs) a F := by
  refine wpHeld_const ?_ h2
  unfold Region.wanted
  rw [hg, if_pos rfl]
  exact fun p => h1 _ (below_regrown _ _ _)
end
/-- what Plan and Cheapest hand back, of a valid shaft -/
def Planned (S : Sh) (w' : World) (X : Nat → (Nat → Int) → Prop) (e : Ending) : Prop :=
  (S.Has ∧ ∃ A m c g, e = .returned (.tuple #[.slice A m c, .int .i64 0]) ∧ m ≤ 12 ∧ S.Plan m g ∧ X m g ∧ IntsAt w' A m g) ∨ (¬ S.Has ∧ e = .returned (.tuple #[.slice none 0 0, .int .i64 3]))
theorem Plan_law (Ar Af : Option Addr) (cr cf : Nat) (S : Sh) (w : World) (ok : S.Ok) (hS : ShAt w Ar Af S) (hN : NoneAt w) : Calls Tryd.prog 37 #[.agg #[.slice Ar S.nr cr, .slice Af S.nf cf, .int .i64 S.deep, .int .i64 S.haul, .int .i64 S.rest]] w fun e w' => Planned S w' (fun m _ => S.IsFew m) e ∧ Below w.heap.size w w' := by
  have hnr := ok.nr
  have hnf := ok.nf
  refine (Plan_any Ar Af cr cf S w (by omega) (by omega) hS hN).mono ?_
  rintro e w' ⟨hb, h⟩
  refine ⟨?_, hb⟩
  rcases h with ⟨h, _⟩ | ⟨_, h, he⟩ | ⟨_, h, A, m, c, g, he, hm, hch, hend, hI, _⟩
  · exact absurd ok h
  · exact .inr ⟨fun hh => (ways_has (measR S)).2 hh h, he⟩
  · obtain ⟨hR, hc, hP, hcost⟩ := stops_plan (measR S) hch hend h
    refine .inl ⟨⟨_, hc⟩, A, m, c, g, he, by omega, hP, ⟨⟨_, hc, stopsL_len g m 0⟩, fun l hl => ?_⟩, hI⟩
    have h5 := (waysOf_best (measR S) S.nf 0 l hl (by have := hl.len; omega)).2
    rw [costL_one] at h5 hcost
    rw [stopsL_len] at hcost
    omega
theorem Cheapest_law (Ar Af : Option Addr) (cr cf : Nat) (S : Sh) (w : World) (ok : S.Ok) (hS : ShAt w Ar Af S) (hN : NoneAt w) : Calls Tryd.prog 28 #[.agg #[.slice Ar S.nr cr, .slice Af S.nf cf, .int .i64 S.deep, .int .i64 S.haul, .int .i64 S.rest]] w fun e w' => Planned S w' (fun m g => S.IsCheap (S.costOf m g)) e ∧ Below w.heap.size w w' := by
  have hnr := ok.nr
  have hnf := ok.nf
  refine (Cheapest_any Ar Af cr cf S w (by omega) (by omega) hS hN).mono ?_
  rintro e w' ⟨hb, h⟩
  refine ⟨?_, hb⟩
  rcases h with ⟨h, _⟩ | ⟨_, h, he⟩ | ⟨_, h, A, m, c, g, he, hm, hch, hend, hI, _⟩
  · exact absurd ok h
  · exact .inr ⟨fun hh => (ways_has (measP S)).2 hh h, he⟩
  · obtain ⟨hR, hc, hP, hcost⟩ := stops_plan (measP S) hch hend h
    refine .inl ⟨⟨_, hc⟩, A, m, c, g, he, by omega, hP, ⟨⟨_, hc, costOf_pay.symm⟩, fun l hl => ?_⟩, hI⟩
    have h5 := (waysOf_best (measP S) S.nf 0 l hl (by have := hl.len; omega)).2
    rw [costOf_pay]
    unfold Sh.pay
    omega
end Go.Proofs.YtbbnpneabmldnaaDoor
