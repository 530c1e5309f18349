/- Walk: Example. No condition. -/
import Derived.Test.YtbbnpneabmldnaaDoorLawB
import Derived.RegionTactic
namespace Go.Proofs.YtbbnpneabmldnaaDoor
open Go.RowKit Go.Sort
def exRock : Nat → Rock
  | 0 => ⟨2, 5, 2, -1⟩
  | 1 => ⟨4, 9, 3, 6⟩
  | _ => ⟨8, 20, 5, 1⟩
def exFoot : Nat → Int
  | 0 => 0
  | 1 => 1
  | 2 => 1
  | 3 => 0
  | _ => 2
def exS : Sh := ⟨3, exRock, 5, exFoot, 1, 1, 3⟩
def exRock2 : Nat → Rock
  | 0 => ⟨1, 2, 2, 9⟩
  | _ => ⟨1, 2, 2, 0⟩
def exFoot2 : Nat → Int
  | 0 => 1
  | 1 => 0
  | 2 => 1
  | _ => 0
def exT : Sh := ⟨2, exRock2, 4, exFoot2, 0, 0, 2⟩
/-- what Example hands back -/
def Exampled (w' : World) (e : Ending) : Prop :=
  ∃ Ar Af Ar' Af', e = .returned (.tuple #[.agg #[.slice (some Ar) exS.nr 3, .slice (some Af) exS.nf 5, .int .i64 exS.deep, .int .i64 exS.haul, .int .i64 exS.rest], .agg #[.slice (some Ar') exT.nr 2, .slice (some Af') exT.nf 4, .int .i64 exT.deep, .int .i64 exT.haul, .int .i64 exT.rest]]) ∧ ShAt w' (some Ar) (some Af) exS ∧ ShAt w' (some Ar') (some Af') exT
def exA (w : World) : Value := .agg #[.slice (some ⟨w.heap.size + 1 + 1, 0, none⟩) 3 3, .slice (some ⟨w.heap.size + 1 + 1 + 1, 0, none⟩) 5 5, .int .i64 1, .int .i64 1, .int .i64 3]
def exW (w : World) : World := (((((w.alloc (.cells #[.slice (some ⟨w.heap.size + 1 + 1, 0, none⟩) 3 3, .slice (some ⟨w.heap.size + 1 + 1 + 1, 0, none⟩) 5 5, .int .i64 1, .int .i64 1, .int .i64 3] 25)).alloc
  (.cells #[.slice (some ⟨w.heap.size + 1 + 1 + 1 + 1, 0, none⟩) 2 2, .slice (some ⟨w.heap.size + 1 + 1 + 1 + 1 + 1, 0, none⟩) 4 4, .int .i64 0, .int .i64 0, .int .i64 2] 25)).alloc
  (.cells #[.int .i64 2, .int .i64 5, .int .i64 2, .int .i64 (-1), .int .i64 4, .int .i64 9, .int .i64 3, .int .i64 6, .int .i64 8, .int .i64 20, .int .i64 5, .int .i64 1] 46)).alloc
  (.cells #[.int .i64 0, .int .i64 1, .int .i64 1, .int .i64 0, .int .i64 2] 3)).alloc
  (.cells #[.int .i64 1, .int .i64 2, .int .i64 2, .int .i64 9, .int .i64 1, .int .i64 2, .int .i64 2, .int .i64 0] 46)).alloc
  (.cells #[.int .i64 1, .int .i64 0, .int .i64 1, .int .i64 0] 3)
theorem exW_S (w : World) : ShAt (exW w) (some ⟨w.heap.size + 1 + 1, 0, none⟩) (some ⟨w.heap.size + 1 + 1 + 1, 0, none⟩) exS := by
  refine ⟨.inr ⟨_, _, rfl, by simp [exW], fun i hi => ?_⟩, .inr ⟨_, _, rfl, by simp [exW], fun i hi => ?_⟩⟩
  · have hi : i < 3 := hi
    rcases (by omega : i = 0 ∨ i = 1 ∨ i = 2) with rfl | rfl | rfl <;> simp [exW, exS, exRock, go_sem]
  · have hi : i < 5 := hi
    rcases (by omega : i = 0 ∨ i = 1 ∨ i = 2 ∨ i = 3 ∨ i = 4) with rfl | rfl | rfl | rfl | rfl <;> simp [exW, exS, exFoot, go_sem]
theorem exW_T (w : World) : ShAt (exW w) (some ⟨w.heap.size + 1 + 1 + 1 + 1, 0, none⟩) (some ⟨w.heap.size + 1 + 1 + 1 + 1 + 1, 0, none⟩) exT := by
  refine ⟨.inr ⟨_, _, rfl, by simp [exW], fun i hi => ?_⟩, .inr ⟨_, _, rfl, by simp [exW], fun i hi => ?_⟩⟩
  · have hi : i < 2 := hi
    rcases (by omega : i = 0 ∨ i = 1) with rfl | rfl <;> simp [exW, exT, exRock2, go_sem]
  · have hi : i < 4 := hi
    rcases (by omega : i = 0 ∨ i = 1 ∨ i = 2 ∨ i = 3) with rfl | rfl | rfl | rfl <;> simp [exW, exT, exFoot2, go_sem]
theorem ShAt.above {base : Nat} {w w' : World} {Ar Af : Addr} {S : Sh} (h : ShAt w (some Ar) (some Af) S) (ha : Above base w w') (h1 : base ≤ Ar.block) (h2 : base ≤ Af.block) : ShAt w' (some Ar) (some Af) S :=
  ⟨rocksAt_row.2 ((rocksAt_row.1 h.rocks).above ha (fun p e => by injection e with e; subst e; exact h1)), intsAt_row.2 ((intsAt_row.1 h.feet).above ha (fun p e => by injection e with e; subst e; exact h2))⟩
set_option maxHeartbeats 4000000 in
set_option maxRecDepth 100000 in
theorem Example_any (w : World) : Calls Tryd.prog 60 #[] w fun e w' => Exampled w' e ∧ Below w.heap.size w w' := by
  have hE1 := Lib.hid (exW_S w)
  have hE2 := Lib.hid (exW_T w)
  go_enter Tryd.func60, Tryd.ntmps60
  go_wp2_with fail
  go_region
  have HS := Lib.hid (hE1.out.mono (bDrew (Below.refl _ _)))
  have HT := Lib.hid (hE2.out.mono (bDrew (Below.refl _ _)))
  go_wp2_with fail
  refine bodyPost_ret (v := .tuple #[.agg #[.slice (some ⟨w.heap.size + 1 + 1, 0, none⟩) 3 3, .slice (some ⟨w.heap.size + 1 + 1 + 1, 0, none⟩) 5 5, .int .i64 1, .int .i64 1, .int .i64 3], .agg #[.slice (some ⟨w.heap.size + 1 + 1 + 1 + 1, 0, none⟩) 2 2, .slice (some ⟨w.heap.size + 1 + 1 + 1 + 1 + 1, 0, none⟩) 4 4, .int .i64 0, .int .i64 0, .int .i64 2]]) (by simp [results, Tryd.results60, go_sem]) rfl ?_
  exact ⟨⟨_, _, _, _, rfl, HS.out, HT.out⟩, by (repeat (first | (with_reducible exact Below.refl _ _) | (with_reducible refine bAlloc ?_ _) | (with_reducible refine bDrew ?_) | (with_reducible refine bGrow ?_ _ _) | (with_reducible refine bSet ?_ ?_ _; (first | exact Nat.le_refl _ | exact Nat.le_add_right _ _ | (simp; omega))) | (with_reducible refine bTrans ?_ (by assumption))))⟩
end Go.Proofs.YtbbnpneabmldnaaDoor
