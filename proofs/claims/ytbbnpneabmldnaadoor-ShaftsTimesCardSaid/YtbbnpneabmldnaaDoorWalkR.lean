/- Walks: slices.Clone and slices.Repeat at ways; the two comparisons. -/
import Derived.Test.YtbbnpneabmldnaaDoorWalkQ
import Derived.Test.YtbbnpneabmldnaaDoorWayBase
import Derived.Deep.RegionLaw
import Derived.Lib.SliceRun
namespace Go.Proofs.YtbbnpneabmldnaaDoor
open Go.RowKit Go.Sort
theorem infoWay : (Tryd.prog.info? 84).map (fun i => (i.zero, i.size, i.bytes)) = some (some (.agg #[.int .i64 0, .int .i64 0, .int .i64 0]), 3, 24) := by kernel_rfl
theorem fewer_any (x y : Way) (w : World) :
    Calls Tryd.prog 79 #[.agg #[.int .i64 x.rings, .int .i64 x.pence, .int .i64 x.next], .agg #[.int .i64 y.rings, .int .i64 y.pence, .int .i64 y.next]] w fun e w' => e = .returned (.bool (decide (x.rings < y.rings))) ∧ Below w.heap.size w w' := by
  have hb0 := bAlloc (bAlloc (Below.refl w.heap.size w) (.cells #[.int .i64 x.rings, .int .i64 x.pence, .int .i64 x.next] 84)) (.cells #[.int .i64 y.rings, .int .i64 y.pence, .int .i64 y.next] 84)
  have HB := Lib.hid hb0
  clear hb0
  by_cases h : x.rings < y.rings
  all_goals
    go_enter Tryd.func79, Tryd.ntmps79
    go_wp2_with fail
    go_ret
    exact ⟨ret_bool (by simp [h]), HB.out⟩
theorem cheaper_any (x y : Way) (w : World) :
    Calls Tryd.prog 74 #[.agg #[.int .i64 x.rings, .int .i64 x.pence, .int .i64 x.next], .agg #[.int .i64 y.rings, .int .i64 y.pence, .int .i64 y.next]] w fun e w' => e = .returned (.bool (decide (x.pence < y.pence))) ∧ Below w.heap.size w w' := by
  have hb0 := bAlloc (bAlloc (Below.refl w.heap.size w) (.cells #[.int .i64 x.rings, .int .i64 x.pence, .int .i64 x.next] 84)) (.cells #[.int .i64 y.rings, .int .i64 y.pence, .int .i64 y.next] 84)
  have HB := Lib.hid hb0
  clear hb0
  by_cases h : x.pence < y.pence
  all_goals
    go_enter Tryd.func74, Tryd.ntmps74
    go_wp2_with fail
    go_ret
    exact ⟨ret_bool (by simp [h]), HB.out⟩
/-- what Clone hands back: a new row with the same ways -/
def Cloned (w w' : World) (n : Nat) (f : Nat → Way) (e : Ending) : Prop :=
  ∃ g' c', e = .returned (.slice (some ⟨g', 0, none⟩) n c') ∧ w.heap.size ≤ g' ∧ WaysAt w' g' n f ∧ Below w.heap.size w w'
set_option maxHeartbeats 2000000 in
set_option maxRecDepth 100000 in
theorem clone_any (g n c : Nat) (f : Nat → Way) (w : World) (h0 : 0 < n) (hn : n ≤ 13) (h : WaysAt w g n f) :
    Calls Tryd.prog 94 #[.slice (some ⟨g, 0, none⟩) n c] w fun e w' => Cloned w w' n f e := by
  have HW := Lib.hid h
  clear h
  obtain ⟨i0, hi, hz0, hz1, hz2⟩ := info_parts infoWay
  have q : ∀ (w : World) (a : Option Addr) (n c n' c' : Nat), (binOp .eql 103 (.slice a n c) (.slice none n' c')).run Tryd.prog w = .ok (.bool a.isNone) w := fun w a n c n' c' => Lib.run_eql_slice_nil w _ _ a n c n' c' Tryd.underlying103
  go_enter Tryd.func94, Tryd.ntmps94
  go_wp2_with (at_builtin; refine wpList_append_own _ rfl _ _ 103 rfl w.heap.size 84 i0 (.agg #[.int .i64 0, .int .i64 0, .int .i64 0]) 3 24 Tryd.underlying103 hi hz0 hz1 hz2 rfl (by decide) _ _ _ rfl (World.ownsRow_made w #[] 0 (Nat.le_refl _) (Nat.zero_le _) rfl) ⟨g, 0, none⟩ n c (wayL f n) rfl (wayL_len f n) ?qc2 (wayL_one f n) ?qc4 ?qc5 ?qc6 ?_)
  case qc2 =>
    have := (HW.out.mono (bAlloc (Below.refl _ w) (.cells #[] 84))).read (o := 0) (k := n) (by omega)
    simpa using this
  case qc4 => unfold maxLen; omega
  case qc5 => omega
  case qc6 => simp
  intro v' w1 hown hgrow hnil
  go_wp2
  obtain ⟨hlen, hor⟩ := id hown
  rcases hor with ⟨_, h1⟩ | ⟨g', cap, cur, rfl, hb, _⟩
  · omega
  go_ret
  refine ⟨g', cap, by simp, hb, (waysAt_own hown).2, ?_⟩
  exact ((Below.refl _ w).alloc (Nat.le_refl _) _).grown hgrow (by simp) (by intro k hk; simp [Value.ownBlock] at hk; omega)
theorem to13 {n : Nat} (h0 : 0 < n) (hn : n ≤ 13) : n = 1 ∨ n = 2 ∨ n = 3 ∨ n = 4 ∨ n = 5 ∨ n = 6 ∨ n = 7 ∨ n = 8 ∨ n = 9 ∨ n = 10 ∨ n = 11 ∨ n = 12 ∨ n = 13 := by omega
theorem mul64_any (n : Nat) (w : World) (h0 : 0 < n) (hn : n ≤ 13) :
    Calls Tryd.prog 97 #[.int .u64 1, .int .u64 n] w fun e w' => e = .returned (.tuple #[.int .u64 0, .int .u64 n]) ∧ w = w' := by
  rcases to13 h0 hn with rfl | rfl | rfl | rfl | rfl | rfl | rfl | rfl | rfl | rfl | rfl | rfl | rfl
  all_goals
    go_enter Tryd.func97, Tryd.ntmps97
    go_wp2
    go_ret2
    exact ⟨rfl, rfl⟩
theorem mul_any (n : Nat) (w : World) (h0 : 0 < n) (hn : n ≤ 13) :
    Calls Tryd.prog 95 #[.int .u64 1, .int .u64 n] w fun e w' => e = .returned (.tuple #[.int .u64 0, .int .u64 n]) ∧ w = w' := by
  go_enter Tryd.func95, Tryd.ntmps95
  go_wp2_with (go_at_call 97; refine (mul64_any n _ h0 hn).mono ?_; rintro e w1 ⟨rfl, rfl⟩)
  go_ret2
  exact ⟨rfl, rfl⟩
/-- copy between two rows of ways: all is read before anything is written -/
theorem run_copy_ways {P : Program} (w : World) (dT sT ty elem : TypeId) (g o dLen dCap : Nat) (g2 o2 sLen sCap n n2 k : Nat) (f f2 : Nat → Way)
    (hu : P.underlying dT = some (.slice elem)) (hs : (P.info? elem).map (·.size) = some 3) (hk : k = Nat.min sLen dLen)
    (h : WaysAt w g n f) (h2 : WaysAt w g2 n2 f2) (hd : o + k ≤ n) (hd2 : o2 + k ≤ n2) :
    (Builtin.copy_ #[dT, sT] ty #[.slice (some ⟨g, o * 3, none⟩) dLen dCap, .slice (some ⟨g2, o2 * 3, none⟩) sLen sCap]).run P w = .ok (goInt k) (w.setCells g (o * 3) (wayL (fun i => f2 (o2 + i)) k)) := by
  have hl := run_loadCells_list (P := P) w ⟨g2, o2 * 3, none⟩ (wayL (fun i => f2 (o2 + i)) k) (h2.read hd2)
  rw [wayL_len] at hl
  have hex : ∀ j, j < n * 3 → (w.cell? ⟨g, j, none⟩).isSome = true := fun j hj => by
    rcases (by omega : j = j / 3 * 3 ∨ j = j / 3 * 3 + 1 ∨ j = j / 3 * 3 + 2) with e | e | e
    · rw [e, h.c0 (j / 3) (by omega)]; rfl
    · rw [e, h.c1 (j / 3) (by omega)]; rfl
    · rw [e, h.c2 (j / 3) (by omega)]; rfl
  have hst := run_storeCells_cells (P := P) g (o * 3) (wayL (fun i => f2 (o2 + i)) k) 0 w (fun j hj => by rw [wayL_len] at hj; exact hex _ (by omega)) (fun j _ => h.fr _) (wayL_one _ _)
  cases hq : P.info? elem with
  | none => simp [hq] at hs
  | some i =>
    have hi : i.size = 3 := by simpa [hq] using hs
    simp [Builtin.copy_, run_underlying hu, Builtin.lenOf, Builtin.firstCells, sizeOf, typeInfo, hq, hi, ← hk, hl, hst]
end Go.Proofs.YtbbnpneabmldnaaDoor
