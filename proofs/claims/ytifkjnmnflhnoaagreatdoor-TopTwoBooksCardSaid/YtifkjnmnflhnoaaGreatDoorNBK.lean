/- Parts joined: what all claims of this seat need. -/
import Derived.Test.YtifkjnmnflhnoaaGreatDoorNBJ
import Derived.RangeFuncNested
import Derived.RangeFuncBound
import Derived.RangeFuncCalls
import Derived.RangeFuncLeaves
import Derived.Shelf.Abstract
import Derived.Shelf.RegionOpen
import Derived.OwnWalkIn
import Derived.TacticsInMore
import Derived.LoopNIn
import Derived.LoopIn
import Derived.Test.YtifkjnmnflhnoaaGreatDoorNBF
import Derived.Test.YtifkjnmnflhnoaaGreatDoorProg
import Derived.WalkKit
import Derived.WalkSpells
import Derived.WalkLawsBesides
import Derived.BigQuiet
import Derived.Lib.Hide
import Derived.Lib.QuietBelow
import Derived.Test.YtifkjnmnflhnoaaGreatDoorNBA
import Derived.Test.YtifkjnmnflhnoaaGreatDoorNBC
import Derived.Test.YtifkjnmnflhnoaaGreatDoorNBI
import Derived.Test.YtifkjnmnflhnoaaGreatDoorNBD
import Derived.Deep.RegionHeld3
import Derived.Test.YtifkjnmnflhnoaaGreatDoorNBE
import Derived.OwnWalk
import Derived.Laws.AppendOwn
import Derived.Laws.OwnMore
import Derived.Laws.IdiomCopy
import Derived.Deep.RegionLaw
import Derived.Lib.SliceRun
import Derived.ArgAppend
set_option linter.unusedSimpArgs false
set_option linter.unusedVariables false
namespace Go.Proofs.YtifkjnmnflhnoaaGreatDoor
open Go.RowKit Go.Sort
theorem EntsAt.get {w : World} {A : Option Addr} {n pl : Nat} {g : Nat → Ent} (h : EntsAt w A n pl g) {i : Nat} (hi : i < n) : ∃ b o, A = some ⟨b, o, none⟩ ∧ b < w.heap.size ∧ w.cell? ⟨b, o + i * 3, none⟩ = some (.int .i64 (g i).day) ∧ w.cell? ⟨b, o + i * 3 + 1, none⟩ = some (.int .i64 (g i).who) ∧ w.cell? ⟨b, o + i * 3 + 2, none⟩ = some (.slice (g i).ca pl (g i).cc) := by
  rcases h with h | ⟨b, o, e, hl, hc⟩
  · omega
  · exact ⟨b, o, e, hl, (hc i hi).1, (hc i hi).2.1, (hc i hi).2.2.1⟩
set_option maxHeartbeats 4000000 in
set_option maxRecDepth 100000 in
theorem same_any (b : Bk) (i j : Nat) (w : World) (ok : b.Ok) (hT : BkAt w b) (hi9 : i < b.n1) (hj9 : j < b.n2) :
    Calls Tryz.prog 16 #[.agg #[.int .i64 b.base, .int .i64 (b.pl : Int), .int .i64 b.pers, .int .i64 b.late, .slice b.a1 b.n1 b.c1, .slice b.a2 b.n2 b.c2], .int .i64 (i : Int), .int .i64 (j : Int)] w fun e w' => e = .returned (.tuple #[.bool (comB b.late (b.e1 i) (b.e2 j) b.pl), .int .i64 0]) ∧ Below w.heap.size w w' := by
  have i0 : (0 : Int) ≤ (i : Int) := by omega
  have i1 : (i : Int) < (b.n1 : Int) := by omega
  have j0 : (0 : Int) ≤ (j : Int) := by omega
  have j1 : (j : Int) < (b.n2 : Int) := by omega
  have HD0 := Lib.hid (Below.refl w.heap.size w)
  have HOK := Lib.hid ok
  have HT0 := Lib.hid hT
  have HI := Lib.hid hi9
  have HJ := Lib.hid hj9
  clear ok hT hi9 hj9
  go_enter Tryz.func16, Tryz.ntmps16
  have HC1 := Lib.hid (fun (w' : World) (hb : Below (w.alloc (.cells #[.int .i64 b.base, .int .i64 (b.pl : Int), .int .i64 b.pers, .int .i64 b.late, .slice b.a1 b.n1 b.c1, .slice b.a2 b.n2 b.c2] 41)).heap.size (w.alloc (.cells #[.int .i64 b.base, .int .i64 (b.pl : Int), .int .i64 b.pers, .int .i64 b.late, .slice b.a1 b.n1 b.c1, .slice b.a2 b.n2 b.c2] 41)) w') => (hasF_any b.a1 b.n1 b.c1 (i : Int) w' (by have := HI.out; omega) HOK.out.n1 : Calls Tryz.prog 39 #[.slice b.a1 b.n1 b.c1, .int .i64 (i : Int)] w' fun e w'' => e = .returned (.bool true) ∧ Below w'.heap.size w' w''))
  have HC2 := Lib.hid (fun (w' : World) (hb : Below (w.alloc (.cells #[.int .i64 b.base, .int .i64 (b.pl : Int), .int .i64 b.pers, .int .i64 b.late, .slice b.a1 b.n1 b.c1, .slice b.a2 b.n2 b.c2] 41)).heap.size (w.alloc (.cells #[.int .i64 b.base, .int .i64 (b.pl : Int), .int .i64 b.pers, .int .i64 b.late, .slice b.a1 b.n1 b.c1, .slice b.a2 b.n2 b.c2] 41)) w') => (hasF_any b.a2 b.n2 b.c2 (j : Int) w' (by have := HJ.out; omega) HOK.out.n2 : Calls Tryz.prog 39 #[.slice b.a2 b.n2 b.c2, .int .i64 (j : Int)] w' fun e w'' => e = .returned (.bool true) ∧ Below w'.heap.size w' w''))
  have HC3 := Lib.hid (fun (w' : World) (hb : Below (w.alloc (.cells #[.int .i64 b.base, .int .i64 (b.pl : Int), .int .i64 b.pers, .int .i64 b.late, .slice b.a1 b.n1 b.c1, .slice b.a2 b.n2 b.c2] 41)).heap.size (w.alloc (.cells #[.int .i64 b.base, .int .i64 (b.pl : Int), .int .i64 b.pers, .int .i64 b.late, .slice b.a1 b.n1 b.c1, .slice b.a2 b.n2 b.c2] 41)) w') => (askF_any b w' HOK.out ((HT0.out.mono (bAlloc (Below.refl _ _) (.cells #[.int .i64 b.base, .int .i64 (b.pl : Int), .int .i64 b.pers, .int .i64 b.late, .slice b.a1 b.n1 b.c1, .slice b.a2 b.n2 b.c2] 41))).mono hb) : Calls Tryz.prog 38 #[.agg #[.int .i64 b.base, .int .i64 (b.pl : Int), .int .i64 b.pers, .int .i64 b.late, .slice b.a1 b.n1 b.c1, .slice b.a2 b.n2 b.c2], .bool true] w' fun e w'' => e = .returned (.int .i64 0) ∧ Below w'.heap.size w' w''))
  go_wp2_with fail
  refine wp_region_quiet_below (by kernel_rfl) (by kernel_rfl) ?_
  repeat (go_big_quiet_step (((first | (go_at_call 39; with_reducible exact Calls.regrown_of (HC1.out _ (below_regrown _ _ _))) | (go_at_call 39; with_reducible exact Calls.regrown_of (HC2.out _ (below_regrown _ _ _))) | (go_at_call 38; with_reducible exact Calls.regrown_of (HC3.out _ (below_regrown _ _ _)))))))
  refine wpQuiet_nil ?_
  intro w1 hw9
  have hb := below_of_regrown hw9
  clear hw9
  clear HC1 HC2 HC3
  have hB1 : Below w.heap.size w w1 := bTrans (bAlloc (Below.refl _ _) (.cells #[.int .i64 b.base, .int .i64 (b.pl : Int), .int .i64 b.pers, .int .i64 b.late, .slice b.a1 b.n1 b.c1, .slice b.a2 b.n2 b.c2] 41)) hb
  have HD1 := Lib.hid (bTrans HD0.out hB1)
  have HT1 := Lib.hid (HT0.out.mono hB1)
  have B1 := Lib.hid (show TBox w1 w.heap.size 41 #[.int .i64 b.base, .int .i64 (b.pl : Int), .int .i64 b.pers, .int .i64 b.late, .slice b.a1 b.n1 b.c1, .slice b.a2 b.n2 b.c2] from by have := ((TBox.new w #[.int .i64 b.base, .int .i64 (b.pl : Int), .int .i64 b.pers, .int .i64 b.late, .slice b.a1 b.n1 b.c1, .slice b.a2 b.n2 b.c2] 41).mono (Below.refl _ _)).mono hb; simpa using this)
  clear hb hB1 HD0 HT0
  obtain ⟨B_0, B_1, B_2, B_3, B_4, B_5, B_l⟩ := B1.out.c6
  go_wp2_with fail
  obtain ⟨x1, o1, ha1, hl1, c0, c1, c2⟩ := HT1.out.ones.get HI.out
  obtain ⟨x2, o2, ha2, hl2, d0, d1, d2⟩ := HT1.out.others.get HJ.out
  have HCO := Lib.hid (fun (w' : World) (hb : Below w1.heap.size w1 w') => common_any b.pl b.late (b.e1 i) (b.e2 j) w' HOK.out.pl.2 (HOK.out.e1 i HI.out).day (HOK.out.e2 j HJ.out).day (((HT1.out).mono hb).ones.sp HI.out) (((HT1.out).mono hb).others.sp HJ.out))
  refine wp_region_call 12 (fun v w2 => CmOut w2 b.pl b.late (b.e1 i) (b.e2 j) v ∧ Below w1.heap.size w1 w2) (by kernel_rfl) (by decide +kernel) rfl ?_
  apply Exists.intro
  refine ⟨fun K hK => ?_, ?_, fun w1 hb1 K Q' hK => ?_, ?_⟩
  · skip
    repeat (first | (refine wpCalm_skip rfl ?_) | (refine wpCalm_step rfl (fun K hK => ?_); go_simp; (first | (refine hK _ ?_; clear hK K) | (apply Exists.intro; refine ⟨fun _ => ?_, hK _ ?_⟩; (fail); clear hK K))))
    refine wpCalm_nil ?_
    exact hK
  · rfl
  · go_simp
    refine (HCO.out w1 hb1).mono ?_
    rintro e w2 ⟨⟨v, rfl, ho⟩, hb2⟩
    exact hK v w2 ⟨ho, bTrans hb1 hb2⟩
  clear HCO
  rintro v w2 ⟨⟨A, c, rfl, hsp⟩, hb2⟩
  apply Exists.intro
  refine ⟨fun K hK => ?_, fun w2 hb3 => ?_⟩
  · skip
    repeat (first | (refine wpCalm_skip rfl ?_) | (refine wpCalm_step rfl (fun K hK => ?_); go_simp; (first | (refine hK _ ?_; clear hK K) | (apply Exists.intro; refine ⟨fun _ => ?_, hK _ ?_⟩; (fail); clear hK K))))
    refine wpCalm_nil ?_
    exact hK
  have hb := bTrans hb2 hb3
  have HS := Lib.hid (hsp.mono hb3)
  clear hb2 hb3 hsp c0 c1 c2 d0 d1 d2 ha1 ha2 hl1 hl2
  have hB2 : Below w1.heap.size w1 w2 := bTrans (Below.refl _ _) hb
  have HD2 := Lib.hid (bTrans HD1.out hB2)
  have HT2 := Lib.hid (HT1.out.mono hB2)
  have HSP2 := Lib.hid (HS.out)
  have B2 := Lib.hid (B1.out.mono hB2)
  clear hb hB2 HD1 HT1 B1 B_0 B_1 B_2 B_3 B_4 B_5 B_l
  obtain ⟨B_0, B_1, B_2, B_3, B_4, B_5, B_l⟩ := B2.out.c6
  clear HS
  go_wp2_with fail
  go_ret2
  exact ⟨rfl, HD2.out⟩
set_option maxHeartbeats 4000000 in
set_option maxRecDepth 100000 in
theorem commonF_any (b : Bk) (i j : Nat) (lo hi : Int) (w : World) (ok : b.Ok) (hT : BkAt w b) (hi9 : i < b.n1) (hj9 : j < b.n2) (hc : comB b.late (b.e1 i) (b.e2 j) b.pl = true) (hk : CordOk b.base b.pl (comF (b.e1 i) (b.e2 j))) (he : endsF b.base (comF (b.e1 i) (b.e2 j)) b.pl = (lo, hi)) :
    Calls Tryz.prog 17 #[.agg #[.int .i64 b.base, .int .i64 (b.pl : Int), .int .i64 b.pers, .int .i64 b.late, .slice b.a1 b.n1 b.c1, .slice b.a2 b.n2 b.c2], .int .i64 (i : Int), .int .i64 (j : Int)] w fun e w' => e = .returned (.tuple #[.agg #[.int .i64 lo, .int .i64 hi], .int .i64 0]) ∧ Below w.heap.size w w' := by
  have i0 : (0 : Int) ≤ (i : Int) := by omega
  have i1 : (i : Int) < (b.n1 : Int) := by omega
  have j0 : (0 : Int) ≤ (j : Int) := by omega
  have j1 : (j : Int) < (b.n2 : Int) := by omega
  have HD0 := Lib.hid (Below.refl w.heap.size w)
  have HOK := Lib.hid ok
  have HT0 := Lib.hid hT
  have HI := Lib.hid hi9
  have HJ := Lib.hid hj9
  have HCB := Lib.hid hc
  have HK := Lib.hid hk
  have HE := Lib.hid he
  clear ok hT hi9 hj9 hc hk he
  go_enter Tryz.func17, Tryz.ntmps17
  have HC1 := Lib.hid (fun (w' : World) (hb : Below ((w.alloc (.cells #[.int .i64 b.base, .int .i64 (b.pl : Int), .int .i64 b.pers, .int .i64 b.late, .slice b.a1 b.n1 b.c1, .slice b.a2 b.n2 b.c2] 41)).alloc (.cells #[.int .i64 0, .int .i64 0] 43)).heap.size ((w.alloc (.cells #[.int .i64 b.base, .int .i64 (b.pl : Int), .int .i64 b.pers, .int .i64 b.late, .slice b.a1 b.n1 b.c1, .slice b.a2 b.n2 b.c2] 41)).alloc (.cells #[.int .i64 0, .int .i64 0] 43)) w') => (hasF_any b.a1 b.n1 b.c1 (i : Int) w' (by have := HI.out; omega) HOK.out.n1 : Calls Tryz.prog 39 #[.slice b.a1 b.n1 b.c1, .int .i64 (i : Int)] w' fun e w'' => e = .returned (.bool true) ∧ Below w'.heap.size w' w''))
  have HC2 := Lib.hid (fun (w' : World) (hb : Below ((w.alloc (.cells #[.int .i64 b.base, .int .i64 (b.pl : Int), .int .i64 b.pers, .int .i64 b.late, .slice b.a1 b.n1 b.c1, .slice b.a2 b.n2 b.c2] 41)).alloc (.cells #[.int .i64 0, .int .i64 0] 43)).heap.size ((w.alloc (.cells #[.int .i64 b.base, .int .i64 (b.pl : Int), .int .i64 b.pers, .int .i64 b.late, .slice b.a1 b.n1 b.c1, .slice b.a2 b.n2 b.c2] 41)).alloc (.cells #[.int .i64 0, .int .i64 0] 43)) w') => (hasF_any b.a2 b.n2 b.c2 (j : Int) w' (by have := HJ.out; omega) HOK.out.n2 : Calls Tryz.prog 39 #[.slice b.a2 b.n2 b.c2, .int .i64 (j : Int)] w' fun e w'' => e = .returned (.bool true) ∧ Below w'.heap.size w' w''))
  have HC3 := Lib.hid (fun (w' : World) (hb : Below ((w.alloc (.cells #[.int .i64 b.base, .int .i64 (b.pl : Int), .int .i64 b.pers, .int .i64 b.late, .slice b.a1 b.n1 b.c1, .slice b.a2 b.n2 b.c2] 41)).alloc (.cells #[.int .i64 0, .int .i64 0] 43)).heap.size ((w.alloc (.cells #[.int .i64 b.base, .int .i64 (b.pl : Int), .int .i64 b.pers, .int .i64 b.late, .slice b.a1 b.n1 b.c1, .slice b.a2 b.n2 b.c2] 41)).alloc (.cells #[.int .i64 0, .int .i64 0] 43)) w') => (askF_any b w' HOK.out ((HT0.out.mono (bAlloc (bAlloc (Below.refl _ _) (.cells #[.int .i64 b.base, .int .i64 (b.pl : Int), .int .i64 b.pers, .int .i64 b.late, .slice b.a1 b.n1 b.c1, .slice b.a2 b.n2 b.c2] 41)) (.cells #[.int .i64 0, .int .i64 0] 43))).mono hb) : Calls Tryz.prog 38 #[.agg #[.int .i64 b.base, .int .i64 (b.pl : Int), .int .i64 b.pers, .int .i64 b.late, .slice b.a1 b.n1 b.c1, .slice b.a2 b.n2 b.c2], .bool true] w' fun e w'' => e = .returned (.int .i64 0) ∧ Below w'.heap.size w' w''))
  go_wp2_with fail
  refine wp_region_quiet_below (by kernel_rfl) (by kernel_rfl) ?_
  repeat (go_big_quiet_step (((first | (go_at_call 39; with_reducible exact Calls.regrown_of (HC1.out _ (below_regrown _ _ _))) | (go_at_call 39; with_reducible exact Calls.regrown_of (HC2.out _ (below_regrown _ _ _))) | (go_at_call 38; with_reducible exact Calls.regrown_of (HC3.out _ (below_regrown _ _ _)))))))
  refine wpQuiet_nil ?_
  intro w1 hw9
  have hb := below_of_regrown hw9
  clear hw9
  clear HC1 HC2 HC3
  have hB1 : Below w.heap.size w w1 := bTrans (bAlloc (bAlloc (Below.refl _ _) (.cells #[.int .i64 b.base, .int .i64 (b.pl : Int), .int .i64 b.pers, .int .i64 b.late, .slice b.a1 b.n1 b.c1, .slice b.a2 b.n2 b.c2] 41)) (.cells #[.int .i64 0, .int .i64 0] 43)) hb
  have HD1 := Lib.hid (bTrans HD0.out hB1)
  have HT1 := Lib.hid (HT0.out.mono hB1)
  have B1 := Lib.hid (show TBox w1 w.heap.size 41 #[.int .i64 b.base, .int .i64 (b.pl : Int), .int .i64 b.pers, .int .i64 b.late, .slice b.a1 b.n1 b.c1, .slice b.a2 b.n2 b.c2] from by have := ((TBox.new w #[.int .i64 b.base, .int .i64 (b.pl : Int), .int .i64 b.pers, .int .i64 b.late, .slice b.a1 b.n1 b.c1, .slice b.a2 b.n2 b.c2] 41).mono (bAlloc (Below.refl _ _) (.cells #[.int .i64 0, .int .i64 0] 43))).mono hb; simpa using this)
  have R1 := Lib.hid (show TBox w1 (w.heap.size + 1) 43 #[.int .i64 0, .int .i64 0] from by have := ((TBox.new (w.alloc (.cells #[.int .i64 b.base, .int .i64 (b.pl : Int), .int .i64 b.pers, .int .i64 b.late, .slice b.a1 b.n1 b.c1, .slice b.a2 b.n2 b.c2] 41)) #[.int .i64 0, .int .i64 0] 43).mono (Below.refl _ _)).mono hb; simpa using this)
  clear hb hB1 HD0 HT0
  obtain ⟨B_0, B_1, B_2, B_3, B_4, B_5, B_l⟩ := B1.out.c6
  obtain ⟨R_0, R_1, R_l⟩ := R1.out.c2
  go_wp2_with fail
  obtain ⟨x1, o1, ha1, hl1, c0, c1, c2⟩ := HT1.out.ones.get HI.out
  obtain ⟨x2, o2, ha2, hl2, d0, d1, d2⟩ := HT1.out.others.get HJ.out
  have HCO := Lib.hid (fun (w' : World) (hb : Below w1.heap.size w1 w') => common_any b.pl b.late (b.e1 i) (b.e2 j) w' HOK.out.pl.2 (HOK.out.e1 i HI.out).day (HOK.out.e2 j HJ.out).day (((HT1.out).mono hb).ones.sp HI.out) (((HT1.out).mono hb).others.sp HJ.out))
  refine wp_region_call 12 (fun v w2 => CmOut w2 b.pl b.late (b.e1 i) (b.e2 j) v ∧ Below w1.heap.size w1 w2) (by kernel_rfl) (by decide +kernel) rfl ?_
  apply Exists.intro
  refine ⟨fun K hK => ?_, ?_, fun w1 hb1 K Q' hK => ?_, ?_⟩
  · skip
    repeat (first | (refine wpCalm_skip rfl ?_) | (refine wpCalm_step rfl (fun K hK => ?_); go_simp; (first | (refine hK _ ?_; clear hK K) | (apply Exists.intro; refine ⟨fun _ => ?_, hK _ ?_⟩; (fail); clear hK K))))
    refine wpCalm_nil ?_
    exact hK
  · rfl
  · go_simp
    refine (HCO.out w1 hb1).mono ?_
    rintro e w2 ⟨⟨v, rfl, ho⟩, hb2⟩
    exact hK v w2 ⟨ho, bTrans hb1 hb2⟩
  clear HCO
  rintro v w2 ⟨⟨A, c, rfl, hsp⟩, hb2⟩
  apply Exists.intro
  refine ⟨fun K hK => ?_, fun w2 hb3 => ?_⟩
  · skip
    repeat (first | (refine wpCalm_skip rfl ?_) | (refine wpCalm_step rfl (fun K hK => ?_); go_simp; (first | (refine hK _ ?_; clear hK K) | (apply Exists.intro; refine ⟨fun _ => ?_, hK _ ?_⟩; (fail); clear hK K))))
    refine wpCalm_nil ?_
    exact hK
  have hb := bTrans hb2 hb3
  have HS := Lib.hid (hsp.mono hb3)
  clear hb2 hb3 hsp c0 c1 c2 d0 d1 d2 ha1 ha2 hl1 hl2
  have hB2 : Below w1.heap.size w1 w2 := bTrans (Below.refl _ _) hb
  have HD2 := Lib.hid (bTrans HD1.out hB2)
  have HT2 := Lib.hid (HT1.out.mono hB2)
  have HSP2 := Lib.hid (HS.out)
  have B2 := Lib.hid (B1.out.mono hB2)
  have R2 := Lib.hid (R1.out.mono hB2)
  clear hb hB2 HD1 HT1 B1 B_0 B_1 B_2 B_3 B_4 B_5 B_l R1 R_0 R_1 R_l
  obtain ⟨B_0, B_1, B_2, B_3, B_4, B_5, B_l⟩ := B2.out.c6
  obtain ⟨R_0, R_1, R_l⟩ := R2.out.c2
  clear HS
  rw [HCB.out]
  go_wp2_with fail
  refine (pence_any b { ca := A, cc := c, sp := comF (b.e1 i) (b.e2 j) } lo hi _ HOK.out HK.out HSP2.out HE.out).mono ?_
  rintro e w3 ⟨rfl, hb⟩
  have hB3 : Below w2.heap.size w2 w3 := bTrans (Below.refl _ _) hb
  have HD3 := Lib.hid (bTrans HD2.out hB3)
  have HT3 := Lib.hid (HT2.out.mono hB3)
  have HSP3 := Lib.hid (HSP2.out.mono hB3)
  have B3 := Lib.hid (B2.out.mono hB3)
  have R3 := Lib.hid (R2.out.mono hB3)
  clear hb hB3 HD2 HT2 HSP2 B2 B_0 B_1 B_2 B_3 B_4 B_5 B_l R2 R_0 R_1 R_l
  obtain ⟨B_0, B_1, B_2, B_3, B_4, B_5, B_l⟩ := B3.out.c6
  obtain ⟨R_0, R_1, R_l⟩ := R3.out.c2
  have rf0 := R3.out.frozen 0
  have rf1 := R3.out.frozen 1
  go_wp2_with fail
  refine bodyPost_ret (v := .tuple #[.agg #[.int .i64 lo, .int .i64 hi], .int .i64 0]) (by simp [results, Tryz.results17, go_sem, *]) rfl ⟨rfl, ?_⟩
  exact (Below.setCell (p := ⟨(w.heap.size + 1), 1, none⟩) (Below.setCell (p := ⟨(w.heap.size + 1), 0, none⟩) HD3.out (by simp <;> omega) _) (by simp <;> omega) _)
end Go.Proofs.YtifkjnmnflhnoaaGreatDoor

namespace Go.Proofs.YtifkjnmnflhnoaaGreatDoor
open Go.RowKit Go.Sort Go.Shelf
section
variable {F : Fence} {n : Nat} {P : Program} {w : World}
end
end Go.Proofs.YtifkjnmnflhnoaaGreatDoor

namespace Go.Proofs.YtifkjnmnflhnoaaGreatDoor
open Go.RowKit Go.Sort Go.Shelf
section
variable {F : Fence} {n : Nat} {P : Program} {w : World}
/-- the contract of an iterator that is a method's value -/
def SeqM {α : Type} (F : Fence) (n : Nat) (P : Program) (gf : Nat) (bnd lb : Array Value) (encs : α → Array Value) (Kp : World → World → Prop) (S : List α → Prop) (N : List α → α → World → Prop) (w : World) : Prop :=
  ∀ (l : Nat) (J : List α → World → Prop) (W : World), Below w.heap.size w W → OwnFrom W.heap.size J →
    (∀ pre x W1, J pre W1 → N pre x W1 → YieldAt F (n - 1) P l (encs x) W1 fun e W' => e = .returned (.bool true) ∧ J (pre ++ [x]) W' ∧ Kp W1 W' ∧ KeepsFrom W.heap.size W1 W') →
    J [] W → CallsIn F n P gf (bnd ++ #[.func (.yield l) #[] #[]] ++ lb) W fun e W' => (∃ v, e = .returned v) ∧ ∃ xs, S xs ∧ J xs W'
theorem wpIn_range_all {α : Type} {g : Operand} {ps : Array Tmp} {assign body : Code} {Q : Exit → Act → World → Prop} {a : Act}
    (hro : F.round = none) (h1 : 1 ≤ n) {gf : Nat} {bnd lb : Array Value} (hg : a.eval g = .func (.func gf) bnd lb) (hFg : F.fn gf) (eg : ∀ args w, (callFunc gf args).run P w = .ok (.enter gf args) w)
    {encs : α → Array Value} {Kp : World → World → Prop} {S : List α → Prop} {N : List α → α → World → Prop} (hseq : SeqM F (n - 1) P gf bnd lb encs Kp S N w)
    (hKt : ∀ {A B C : World}, Kp A B → Kp B C → Kp A C) (hKb : ∀ (W : World) (l : Nat) (o o' : Obj), w.heap.size ≤ l → W.heap[l]? = some o → o.isCells = false → Kp W (W.putObj l o')) (hps : ∀ x, (encs x).size = ps.size)
    (I : List α → World → Prop) (hI : OwnFrom w.heap.size I) (h0 : I [] w) (Ax : α → Act → World → Prop) (hAx : ∀ x a', OwnFrom w.heap.size (fun (_ : Unit) W => Ax x a' W))
    (hassign : ∀ (l : Nat) (pre : List α) (x : α) (W : World) (K : Act → World → Prop), w.heap.size ≤ W.heap.size → I pre W → N pre x W → (∀ a' W', KeepsFrom w.heap.size W W' → Kp W W' → I pre W' → Ax x a' W' → K a' W') →
      assign.wpIn (F.inRound l) (n - 1 - 1) P (Exit.then K (fun _ _ _ => False)) { tmps := (ps.zip (encs x)).foldl (fun t (p, v) => t.setIfInBounds p v) a.tmps, defers := [] } W)
    (hbody : ∀ (l : Nat) (pre : List α) (x : α) (a' : Act) (W : World), w.heap.size ≤ W.heap.size → (∃ r, W.heap[l]? = some (.loop r)) → I pre W → Ax x a' W → (∃ W0, N pre x W0) → body.wpIn (F.inRound l) (n - 1 - 1) P (ownPostG w.heap.size Kp I (fun _ _ _ => False) (pre ++ [x]) W) a' W)
    (hdone : ∀ (D : Nat) (xs : List α) (W : World), w.heap.size ≤ D → S xs → I xs W → W.heap[D]? = some (.deferred (some [])) → Q .normal { a with defers := { target := .collected D, args := #[] } :: a.defers } W) :
    (Code.rangeFunc g ps assign body).wpIn F n P Q a w := by
  refine wpIn_rangeFunc fun fn hfn => ?_
  rw [hro]
  obtain ⟨rec, hrec⟩ : ∃ rec : LoopState → Option Code → Loop, rec = fun st pe => { state := st, pending := pe, fn, tmps := a.tmps, params := ps, assign, body, defers := w.heap.size } := ⟨_, rfl⟩
  obtain ⟨W1, hW1⟩ : ∃ W1, (w.alloc (.deferred (some []))).alloc (.loop (rec .ready none)) = W1 := ⟨_, rfl⟩
  have hL1 : W1.heap[w.heap.size + 1]? = some (.loop (rec .ready none)) := by
    rw [← hW1]; have := World.alloc_heap_new (w.alloc (.deferred (some []))) (.loop (rec .ready none)); rwa [World.size_alloc] at this
  have hK1 : W1.heap[w.heap.size]? = some (.deferred (some [])) := by
    rw [← hW1]; exact (Below.heap_alloc _ _ _ (by simp)).trans (World.alloc_heap_new w _)
  have hI1 : I [] W1 := by rw [← hW1]; exact hI.alloc _ (hI.alloc _ h0)
  have hb1 : Below w.heap.size w W1 := by rw [← hW1]; exact bAlloc (bAlloc (Below.refl _ _) _) _
  refine ⟨w.heap.size + 1, [{ target := .collected w.heap.size, args := #[] }], W1, { target := .fn (.func gf) lb, args := bnd ++ #[.func (.yield (w.heap.size + 1)) #[] #[]] }, W1, gf,
    bnd ++ #[.func (.yield (w.heap.size + 1)) #[] #[]] ++ lb, W1, ?_, ?_, ?_, ?_, fun _ => h1, ?_⟩
  · rw [← hW1, hrec]; exact run_enterLoop_outer _ _ _ _ _
  · simp only [resolve, hg]
    simp [go_sem]
  · intro f' hf'; simp [Target.leads] at hf'; subst hf'; exact hFg
  · simp [invoke, go_sem, eg]
  · have hz1 : W1.heap.size = w.heap.size + 1 + 1 := by rw [← hW1]; simp
    have hnw : ∀ {A B : World} {row : Option Nat}, (∀ r, row = some r → W1.heap.size ≤ r ∧ ∃ o : Obj, A.heap[r]? = some o ∧ o.isCells = false) → (∀ r, row = some r → w.heap.size ≤ r ∧ ∃ o : Obj, A.heap[r]? = some o ∧ o.isCells = false) :=
      fun hr r e => by obtain ⟨hB, ho⟩ := hr r e; exact ⟨by omega, ho⟩
    have hkp : ∀ {A B : World} {row : Option Nat} {k : Nat} {o : Obj}, A.grownBy B row → (∀ r, row = some r → W1.heap.size ≤ r ∧ ∃ o : Obj, A.heap[r]? = some o ∧ o.isCells = false) → k < W1.heap.size → A.heap[k]? = some o → B.heap[k]? = some o :=
      fun hg' hr hk ho => (hg'.block _ (Array.getElem?_eq_some_iff.1 ho).1 (fun e => by have := (hr _ e.symm).1; omega)).trans ho
    refine (hseq (w.heap.size + 1)
      (fun pre W => I pre W ∧ W.heap[w.heap.size + 1]? = some (.loop (rec .ready none)) ∧ W.heap[w.heap.size]? = some (.deferred (some [])))
      W1 hb1
      (fun s A B row hs hg' hr => ⟨hI s A B row hs.1 hg' (hnw (B := B) hr), hkp hg' hr (by omega) hs.2.1, hkp hg' hr (by omega) hs.2.2⟩)
      ?_ ⟨hI1, hL1, hK1⟩).mono ?_
    · rintro pre x W ⟨hi, hl, hk⟩ hlen
      have hlt : w.heap.size + 1 < W.heap.size := (Array.getElem?_eq_some_iff.1 hl).1
      have hy := run_yield (P := P) (args := encs x) hl (by rw [hrec]; exact hps x)
      rw [hrec] at hy
      refine ⟨fn, _, assign, body, hy, roundIn_of_wpIn hfn (hassign _ pre x W _ (by omega) hi hlen ?_)⟩
      intro a' Wa hkfa hkpa hia hax
      have hla := hkfa.same _ _ (by omega) hl rfl
      have hka := hkfa.same _ _ (Nat.le_refl _) hk rfl
      have hlta : w.heap.size + 1 < Wa.heap.size := (Array.getElem?_eq_some_iff.1 hla).1
      refine ⟨_, run_beginRound hla (by rw [hrec]), ?_⟩
      obtain ⟨B, hBd⟩ : ∃ B, Wa.putObj (w.heap.size + 1) (.loop { rec .ready none with state := .busy }) = B := ⟨_, rfl⟩
      rw [hBd]
      have hl2 : B.heap[w.heap.size + 1]? = some (.loop { rec .ready none with state := .busy }) := by rw [← hBd]; exact World.putObj_heap_same hlta
      have hk2 : B.heap[w.heap.size]? = some (.deferred (some [])) := by rw [← hBd]; exact (World.putObj_heap_other (by omega)).trans hka
      have hw2 : Kp Wa B := by rw [← hBd]; exact hKb _ _ _ _ (by omega) hla rfl
      have hiB : I pre B := by rw [← hBd]; exact hI.putObj _ hia (by omega) hla rfl
      have haB : Ax x a' B := by rw [← hBd]; exact (hAx x a').putObj (s := ()) _ hax (by omega) hla rfl
      have hsB : w.heap.size ≤ B.heap.size := by have := (Array.getElem?_eq_some_iff.1 hl2).1; omega
      refine wpIn_mono (hbody _ pre x a' B hsB ⟨_, hl2⟩ hiB haB ⟨_, hlen⟩) ?_
      have fin : ∀ (jump : Option Code) (W3 : World), KeepsFrom w.heap.size B W3 →
          (Instr.endRound (w.heap.size + 1) jump).run P W3 = .ok (.bool jump.isNone) (W3.putObj (w.heap.size + 1) (.loop (rec (if jump.isNone then .ready else .done) jump))) ∧
          W3.heap[w.heap.size + 1]? = some (.loop { rec .ready none with state := .busy }) ∧
          (W3.putObj (w.heap.size + 1) (.loop (rec (if jump.isNone then .ready else .done) jump))).heap[w.heap.size + 1]? = some (.loop (rec (if jump.isNone then .ready else .done) jump)) ∧
          (W3.putObj (w.heap.size + 1) (.loop (rec (if jump.isNone then .ready else .done) jump))).heap[w.heap.size]? = some (.deferred (some [])) := fun jump W3 hk3 => by
        have hl3 := hk3.same _ _ (by omega) hl2 rfl
        have := run_endRound (P := P) jump hl3
        rw [hrec] at this ⊢
        exact ⟨this, by rw [hrec] at hl3; exact hl3, World.putObj_heap_same (Array.getElem?_eq_some_iff.1 hl3).1, (World.putObj_heap_other (by omega)).trans (hk3.same _ _ (Nat.le_refl _) hk2 rfl)⟩
      rintro e a3 W3 hp
      have kput : ∀ (X : World) (o : Obj), KeepsFrom W1.heap.size X (X.putObj (w.heap.size + 1) o) := fun X o => ⟨by simp [World.putObj], fun k ob hB hk _ => (World.putObj_heap_other (by omega)).trans hk⟩
      have kall : ∀ (jump : Option Code), KeepsFrom w.heap.size B W3 → KeepsFrom W1.heap.size W (W3.putObj (w.heap.size + 1) (.loop (rec (if jump.isNone then .ready else .done) jump))) := fun jump hk3 =>
        KeepsFrom.trans (KeepsFrom.trans (KeepsFrom.trans ⟨hkfa.size, fun k o hB hk ho => hkfa.same k o (by omega) hk ho⟩ (by rw [← hBd]; exact kput _ _)) ⟨hk3.size, fun k o hB hk ho => hk3.same k o (by omega) hk ho⟩) (kput _ _)
      cases e with
      | normal =>
        obtain ⟨hk3, hkp3, hi3⟩ := hp
        obtain ⟨hr, hl3, hl4, hk4⟩ := fin none W3 hk3
        exact ⟨_, _, hr, rfl, ⟨hI.putObj _ hi3 (by omega) hl3 rfl, hl4, hk4⟩, hKt hkpa (hKt (hKt hw2 hkp3) (hKb _ _ _ _ (by omega) hl3 rfl)), kall none hk3⟩
      | ret => exact hp.2.elim
      | exit id => exact hp.2.elim
      | goto t => exact hp.2.elim
      | panic ch => exact hp.elim
      | outgrown => exact hp.elim
    · rintro e W2 ⟨⟨v, rfl⟩, xs, hS, hi, hl, hk⟩
      exact ⟨none, _, by have := run_endLoop (P := P) hl (by rw [hrec]; simp); rw [hrec] at this; exact this, hdone _ xs _ (Nat.le_refl _) hS (hI.putObj _ hi (by omega) hl rfl) ((World.putObj_heap_other (by omega)).trans hk)⟩
end
end Go.Proofs.YtifkjnmnflhnoaaGreatDoor

namespace Go.Proofs.YtifkjnmnflhnoaaGreatDoor
open Go.RowKit Go.Sort

/-! ### Worlds -/
attribute [go_sem] cell_grow frozen_grow Instr.field asAgg
section
variable {w x y : World}
end

/-! ### Endings -/
/-! ### Plain notions -/
/-! ### How slices read -/
end Go.Proofs.YtifkjnmnflhnoaaGreatDoor


namespace Go.Proofs.YtifkjnmnflhnoaaGreatDoor
open Go.RowKit Go.Sort

end Go.Proofs.YtifkjnmnflhnoaaGreatDoor


namespace Go.Proofs.YtifkjnmnflhnoaaGreatDoor
open Go.RowKit Go.Sort
/-! ### How they read in memory -/
end Go.Proofs.YtifkjnmnflhnoaaGreatDoor

namespace Go.Proofs.YtifkjnmnflhnoaaGreatDoor
open Go.RowKit Go.Sort
end Go.Proofs.YtifkjnmnflhnoaaGreatDoor

namespace Go.Proofs.YtifkjnmnflhnoaaGreatDoor
open Go.RowKit Go.Sort

end Go.Proofs.YtifkjnmnflhnoaaGreatDoor


namespace Go.Proofs.YtifkjnmnflhnoaaGreatDoor
open Go.RowKit Go.Sort

end Go.Proofs.YtifkjnmnflhnoaaGreatDoor


namespace Go.Proofs.YtifkjnmnflhnoaaGreatDoor
open Go.RowKit Go.Sort
end Go.Proofs.YtifkjnmnflhnoaaGreatDoor

namespace Go.Proofs.YtifkjnmnflhnoaaGreatDoor
open Go.RowKit Go.Sort

end Go.Proofs.YtifkjnmnflhnoaaGreatDoor


namespace Go.Proofs.YtifkjnmnflhnoaaGreatDoor
open Go.RowKit Go.Sort

/-! ### Stops -/
end Go.Proofs.YtifkjnmnflhnoaaGreatDoor


namespace Go.Proofs.YtifkjnmnflhnoaaGreatDoor
open Go.RowKit Go.Sort

end Go.Proofs.YtifkjnmnflhnoaaGreatDoor


namespace Go.Proofs.YtifkjnmnflhnoaaGreatDoor
open Go.RowKit Go.Sort

end Go.Proofs.YtifkjnmnflhnoaaGreatDoor


namespace Go.Proofs.YtifkjnmnflhnoaaGreatDoor
open Go.RowKit Go.Sort

end Go.Proofs.YtifkjnmnflhnoaaGreatDoor


namespace Go.Proofs.YtifkjnmnflhnoaaGreatDoor
open Go.RowKit Go.Sort

end Go.Proofs.YtifkjnmnflhnoaaGreatDoor


namespace Go.Proofs.YtifkjnmnflhnoaaGreatDoor
open Go.RowKit Go.Sort
end Go.Proofs.YtifkjnmnflhnoaaGreatDoor


namespace Go.Proofs.YtifkjnmnflhnoaaGreatDoor
open Go.RowKit Go.Sort

end Go.Proofs.YtifkjnmnflhnoaaGreatDoor


namespace Go.Proofs.YtifkjnmnflhnoaaGreatDoor
open Go.RowKit Go.Sort

section
variable {P : Program} {ops : Array Oper} {md : Region.Mode}

/-! ### The frame behind some of the operations -/
/-! ### Operations that are calm: one value in every world that is the first one with new blocks; what they leave is that with new blocks -/
attribute [go_sem] Oper.calm Oper.calmAt Oper.calmUpon
/-! ### Whoever looks at a slot, and whoever writes it, wait for each other -/
end
end Go.Proofs.YtifkjnmnflhnoaaGreatDoor


namespace Go.Proofs.YtifkjnmnflhnoaaGreatDoor
open Go.RowKit Go.Sort
section
variable {P : Program} {ops : Array Oper} {md : Region.Mode}
end
end Go.Proofs.YtifkjnmnflhnoaaGreatDoor


namespace Go.Proofs.YtifkjnmnflhnoaaGreatDoor
open Go.RowKit Go.Sort
end Go.Proofs.YtifkjnmnflhnoaaGreatDoor


namespace Go.Proofs.YtifkjnmnflhnoaaGreatDoor
open Go.RowKit Go.Sort
end Go.Proofs.YtifkjnmnflhnoaaGreatDoor


namespace Go.Proofs.YtifkjnmnflhnoaaGreatDoor
open Go.RowKit Go.Sort
end Go.Proofs.YtifkjnmnflhnoaaGreatDoor


namespace Go.Proofs.YtifkjnmnflhnoaaGreatDoor
open Go.RowKit Go.Sort
end Go.Proofs.YtifkjnmnflhnoaaGreatDoor


namespace Go.Proofs.YtifkjnmnflhnoaaGreatDoor
open Go.RowKit Go.Sort
end Go.Proofs.YtifkjnmnflhnoaaGreatDoor


namespace Go.Proofs.YtifkjnmnflhnoaaGreatDoor
open Go.RowKit Go.Sort
end Go.Proofs.YtifkjnmnflhnoaaGreatDoor


namespace Go.Proofs.YtifkjnmnflhnoaaGreatDoor
open Go.RowKit Go.Sort
end Go.Proofs.YtifkjnmnflhnoaaGreatDoor


namespace Go.Proofs.YtifkjnmnflhnoaaGreatDoor
open Go.RowKit Go.Sort
end Go.Proofs.YtifkjnmnflhnoaaGreatDoor


namespace Go.Proofs.YtifkjnmnflhnoaaGreatDoor
open Go.RowKit Go.Sort
end Go.Proofs.YtifkjnmnflhnoaaGreatDoor


namespace Go.Proofs.YtifkjnmnflhnoaaGreatDoor
open Go.RowKit Go.Sort
end Go.Proofs.YtifkjnmnflhnoaaGreatDoor


namespace Go.Proofs.YtifkjnmnflhnoaaGreatDoor
open Go.RowKit Go.Sort
end Go.Proofs.YtifkjnmnflhnoaaGreatDoor


namespace Go.Proofs.YtifkjnmnflhnoaaGreatDoor
open Go.RowKit Go.Sort
end Go.Proofs.YtifkjnmnflhnoaaGreatDoor


namespace Go.Proofs.YtifkjnmnflhnoaaGreatDoor
open Go.RowKit Go.Sort
end Go.Proofs.YtifkjnmnflhnoaaGreatDoor


namespace Go.Proofs.YtifkjnmnflhnoaaGreatDoor
open Go.RowKit Go.Sort
end Go.Proofs.YtifkjnmnflhnoaaGreatDoor


namespace Go.Proofs.YtifkjnmnflhnoaaGreatDoor
open Go.RowKit Go.Sort
end Go.Proofs.YtifkjnmnflhnoaaGreatDoor


namespace Go.Proofs.YtifkjnmnflhnoaaGreatDoor
open Go.RowKit Go.Sort
end Go.Proofs.YtifkjnmnflhnoaaGreatDoor


namespace Go.Proofs.YtifkjnmnflhnoaaGreatDoor
open Go.RowKit Go.Sort
end Go.Proofs.YtifkjnmnflhnoaaGreatDoor


namespace Go.Proofs.YtifkjnmnflhnoaaGreatDoor
open Go.RowKit Go.Sort
end Go.Proofs.YtifkjnmnflhnoaaGreatDoor


namespace Go.Proofs.YtifkjnmnflhnoaaGreatDoor
open Go.RowKit Go.Sort
end Go.Proofs.YtifkjnmnflhnoaaGreatDoor


namespace Go.Proofs.YtifkjnmnflhnoaaGreatDoor
open Go.RowKit Go.Sort
end Go.Proofs.YtifkjnmnflhnoaaGreatDoor


namespace Go.Proofs.YtifkjnmnflhnoaaGreatDoor
open Go.RowKit Go.Sort
end Go.Proofs.YtifkjnmnflhnoaaGreatDoor


namespace Go.Proofs.YtifkjnmnflhnoaaGreatDoor
open Go.RowKit Go.Sort
section
variable {P : Program} {ops : Array Oper} {md : Region.Mode}
attribute [go_sem] Oper.heldAt Oper.heldUpon newer_refl depsP
end
end Go.Proofs.YtifkjnmnflhnoaaGreatDoor


namespace Go.Proofs.YtifkjnmnflhnoaaGreatDoor
open Go.RowKit Go.Sort
end Go.Proofs.YtifkjnmnflhnoaaGreatDoor


namespace Go.Proofs.YtifkjnmnflhnoaaGreatDoor
open Go.RowKit Go.Sort
end Go.Proofs.YtifkjnmnflhnoaaGreatDoor


namespace Go.Proofs.YtifkjnmnflhnoaaGreatDoor
open Go.RowKit Go.Sort
/-! ### errors -/
/-! ### what each function returns -/
end Go.Proofs.YtifkjnmnflhnoaaGreatDoor

namespace Go.Proofs.YtifkjnmnflhnoaaGreatDoor
open Go.RowKit Go.Sort
end Go.Proofs.YtifkjnmnflhnoaaGreatDoor

namespace Go.Proofs.YtifkjnmnflhnoaaGreatDoor
open Go.RowKit Go.Sort
end Go.Proofs.YtifkjnmnflhnoaaGreatDoor

namespace Go.Proofs.YtifkjnmnflhnoaaGreatDoor
open Go.RowKit Go.Sort
end Go.Proofs.YtifkjnmnflhnoaaGreatDoor

namespace Go.Proofs.YtifkjnmnflhnoaaGreatDoor
open Go.RowKit Go.Sort Go.Shelf
attribute [local go_sem] Oper.semAt_some
end Go.Proofs.YtifkjnmnflhnoaaGreatDoor

namespace Go.Proofs.YtifkjnmnflhnoaaGreatDoor
open Go.RowKit Go.Sort Go.Shelf
attribute [local go_sem] Oper.semAt_some
theorem owns_some {w : World} {base : Nat} {e : TypeId} {size : Nat} {v : Value} {n : Nat} {xs : List Value} (h : w.ownsRow base e size v n xs) (hn : 0 < n) : ∃ g c, v = .slice (some ⟨g, 0, none⟩) n c := by
  rcases h.2 with ⟨_, h0⟩ | ⟨g, c, _, hv, _⟩
  · omega
  · exact ⟨g, c, hv⟩
end Go.Proofs.YtifkjnmnflhnoaaGreatDoor

namespace Go.Proofs.YtifkjnmnflhnoaaGreatDoor
open Go.RowKit Go.Sort
end Go.Proofs.YtifkjnmnflhnoaaGreatDoor

namespace Go.Proofs.YtifkjnmnflhnoaaGreatDoor
open Go.RowKit Go.Sort Go.Shelf
section
variable {F : Fence} {n : Nat} {P : Program}
end
end Go.Proofs.YtifkjnmnflhnoaaGreatDoor

namespace Go.Proofs.YtifkjnmnflhnoaaGreatDoor
open Go.RowKit Go.Sort Go.Shelf
attribute [local go_sem] Oper.semAt_some
theorem below_chain {N : Nat} {A B D : World} (h : Below N A B) (k : Below N B D) : Below N A D :=
  ⟨k.os.trans h.os, k.tape.trans h.tape, k.output.trans h.output, Nat.le_trans h.size k.size, fun j hj => (k.block j hj).trans (h.block j hj)⟩
end Go.Proofs.YtifkjnmnflhnoaaGreatDoor

namespace Go.Proofs.YtifkjnmnflhnoaaGreatDoor
open Go.RowKit Go.Sort
attribute [local go_sem] Oper.semAt_some
/-! ### all matchings, as lists -/
abbrev PrL := List (Nat × Nat)
def bitU (u o : Nat) : Bool := u / 2 ^ o % 2 == 1
def matL (ok : Nat → Nat → Bool) (n2 : Nat) : Nat → Nat → Nat → PrL → List PrL
  | 0, _, _, m => [m]
  | left + 1, one, u, m => matL ok n2 left (one + 1) u m ++ (List.range n2).flatMap fun o => if !bitU u o && ok one o then matL ok n2 left (one + 1) (u + 2 ^ o) (m ++ [(one, o)]) else []
def matTo (ok : Nat → Nat → Bool) (n2 left one u : Nat) (m : PrL) (k : Nat) : List PrL := matL ok n2 left (one + 1) u m ++ (List.range k).flatMap fun o => if !bitU u o && ok one o then matL ok n2 left (one + 1) (u + 2 ^ o) (m ++ [(one, o)]) else []
theorem matTo_zero (ok : Nat → Nat → Bool) (n2 left one u : Nat) (m : PrL) : matTo ok n2 left one u m 0 = matL ok n2 left (one + 1) u m := by unfold matTo; simp
theorem matTo_succ (ok : Nat → Nat → Bool) (n2 left one u : Nat) (m : PrL) (k : Nat) : matTo ok n2 left one u m (k + 1) = matTo ok n2 left one u m k ++ (if !bitU u k && ok one k then matL ok n2 left (one + 1) (u + 2 ^ k) (m ++ [(one, k)]) else []) := by
  unfold matTo
  rw [List.range_succ, List.flatMap_append, List.append_assoc]
  simp
theorem matTo_len {ok : Nat → Nat → Bool} {n2 left one u : Nat} {m : PrL} {k n : Nat} (h : k ≤ n) : (matTo ok n2 left one u m k).length ≤ (matTo ok n2 left one u m n).length := by
  induction n with
  | zero => obtain rfl : k = 0 := by omega
            exact Nat.le_refl _
  | succ n ih =>
    rcases Nat.eq_or_lt_of_le h with e | e
    · rw [e]; exact Nat.le_refl _
    · rw [matTo_succ, List.length_append]
      exact Nat.le_trans (ih (by omega)) (Nat.le_add_right _ _)
theorem matTo_count {ok : Nat → Nat → Bool} {n2 left one u : Nat} {m : PrL} {k : Nat} (hk : k < n2) (hb : bitU u k = false) (ho : ok one k = true) : (matTo ok n2 left one u m k).length + (matL ok n2 left (one + 1) (u + 2 ^ k) (m ++ [(one, k)])).length ≤ (matL ok n2 (left + 1) one u m).length := by
  have h := matTo_len (ok := ok) (n2 := n2) (left := left) (one := one) (u := u) (m := m) (show k + 1 ≤ n2 by omega)
  rw [matTo_succ, hb, ho, List.length_append] at h
  exact h
theorem matL_bd (ok : Nat → Nat → Bool) (n2 : Nat) : ∀ left one u m, (matL ok n2 left one u m).length ≤ (n2 + 1) ^ left
  | 0, _, _, _ => Nat.le_refl _
  | left + 1, one, u, m => by
    have key : ∀ k, (matTo ok n2 left one u m k).length ≤ (k + 1) * (n2 + 1) ^ left := by
      intro k
      induction k with
      | zero => rw [matTo_zero]; have := matL_bd ok n2 left (one + 1) u m; omega
      | succ k ih =>
        rw [matTo_succ, List.length_append, Nat.succ_mul (k + 1)]
        have h2 : (if (!bitU u k && ok one k) = true then matL ok n2 left (one + 1) (u + 2 ^ k) (m ++ [(one, k)]) else []).length ≤ (n2 + 1) ^ left := by
          split
          · exact matL_bd ok n2 left _ _ _
          · exact Nat.zero_le _
        omega
    have h := key n2
    rw [Nat.pow_succ, Nat.mul_comm]
    exact h
def fpE : Elem (Nat × Nat) := { enc := fun x => [.int .i64 (x.1 : Int), .int .i64 (x.2 : Int)], size := 2, ty := 89, sl := 87, z := .agg #[.int .i64 0, .int .i64 0], bytes := 16 }
theorem fpG : fpE.Good :=
  ⟨by kernel_rfl, by kernel_rfl, by decide, by decide, fun _ => rfl, fun x u hu => by
    rcases (by simpa [fpE] using hu : u = .int .i64 (x.1 : Int) ∨ u = .int .i64 (x.2 : Int)) with rfl | rfl <;> rfl, by decide⟩
/-- a matching in memory -/
structure Mt where
  a : Option Addr
  c : Nat
  l : PrL
def encM (x : Mt) : Array Value := #[.slice x.a x.l.length x.c]
structure MAt (w : World) (x : Mt) : Prop where
  nil : x.a = none → x.l = []
  row : RowK w x.a 89 (fpE.cells x.l)
  cap : x.l.length ≤ x.c ∧ x.c ≤ 9223372036854775807
def tysM : List TypeId := [41, 132, 133, 89]
def KpM (N : Nat) (A B : World) : Prop := Below N A B ∧ Kept tysM A B
theorem KpM.trans {N : Nat} {A B C : World} (h : KpM N A B) (k : KpM N B C) : KpM N A C := ⟨below_chain h.1 k.1, h.2.trans k.2⟩
theorem KpM.of_below {N : Nat} {A B : World} (h : Below A.heap.size A B) (hN : N ≤ A.heap.size) : KpM N A B := ⟨⟨h.os, h.tape, h.output, h.size, fun k hk => h.block k (by omega)⟩, Kept.of_below h⟩
theorem KpM.refl (N : Nat) (A : World) (hN : N ≤ A.heap.size) : KpM N A A := KpM.of_below (Below.refl _ _) hN
theorem MAt.kp {N : Nat} {A B : World} {x : Mt} (h : MAt A x) (k : KpM N A B) : MAt B x := ⟨h.nil, h.row.kept k.2 (by simp [tysM]), h.cap⟩
/-- what the closure has captured -/
structure MEnv (w0 : World) (b : Bk) (l fb yb ff : Nat) (w : World) : Prop where
  below : Below w0.heap.size w0 w
  books : TBox w fb 41 #[.int .i64 b.base, .int .i64 (b.pl : Int), .int .i64 b.pers, .int .i64 b.late, .slice b.a1 b.n1 b.c1, .slice b.a2 b.n2 b.c2]
  yield : TBox w yb 132 #[.func (.yield l) #[] #[]]
  self : TBox w ff 133 #[.func (.func 79) #[] #[.pointer (some ⟨fb, 0, none⟩), .pointer (some ⟨yb, 0, none⟩), .pointer (some ⟨ff, 0, none⟩)]]
theorem MEnv.kp {w0 : World} {b : Bk} {l fb yb ff : Nat} {A B : World} (h : MEnv w0 b l fb yb ff A) (k : KpM w0.heap.size A B) : MEnv w0 b l fb yb ff B := ⟨below_chain h.below k.1, h.books.kept k.2 (by simp [tysM]), h.yield.kept k.2 (by simp [tysM]), h.self.kept k.2 (by simp [tysM])⟩
theorem yieldAt_wide {m m' l : Nat} {P : Program} {args : Array Value} {W : World} {R : Ending → World → Prop} (h : YieldAt Fence.wide m P l args W R) : YieldAt Fence.wide m' P l args W R := by
  obtain ⟨fn, tmps, assign, body, hy, hf, hR⟩ := h
  exact ⟨fn, tmps, assign, body, hy, hf, fun c cs _ => hR c cs (room_wide _)⟩
section
variable {P : Program} {md : Region.Mode} {ops : Array Oper}
theorem wpStir_heldG {W : World} {Q : Act → World → Prop} {k : Nat} {o : Oper} {l : List Oper} {s : Value → Prop} {r : World → Value → Prop} {hs : List Stir} {a : Act} {F : List (Nat × (World → Prop))} (hg : Region.wanted o (yielded ops a.tmps) = true)
    (h1 : ∀ w', Below W.heap.size W w' → depsP md ops k F w' → Oper.stirAt P o a w' Newer (fun w v => s v ∧ r w v))
    (h2 : ∀ v, s v → wpStir P md ops W Q (k + 1) l hs (a.put o.dst v) ((k, fun w => r w v) :: F)) : wpStir P md ops W Q k (o :: l) (.held s r :: hs) a F := by
  refine ⟨?_, fun v hv => h2 v hv⟩
  unfold Oper.stirAsk
  rw [if_pos hg]
  exact fun p => h1 _ (below_regrown _ _ _)
theorem wpStir_constG {W : World} {Q : Act → World → Prop} {k : Nat} {o : Oper} {l : List Oper} {c : Value} {hs : List Stir} {a : Act} {F : List (Nat × (World → Prop))} (hg : Region.wanted o (yielded ops a.tmps) = true)
    (h1 : ∀ w', Below W.heap.size W w' → Oper.stirAt P o a w' Newer (fun _ v => v = c))
    (h2 : wpStir P md ops W Q (k + 1) l hs (a.put o.dst c) F) : wpStir P md ops W Q k (o :: l) (.const c :: hs) a F := by
  refine wpStir_const ?_ h2
  rw [if_pos hg]
  exact fun p _ => h1 _ (below_regrown _ _ _)
theorem wpList_want {Q : Exit → Act → World → Prop} {o : Oper} {rest : List Oper} {a : Act} {w : World} (hg : Region.wanted o (yielded ops a.tmps) = true) (h : o.wp P a w (wpList P ops Q rest) Q) : wpList P ops Q (o :: rest) a w := by
  simp only [wpList]
  rw [if_pos hg]
  exact .inl h
theorem wpList_enter {Q : Exit → Act → World → Prop} {o : Oper} {rest : List Oper} {a : Act} {w : World} {f : FuncId} {args : Array Value} {R : Ending → World → Prop} (hg : Region.wanted o (yielded ops a.tmps) = true) (hrun : (execOp a.eval o).run P w = .ok (.enter f args) w) (hc : Calls P f args w R)
    (h : ∀ e w', R e w' → ∃ v, e = .returned v ∧ wpList P ops Q rest (a.put o.dst v) w') : wpList P ops Q (o :: rest) a w := by
  refine wpList_want hg ?_
  unfold Oper.wp
  rw [hrun]
  refine hc.mono fun e w' hr => ?_
  obtain ⟨v, rfl, hv⟩ := h e w' hr
  exact hv
end
def MYield (w0 : World) (B0 ny l : Nat) (J : List Mt → World → Prop) : Prop := ∀ pre x W1, pre.length < 100000 → J pre W1 → MAt W1 x → YieldAt Fence.wide ny Tryz.prog l (encM x) W1 fun e W' => e = .returned (.bool true) ∧ J (pre ++ [x]) W' ∧ KpM w0.heap.size W1 W' ∧ KeepsFrom B0 W1 W'
theorem bit_fin : ∀ u : Fin 32, ∀ k : Fin 5, (bits BinOp.and IntKind.u64 ((u.1 : Int) / 2 ^ min k.1 64) 1 == 1) = bitU u.1 k.1 := by decide +kernel
theorem shl_fin : ∀ k : Fin 5, IntKind.u64.wrap ((2 : Int) ^ min k.1 64) = ((2 ^ k.1 : Nat) : Int) := by decide +kernel
theorem or_fin : ∀ u : Fin 32, ∀ k : Fin 5, bitU u.1 k.1 = false → bits BinOp.or IntKind.u64 (u.1 : Int) ((2 ^ k.1 : Nat) : Int) = ((u.1 + 2 ^ k.1 : Nat) : Int) ∧ u.1 + 2 ^ k.1 < 32 := by decide +kernel
theorem OwnE.mat {w : World} {base : Nat} {v : Value} {l : PrL} (h : OwnE fpE w base v l) (h0 : l ≠ []) : ∃ g c, v = .slice (some ⟨g, 0, none⟩) l.length c ∧ MAt w ⟨some ⟨g, 0, none⟩, c, l⟩ := by
  obtain ⟨A, c, e, hr⟩ := RowK.own h
  have hp : 0 < l.length := List.length_pos_iff.2 h0
  rcases h.2 with ⟨rfl, h1⟩ | ⟨g, cap, cur, rfl, _, _, h3, h4, _⟩
  · omega
  · injection e with e1 _ e2
    subst e1 e2
    exact ⟨g, _, rfl, ⟨(fun h => by cases h), hr, h3, by unfold maxLen at h4; omega⟩⟩
def okB (b : Bk) (i j : Nat) : Bool := comB b.late (b.e1 i) (b.e2 j) b.pl
def FromOut (w0 : World) (J : List Mt → World → Prop) (pre : List Mt) (L : List PrL) (W W' : World) (e : Ending) : Prop := e = .returned (.bool true) ∧ (∃ xs : List Mt, xs.map Mt.l = L ∧ J (pre ++ xs) W') ∧ KpM w0.heap.size W W'
end Go.Proofs.YtifkjnmnflhnoaaGreatDoor

