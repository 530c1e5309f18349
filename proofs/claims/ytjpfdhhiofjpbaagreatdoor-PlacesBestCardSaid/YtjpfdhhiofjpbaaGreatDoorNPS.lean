/- Parts joined. -/
import Derived.Test.YtjpfdhhiofjpbaaGreatDoorNPR
import Derived.Test.YtjpfdhhiofjpbaaGreatDoorNPN
set_option linter.unusedSimpArgs false
set_option linter.unusedVariables false
/- The walk of Example of the law 09. No condition. -/
namespace Go.Proofs.YtjpfdhhiofjpbaaGreatDoor
open Go.RowKit Go.Sort
theorem Fut.sets {N : Nat} {Q : World → Prop} {w : World} {b : Nat} (h : Fut N Q w) (hb : b < N) (v0 v1 v2 v3 v4 v5 v6 v7 v8 : Value) : Q (((((((((w.setCell ⟨b, 0, none⟩ v0).setCell ⟨b, 1, none⟩ v1).setCell ⟨b, 2, none⟩ v2).setCell ⟨b, 3, none⟩ v3).setCell ⟨b, 4, none⟩ v4).setCell ⟨b, 5, none⟩ v5).setCell ⟨b, 6, none⟩ v6).setCell ⟨b, 7, none⟩ v7).setCell ⟨b, 8, none⟩ v8) := by
  refine h _ (by simp [World.setCell]) fun k hk _ => ?_
  have hne : k ≠ b := by omega
  iterate 9 rw [Below.heap_setCell _ _ _ k hne]
def ExOut9 (w : World) (e : Ending) : Prop := ∃ (Aw Ao Ap As : Option Addr), e = .returned (.agg #[.int .i64 2, .slice Aw 2 2, .slice none 0 0, .slice Ao 2 2, .slice Ap 2 2, .slice As 3 3, .int .i64 8, .int .i64 6, .int .i64 3]) ∧ PAt w Aw none Ao Ap As exP
set_option maxHeartbeats 16000000 in
set_option maxRecDepth 100000 in
theorem example9_any (w : World) : Calls Tryz.prog 76 #[] w fun e w' => ExOut9 w' e ∧ Below w.heap.size w w' := by
  go_enter Tryz.func76, Tryz.ntmps76
  go_wp2_with fail
  have hB : Below w.heap.size w ((w.alloc (.cells #[.int .i64 0, .slice none 0 0, .slice none 0 0, .slice none 0 0, .slice none 0 0, .slice none 0 0, .int .i64 0, .int .i64 0, .int .i64 0] 29)).alloc (.cells #[.int .i64 1, .int .i64 5, .int .i64 3, .int .i64 2] 146)) := bAlloc (bAlloc (Below.refl _ _) _) _
  have hT0 : TBox ((w.alloc (.cells #[.int .i64 0, .slice none 0 0, .slice none 0 0, .slice none 0 0, .slice none 0 0, .slice none 0 0, .int .i64 0, .int .i64 0, .int .i64 0] 29)).alloc (.cells #[.int .i64 1, .int .i64 5, .int .i64 3, .int .i64 2] 146)) w.heap.size 29 #[.int .i64 0, .slice none 0 0, .slice none 0 0, .slice none 0 0, .slice none 0 0, .slice none 0 0, .int .i64 0, .int .i64 0, .int .i64 0] := TBox.mono (TBox.new w #[.int .i64 0, .slice none 0 0, .slice none 0 0, .slice none 0 0, .slice none 0 0, .slice none 0 0, .int .i64 0, .int .i64 0, .int .i64 0] 29) (bAlloc (Below.refl _ _) _)
  have hR0 : TBox ((w.alloc (.cells #[.int .i64 0, .slice none 0 0, .slice none 0 0, .slice none 0 0, .slice none 0 0, .slice none 0 0, .int .i64 0, .int .i64 0, .int .i64 0] 29)).alloc (.cells #[.int .i64 1, .int .i64 5, .int .i64 3, .int .i64 2] 146)) (w.heap.size + 1) 146 #[.int .i64 1, .int .i64 5, .int .i64 3, .int .i64 2] := by
    have := TBox.new (w.alloc (.cells #[.int .i64 0, .slice none 0 0, .slice none 0 0, .slice none 0 0, .slice none 0 0, .slice none 0 0, .int .i64 0, .int .i64 0, .int .i64 0] 29)) #[.int .i64 1, .int .i64 5, .int .i64 3, .int .i64 2] 146
    simpa [TBox] using this
  have hZ : w.heap.size + 2 ≤ ((w.alloc (.cells #[.int .i64 0, .slice none 0 0, .slice none 0 0, .slice none 0 0, .slice none 0 0, .slice none 0 0, .int .i64 0, .int .i64 0, .int .i64 0] 29)).alloc (.cells #[.int .i64 1, .int .i64 5, .int .i64 3, .int .i64 2] 146)).heap.size := by simp
  generalize ((w.alloc (.cells #[.int .i64 0, .slice none 0 0, .slice none 0 0, .slice none 0 0, .slice none 0 0, .slice none 0 0, .int .i64 0, .int .i64 0, .int .i64 0] 29)).alloc (.cells #[.int .i64 1, .int .i64 5, .int .i64 3, .int .i64 2] 146)) = W at *
  have HB := Lib.hid hB
  have HT0 := Lib.hid hT0
  have HZ := Lib.hid hZ
  have k0 : W.cell? ⟨w.heap.size + 1, 0, none⟩ = some (.int .i64 1) := hR0.cell 0
  have k1 : W.cell? ⟨w.heap.size + 1, 1, none⟩ = some (.int .i64 5) := hR0.cell 1
  have k2 : W.cell? ⟨w.heap.size + 1, 2, none⟩ = some (.int .i64 3) := hR0.cell 2
  have k3 : W.cell? ⟨w.heap.size + 1, 3, none⟩ = some (.int .i64 2) := hR0.cell 3
  have kl := hR0.lt
  clear hB hT0 hR0 hZ
  refine wp_region_stir 37 [.held (SlS 2) (SlR 2 W.heap.size (fun w A => IntsAt w A 2 ((exPw 0).fall 0))), .held (SlS 2) (SlR 2 W.heap.size (fun w A => IntsAt w A 2 ((exPw 0).fall 1))), .held (SlS 2) (SlR 2 W.heap.size (fun w A => RowsAt w A (exPw 0))), .held WlS (WlR W.heap.size (fun w A => RowsAt w A (exPw 0))), .held (SlS 2) (SlR 2 W.heap.size (fun w A => IntsAt w A 2 ((exPw 1).fall 0))), .held (SlS 2) (SlR 2 W.heap.size (fun w A => IntsAt w A 2 ((exPw 1).fall 1))), .held (SlS 2) (SlR 2 W.heap.size (fun w A => RowsAt w A (exPw 1))), .held WlS (WlR W.heap.size (fun w A => RowsAt w A (exPw 1))), .held (SlS 2) (SlR 2 W.heap.size (fun w A => QAt w A none exPq)), .held TwS (TwR W.heap.size (fun w A => QAt w A none exPq)), .held (SlS 2) (SlR 2 W.heap.size (fun w A => IntsAt w A 2 (exP.old))), .held (SlS 2) (SlR 2 W.heap.size (fun w A => IntsAt w A 2 (exP.pence))), .const (.agg #[.int .i64 1, .int .i64 5, .int .i64 3, .int .i64 2]), .held (SlS 1) (SlR 1 W.heap.size (fun w A => RocksAt w A 1 (fun _ => exPr))), .held (SlS 3) (SlR 3 W.heap.size (fun w A => IntsAt w A 3 (fun _ => 0))), .held (SfS 3) (SfR 3 W.heap.size), .held (SlS 2) (SlR 2 W.heap.size (fun w A => IntsAt w A 2 ((exPf 0).fall 0))), .held (SlS 2) (SlR 2 W.heap.size (fun w A => IntsAt w A 2 ((exPf 0).fall 1))), .held (SlS 2) (SlR 2 W.heap.size (fun w A => RowsAt w A (exPf 0))), .held (SpS 15 3) (SpR 15 3 W.heap.size (exPf 0)), .const (.agg #[.int .i64 1, .int .i64 5, .int .i64 3, .int .i64 2]), .held (SlS 1) (SlR 1 W.heap.size (fun w A => RocksAt w A 1 (fun _ => exPr))), .held (SlS 4) (SlR 4 W.heap.size (fun w A => IntsAt w A 4 (fun _ => 0))), .held (SfS 4) (SfR 4 W.heap.size), .held (SlS 2) (SlR 2 W.heap.size (fun w A => IntsAt w A 2 ((exPf 1).fall 0))), .held (SlS 2) (SlR 2 W.heap.size (fun w A => IntsAt w A 2 ((exPf 1).fall 1))), .held (SlS 2) (SlR 2 W.heap.size (fun w A => RowsAt w A (exPf 1))), .held (SpS 30 4) (SpR 30 4 W.heap.size (exPf 1)), .const (.agg #[.int .i64 1, .int .i64 5, .int .i64 3, .int .i64 2]), .held (SlS 1) (SlR 1 W.heap.size (fun w A => RocksAt w A 1 (fun _ => exPr))), .held (SlS 6) (SlR 6 W.heap.size (fun w A => IntsAt w A 6 (fun _ => 0))), .held (SfS 6) (SfR 6 W.heap.size), .held (SlS 2) (SlR 2 W.heap.size (fun w A => IntsAt w A 2 ((exPf 2).fall 0))), .held (SlS 2) (SlR 2 W.heap.size (fun w A => IntsAt w A 2 ((exPf 2).fall 1))), .held (SlS 2) (SlR 2 W.heap.size (fun w A => RowsAt w A (exPf 2))), .held (SpS 80 6) (SpR 80 6 W.heap.size (exPf 2)), .held (SlS 3) (SlR 3 W.heap.size (fun w A => SpotsAt w A 3 exPs))] (by kernel_rfl) (by kernel_rfl) rfl ?hg ?hx ?_
  case hx => exact crossAll_no _ _ _ _ trivial
  case hg => exact ⟨slrG, slrG, slrG, wlrG, slrG, slrG, slrG, wlrG, slrG, twrG, slrG, slrG, trivial, slrG, slrG, sfrG, slrG, slrG, slrG, sprG, trivial, slrG, slrG, sfrG, slrG, slrG, slrG, sprG, trivial, slrG, slrG, sfrG, slrG, slrG, slrG, sprG, slrG, trivial⟩
  refine wpStir_held rfl (fun w' hb hd => ?_) (fun v hv => ?_)
  · skip
    clear hd
    have HZ9 := Lib.hid hb.size
    clear hb
    go_simp
    exact ⟨bAlloc (Below.refl _ _) _, ⟨_, rfl⟩, slr_of (fut_new HZ9.out fun w2 hl hx hF => ints2 hl (hx.cell 0) (hx.cell 1))⟩
  obtain ⟨b0, rfl⟩ := hv
  simp only [Act.put, List.setIfInBounds_toArray, List.set_cons_succ, List.set_cons_zero]
  refine wpStir_held rfl (fun w' hb hd => ?_) (fun v hv => ?_)
  · skip
    clear hd
    have HZ9 := Lib.hid hb.size
    clear hb
    go_simp
    exact ⟨bAlloc (Below.refl _ _) _, ⟨_, rfl⟩, slr_of (fut_new HZ9.out fun w2 hl hx hF => ints2 hl (hx.cell 0) (hx.cell 1))⟩
  obtain ⟨b1, rfl⟩ := hv
  simp only [Act.put, List.setIfInBounds_toArray, List.set_cons_succ, List.set_cons_zero]
  refine wpStir_held rfl (fun w' hb hd => ?_) (fun v hv => ?_)
  · skip
    have H0 := Lib.hid (hd.2.1 (by kernel_rfl) _ rfl)
    have H1 := Lib.hid (hd.1 (by kernel_rfl) _ rfl)
    clear hd
    have HZ9 := Lib.hid hb.size
    clear hb
    go_simp
    exact ⟨bAlloc (Below.refl _ _) _, ⟨_, rfl⟩, slr_of (fut_new HZ9.out fun w2 hl hx hF => rowsTwo rfl rfl rfl hl (hx.cell 0) (hx.cell 1) (hF _ H0.out) (hF _ H1.out))⟩
  obtain ⟨b2, rfl⟩ := hv
  simp only [Act.put, List.setIfInBounds_toArray, List.set_cons_succ, List.set_cons_zero]
  refine wpStir_held rfl (fun w' hb hd => ?_) (fun v hv => ?_)
  · skip
    have H0 := Lib.hid (hd.1 (by kernel_rfl) _ rfl)
    clear hd
    have HZ9 := Lib.hid hb.size
    clear hb
    go_simp
    exact ⟨⟨_, rfl⟩, wlr_of H0.out⟩
  obtain ⟨b3, rfl⟩ := hv
  simp only [Act.put, List.setIfInBounds_toArray, List.set_cons_succ, List.set_cons_zero]
  refine wpStir_held rfl (fun w' hb hd => ?_) (fun v hv => ?_)
  · skip
    clear hd
    have HZ9 := Lib.hid hb.size
    clear hb
    go_simp
    exact ⟨bAlloc (Below.refl _ _) _, ⟨_, rfl⟩, slr_of (fut_new HZ9.out fun w2 hl hx hF => ints2 hl (hx.cell 0) (hx.cell 1))⟩
  obtain ⟨b4, rfl⟩ := hv
  simp only [Act.put, List.setIfInBounds_toArray, List.set_cons_succ, List.set_cons_zero]
  refine wpStir_held rfl (fun w' hb hd => ?_) (fun v hv => ?_)
  · skip
    clear hd
    have HZ9 := Lib.hid hb.size
    clear hb
    go_simp
    exact ⟨bAlloc (Below.refl _ _) _, ⟨_, rfl⟩, slr_of (fut_new HZ9.out fun w2 hl hx hF => ints2 hl (hx.cell 0) (hx.cell 1))⟩
  obtain ⟨b5, rfl⟩ := hv
  simp only [Act.put, List.setIfInBounds_toArray, List.set_cons_succ, List.set_cons_zero]
  refine wpStir_held rfl (fun w' hb hd => ?_) (fun v hv => ?_)
  · skip
    have H0 := Lib.hid (hd.2.1 (by kernel_rfl) _ rfl)
    have H1 := Lib.hid (hd.1 (by kernel_rfl) _ rfl)
    clear hd
    have HZ9 := Lib.hid hb.size
    clear hb
    go_simp
    exact ⟨bAlloc (Below.refl _ _) _, ⟨_, rfl⟩, slr_of (fut_new HZ9.out fun w2 hl hx hF => rowsTwo rfl rfl rfl hl (hx.cell 0) (hx.cell 1) (hF _ H0.out) (hF _ H1.out))⟩
  obtain ⟨b6, rfl⟩ := hv
  simp only [Act.put, List.setIfInBounds_toArray, List.set_cons_succ, List.set_cons_zero]
  refine wpStir_held rfl (fun w' hb hd => ?_) (fun v hv => ?_)
  · skip
    have H0 := Lib.hid (hd.1 (by kernel_rfl) _ rfl)
    clear hd
    have HZ9 := Lib.hid hb.size
    clear hb
    go_simp
    exact ⟨⟨_, rfl⟩, wlr_of H0.out⟩
  obtain ⟨b7, rfl⟩ := hv
  simp only [Act.put, List.setIfInBounds_toArray, List.set_cons_succ, List.set_cons_zero]
  refine wpStir_held rfl (fun w' hb hd => ?_) (fun v hv => ?_)
  · skip
    have H0 := Lib.hid (hd.2.2.2.2.1 (by kernel_rfl) _ rfl)
    have H1 := Lib.hid (hd.1 (by kernel_rfl) _ rfl)
    clear hd
    have HZ9 := Lib.hid hb.size
    clear hb
    go_simp
    exact ⟨bAlloc (Below.refl _ _) _, ⟨_, rfl⟩, slr_of (fut_new HZ9.out fun w2 hl hx hF => worldsTwo hl (hx.cell 0) (hx.cell 1) (hF _ H0.out) (hF _ H1.out))⟩
  obtain ⟨b8, rfl⟩ := hv
  simp only [Act.put, List.setIfInBounds_toArray, List.set_cons_succ, List.set_cons_zero]
  refine wpStir_held rfl (fun w' hb hd => ?_) (fun v hv => ?_)
  · skip
    have H0 := Lib.hid (hd.1 (by kernel_rfl) _ rfl)
    clear hd
    have HZ9 := Lib.hid hb.size
    clear hb
    go_simp
    exact ⟨⟨_, rfl⟩, twr_of H0.out⟩
  obtain ⟨b9, rfl⟩ := hv
  simp only [Act.put, List.setIfInBounds_toArray, List.set_cons_succ, List.set_cons_zero]
  refine wpStir_held rfl (fun w' hb hd => ?_) (fun v hv => ?_)
  · skip
    clear hd
    have HZ9 := Lib.hid hb.size
    clear hb
    go_simp
    exact ⟨bAlloc (Below.refl _ _) _, ⟨_, rfl⟩, slr_of (fut_new HZ9.out fun w2 hl hx hF => ints2 hl (hx.cell 0) (hx.cell 1))⟩
  obtain ⟨b10, rfl⟩ := hv
  simp only [Act.put, List.setIfInBounds_toArray, List.set_cons_succ, List.set_cons_zero]
  refine wpStir_held rfl (fun w' hb hd => ?_) (fun v hv => ?_)
  · skip
    clear hd
    have HZ9 := Lib.hid hb.size
    clear hb
    go_simp
    exact ⟨bAlloc (Below.refl _ _) _, ⟨_, rfl⟩, slr_of (fut_new HZ9.out fun w2 hl hx hF => ints2 hl (hx.cell 0) (hx.cell 1))⟩
  obtain ⟨b11, rfl⟩ := hv
  simp only [Act.put, List.setIfInBounds_toArray, List.set_cons_succ, List.set_cons_zero]
  refine wpStir_const (by go_simp) ?_
  simp only [Act.put, List.setIfInBounds_toArray, List.set_cons_succ, List.set_cons_zero]
  refine wpStir_held rfl (fun w' hb hd => ?_) (fun v hv => ?_)
  · skip
    clear hd
    have HZ9 := Lib.hid hb.size
    clear hb
    go_simp
    exact ⟨bAlloc (Below.refl _ _) _, ⟨_, rfl⟩, slr_of (fut_new HZ9.out fun w2 hl hx hF => .inr ⟨_, 0, rfl, hl, fun i hi => by
      obtain rfl : i = 0 := by omega
      exact ⟨hx.cell 0, hx.cell 1, hx.cell 2, hx.cell 3⟩⟩)⟩
  obtain ⟨b13, rfl⟩ := hv
  simp only [Act.put, List.setIfInBounds_toArray, List.set_cons_succ, List.set_cons_zero]
  refine wpStir_held rfl (fun w' hb hd => ?_) (fun v hv => ?_)
  · skip
    clear hd
    have HZ9 := Lib.hid hb.size
    clear hb
    go_simp
    refine ⟨bAlloc (Below.refl _ _) _, ⟨_, rfl⟩, slr_of (fut_new HZ9.out fun w2 hl hx hF => .inr ⟨_, 0, rfl, hl, fun i hi => ?_⟩)⟩
    rcases (by omega : i = 0 ∨ i = 1 ∨ i = 2) with rfl | rfl | rfl
    · exact (hx.cell 0).trans (by kernel_rfl)
    · exact (hx.cell 1).trans (by kernel_rfl)
    · exact (hx.cell 2).trans (by kernel_rfl)
  obtain ⟨b14, rfl⟩ := hv
  simp only [Act.put, List.setIfInBounds_toArray, List.set_cons_succ, List.set_cons_zero]
  refine wpStir_held rfl (fun w' hb hd => ?_) (fun v hv => ?_)
  · skip
    have H0 := Lib.hid (hd.2.1 (by kernel_rfl) _ rfl)
    have H1 := Lib.hid (hd.1 (by kernel_rfl) _ rfl)
    clear hd
    have HZ9 := Lib.hid hb.size
    clear hb
    go_simp
    exact ⟨⟨_, _, rfl⟩, sfr_of ((H0.out.and H1.out).imp fun w h => ⟨h.1, h.2⟩)⟩
  obtain ⟨b15, b15x, rfl⟩ := hv
  simp only [Act.put, List.setIfInBounds_toArray, List.set_cons_succ, List.set_cons_zero]
  refine wpStir_held rfl (fun w' hb hd => ?_) (fun v hv => ?_)
  · skip
    clear hd
    have HZ9 := Lib.hid hb.size
    clear hb
    go_simp
    exact ⟨bAlloc (Below.refl _ _) _, ⟨_, rfl⟩, slr_of (fut_new HZ9.out fun w2 hl hx hF => ints2 hl (hx.cell 0) (hx.cell 1))⟩
  obtain ⟨b16, rfl⟩ := hv
  simp only [Act.put, List.setIfInBounds_toArray, List.set_cons_succ, List.set_cons_zero]
  refine wpStir_held rfl (fun w' hb hd => ?_) (fun v hv => ?_)
  · skip
    clear hd
    have HZ9 := Lib.hid hb.size
    clear hb
    go_simp
    exact ⟨bAlloc (Below.refl _ _) _, ⟨_, rfl⟩, slr_of (fut_new HZ9.out fun w2 hl hx hF => ints2 hl (hx.cell 0) (hx.cell 1))⟩
  obtain ⟨b17, rfl⟩ := hv
  simp only [Act.put, List.setIfInBounds_toArray, List.set_cons_succ, List.set_cons_zero]
  refine wpStir_held rfl (fun w' hb hd => ?_) (fun v hv => ?_)
  · skip
    have H0 := Lib.hid (hd.2.1 (by kernel_rfl) _ rfl)
    have H1 := Lib.hid (hd.1 (by kernel_rfl) _ rfl)
    clear hd
    have HZ9 := Lib.hid hb.size
    clear hb
    go_simp
    exact ⟨bAlloc (Below.refl _ _) _, ⟨_, rfl⟩, slr_of (fut_new HZ9.out fun w2 hl hx hF => rowsTwo rfl rfl rfl hl (hx.cell 0) (hx.cell 1) (hF _ H0.out) (hF _ H1.out))⟩
  obtain ⟨b18, rfl⟩ := hv
  simp only [Act.put, List.setIfInBounds_toArray, List.set_cons_succ, List.set_cons_zero]
  refine wpStir_held rfl (fun w' hb hd => ?_) (fun v hv => ?_)
  · skip
    have H0 := Lib.hid (hd.2.2.2.1 (by kernel_rfl) _ _ rfl)
    have H1 := Lib.hid (hd.1 (by kernel_rfl) _ rfl)
    clear hd
    have HZ9 := Lib.hid hb.size
    clear hb
    go_simp
    exact ⟨⟨_, _, _, rfl⟩, spr_of (H0.out.and H1.out)⟩
  obtain ⟨b19, b19x, b19y, rfl⟩ := hv
  simp only [Act.put, List.setIfInBounds_toArray, List.set_cons_succ, List.set_cons_zero]
  refine wpStir_const (by go_simp) ?_
  simp only [Act.put, List.setIfInBounds_toArray, List.set_cons_succ, List.set_cons_zero]
  refine wpStir_held rfl (fun w' hb hd => ?_) (fun v hv => ?_)
  · skip
    clear hd
    have HZ9 := Lib.hid hb.size
    clear hb
    go_simp
    exact ⟨bAlloc (Below.refl _ _) _, ⟨_, rfl⟩, slr_of (fut_new HZ9.out fun w2 hl hx hF => .inr ⟨_, 0, rfl, hl, fun i hi => by
      obtain rfl : i = 0 := by omega
      exact ⟨hx.cell 0, hx.cell 1, hx.cell 2, hx.cell 3⟩⟩)⟩
  obtain ⟨b21, rfl⟩ := hv
  simp only [Act.put, List.setIfInBounds_toArray, List.set_cons_succ, List.set_cons_zero]
  refine wpStir_held rfl (fun w' hb hd => ?_) (fun v hv => ?_)
  · skip
    clear hd
    have HZ9 := Lib.hid hb.size
    clear hb
    go_simp
    refine ⟨bAlloc (Below.refl _ _) _, ⟨_, rfl⟩, slr_of (fut_new HZ9.out fun w2 hl hx hF => .inr ⟨_, 0, rfl, hl, fun i hi => ?_⟩)⟩
    rcases (by omega : i = 0 ∨ i = 1 ∨ i = 2 ∨ i = 3) with rfl | rfl | rfl | rfl
    · exact (hx.cell 0).trans (by kernel_rfl)
    · exact (hx.cell 1).trans (by kernel_rfl)
    · exact (hx.cell 2).trans (by kernel_rfl)
    · exact (hx.cell 3).trans (by kernel_rfl)
  obtain ⟨b22, rfl⟩ := hv
  simp only [Act.put, List.setIfInBounds_toArray, List.set_cons_succ, List.set_cons_zero]
  refine wpStir_held rfl (fun w' hb hd => ?_) (fun v hv => ?_)
  · skip
    have H0 := Lib.hid (hd.2.1 (by kernel_rfl) _ rfl)
    have H1 := Lib.hid (hd.1 (by kernel_rfl) _ rfl)
    clear hd
    have HZ9 := Lib.hid hb.size
    clear hb
    go_simp
    exact ⟨⟨_, _, rfl⟩, sfr_of ((H0.out.and H1.out).imp fun w h => ⟨h.1, h.2⟩)⟩
  obtain ⟨b23, b23x, rfl⟩ := hv
  simp only [Act.put, List.setIfInBounds_toArray, List.set_cons_succ, List.set_cons_zero]
  refine wpStir_held rfl (fun w' hb hd => ?_) (fun v hv => ?_)
  · skip
    clear hd
    have HZ9 := Lib.hid hb.size
    clear hb
    go_simp
    exact ⟨bAlloc (Below.refl _ _) _, ⟨_, rfl⟩, slr_of (fut_new HZ9.out fun w2 hl hx hF => ints2 hl (hx.cell 0) (hx.cell 1))⟩
  obtain ⟨b24, rfl⟩ := hv
  simp only [Act.put, List.setIfInBounds_toArray, List.set_cons_succ, List.set_cons_zero]
  refine wpStir_held rfl (fun w' hb hd => ?_) (fun v hv => ?_)
  · skip
    clear hd
    have HZ9 := Lib.hid hb.size
    clear hb
    go_simp
    exact ⟨bAlloc (Below.refl _ _) _, ⟨_, rfl⟩, slr_of (fut_new HZ9.out fun w2 hl hx hF => ints2 hl (hx.cell 0) (hx.cell 1))⟩
  obtain ⟨b25, rfl⟩ := hv
  simp only [Act.put, List.setIfInBounds_toArray, List.set_cons_succ, List.set_cons_zero]
  refine wpStir_held rfl (fun w' hb hd => ?_) (fun v hv => ?_)
  · skip
    have H0 := Lib.hid (hd.2.1 (by kernel_rfl) _ rfl)
    have H1 := Lib.hid (hd.1 (by kernel_rfl) _ rfl)
    clear hd
    have HZ9 := Lib.hid hb.size
    clear hb
    go_simp
    exact ⟨bAlloc (Below.refl _ _) _, ⟨_, rfl⟩, slr_of (fut_new HZ9.out fun w2 hl hx hF => rowsTwo rfl rfl rfl hl (hx.cell 0) (hx.cell 1) (hF _ H0.out) (hF _ H1.out))⟩
  obtain ⟨b26, rfl⟩ := hv
  simp only [Act.put, List.setIfInBounds_toArray, List.set_cons_succ, List.set_cons_zero]
  refine wpStir_held rfl (fun w' hb hd => ?_) (fun v hv => ?_)
  · skip
    have H0 := Lib.hid (hd.2.2.2.1 (by kernel_rfl) _ _ rfl)
    have H1 := Lib.hid (hd.1 (by kernel_rfl) _ rfl)
    clear hd
    have HZ9 := Lib.hid hb.size
    clear hb
    go_simp
    exact ⟨⟨_, _, _, rfl⟩, spr_of (H0.out.and H1.out)⟩
  obtain ⟨b27, b27x, b27y, rfl⟩ := hv
  simp only [Act.put, List.setIfInBounds_toArray, List.set_cons_succ, List.set_cons_zero]
  refine wpStir_const (by go_simp) ?_
  simp only [Act.put, List.setIfInBounds_toArray, List.set_cons_succ, List.set_cons_zero]
  refine wpStir_held rfl (fun w' hb hd => ?_) (fun v hv => ?_)
  · skip
    clear hd
    have HZ9 := Lib.hid hb.size
    clear hb
    go_simp
    exact ⟨bAlloc (Below.refl _ _) _, ⟨_, rfl⟩, slr_of (fut_new HZ9.out fun w2 hl hx hF => .inr ⟨_, 0, rfl, hl, fun i hi => by
      obtain rfl : i = 0 := by omega
      exact ⟨hx.cell 0, hx.cell 1, hx.cell 2, hx.cell 3⟩⟩)⟩
  obtain ⟨b29, rfl⟩ := hv
  simp only [Act.put, List.setIfInBounds_toArray, List.set_cons_succ, List.set_cons_zero]
  refine wpStir_held rfl (fun w' hb hd => ?_) (fun v hv => ?_)
  · skip
    clear hd
    have HZ9 := Lib.hid hb.size
    clear hb
    go_simp
    refine ⟨bAlloc (Below.refl _ _) _, ⟨_, rfl⟩, slr_of (fut_new HZ9.out fun w2 hl hx hF => .inr ⟨_, 0, rfl, hl, fun i hi => ?_⟩)⟩
    rcases (by omega : i = 0 ∨ i = 1 ∨ i = 2 ∨ i = 3 ∨ i = 4 ∨ i = 5) with rfl | rfl | rfl | rfl | rfl | rfl
    · exact (hx.cell 0).trans (by kernel_rfl)
    · exact (hx.cell 1).trans (by kernel_rfl)
    · exact (hx.cell 2).trans (by kernel_rfl)
    · exact (hx.cell 3).trans (by kernel_rfl)
    · exact (hx.cell 4).trans (by kernel_rfl)
    · exact (hx.cell 5).trans (by kernel_rfl)
  obtain ⟨b30, rfl⟩ := hv
  simp only [Act.put, List.setIfInBounds_toArray, List.set_cons_succ, List.set_cons_zero]
  refine wpStir_held rfl (fun w' hb hd => ?_) (fun v hv => ?_)
  · skip
    have H0 := Lib.hid (hd.2.1 (by kernel_rfl) _ rfl)
    have H1 := Lib.hid (hd.1 (by kernel_rfl) _ rfl)
    clear hd
    have HZ9 := Lib.hid hb.size
    clear hb
    go_simp
    exact ⟨⟨_, _, rfl⟩, sfr_of ((H0.out.and H1.out).imp fun w h => ⟨h.1, h.2⟩)⟩
  obtain ⟨b31, b31x, rfl⟩ := hv
  simp only [Act.put, List.setIfInBounds_toArray, List.set_cons_succ, List.set_cons_zero]
  refine wpStir_held rfl (fun w' hb hd => ?_) (fun v hv => ?_)
  · skip
    clear hd
    have HZ9 := Lib.hid hb.size
    clear hb
    go_simp
    exact ⟨bAlloc (Below.refl _ _) _, ⟨_, rfl⟩, slr_of (fut_new HZ9.out fun w2 hl hx hF => ints2 hl (hx.cell 0) (hx.cell 1))⟩
  obtain ⟨b32, rfl⟩ := hv
  simp only [Act.put, List.setIfInBounds_toArray, List.set_cons_succ, List.set_cons_zero]
  refine wpStir_held rfl (fun w' hb hd => ?_) (fun v hv => ?_)
  · skip
    clear hd
    have HZ9 := Lib.hid hb.size
    clear hb
    go_simp
    exact ⟨bAlloc (Below.refl _ _) _, ⟨_, rfl⟩, slr_of (fut_new HZ9.out fun w2 hl hx hF => ints2 hl (hx.cell 0) (hx.cell 1))⟩
  obtain ⟨b33, rfl⟩ := hv
  simp only [Act.put, List.setIfInBounds_toArray, List.set_cons_succ, List.set_cons_zero]
  refine wpStir_held rfl (fun w' hb hd => ?_) (fun v hv => ?_)
  · skip
    have H0 := Lib.hid (hd.2.1 (by kernel_rfl) _ rfl)
    have H1 := Lib.hid (hd.1 (by kernel_rfl) _ rfl)
    clear hd
    have HZ9 := Lib.hid hb.size
    clear hb
    go_simp
    exact ⟨bAlloc (Below.refl _ _) _, ⟨_, rfl⟩, slr_of (fut_new HZ9.out fun w2 hl hx hF => rowsTwo rfl rfl rfl hl (hx.cell 0) (hx.cell 1) (hF _ H0.out) (hF _ H1.out))⟩
  obtain ⟨b34, rfl⟩ := hv
  simp only [Act.put, List.setIfInBounds_toArray, List.set_cons_succ, List.set_cons_zero]
  refine wpStir_held rfl (fun w' hb hd => ?_) (fun v hv => ?_)
  · skip
    have H0 := Lib.hid (hd.2.2.2.1 (by kernel_rfl) _ _ rfl)
    have H1 := Lib.hid (hd.1 (by kernel_rfl) _ rfl)
    clear hd
    have HZ9 := Lib.hid hb.size
    clear hb
    go_simp
    exact ⟨⟨_, _, _, rfl⟩, spr_of (H0.out.and H1.out)⟩
  obtain ⟨b35, b35x, b35y, rfl⟩ := hv
  simp only [Act.put, List.setIfInBounds_toArray, List.set_cons_succ, List.set_cons_zero]
  refine wpStir_held rfl (fun w' hb hd => ?_) (fun v hv => ?_)
  · skip
    have H0 := Lib.hid (hd.2.2.2.2.2.2.2.2.2.2.2.2.2.2.1 (by kernel_rfl) _ _ _ rfl)
    have H1 := Lib.hid (hd.2.2.2.2.2.2.2.1 (by kernel_rfl) _ _ _ rfl)
    have H2 := Lib.hid (hd.1 (by kernel_rfl) _ _ _ rfl)
    clear hd
    have HZ9 := Lib.hid hb.size
    clear hb
    go_simp
    exact ⟨bAlloc (Below.refl _ _) _, ⟨_, rfl⟩, slr_of (fut_new HZ9.out fun w2 hl hx hF => spotsThree hx (hF _ H0.out) (hF _ H1.out) (hF _ H2.out))⟩
  obtain ⟨b36, rfl⟩ := hv
  simp only [Act.put, List.setIfInBounds_toArray, List.set_cons_succ, List.set_cons_zero]
  refine wpStir_end (fun w5 hb5 hd => ?_)
  have HQ := Lib.hid (hd.2.2.2.2.2.2.2.2.2.2.2.2.2.2.2.2.2.2.2.2.2.2.2.2.1 _ rfl)
  have HO := Lib.hid (hd.2.2.2.2.2.2.2.2.2.2.2.2.2.2.2.2.2.2.2.2.2.2.2.1 _ rfl)
  have HP := Lib.hid (hd.2.2.2.2.2.2.2.2.2.2.2.2.2.2.2.2.2.2.2.2.2.2.1 _ rfl)
  have HS := Lib.hid (hd.1 _ rfl)
  clear hd
  have h0 := HT0.out.mono hb5
  have H0 := Lib.hid h0
  have HB5 := Lib.hid (bTrans HB.out hb5)
  have HZ5 := Lib.hid hb5.size
  have a0 := h0.cell 0
  have a1 := h0.cell 1
  have a2 := h0.cell 2
  have a3 := h0.cell 3
  have a4 := h0.cell 4
  have a5 := h0.cell 5
  have a6 := h0.cell 6
  have a7 := h0.cell 7
  have a8 := h0.cell 8
  have f0 := h0.frozen 0
  have f1 := h0.frozen 1
  have f2 := h0.frozen 2
  have f3 := h0.frozen 3
  have f4 := h0.frozen 4
  have f5 := h0.frozen 5
  have f6 := h0.frozen 6
  have f7 := h0.frozen 7
  have f8 := h0.frozen 8
  have l0 := h0.lt
  clear h0 hb5 k0 k1 k2 k3 kl
  simp only [List.drop_succ_cons, List.drop_zero]
  go_wp2_with fail
  have hz : w.heap.size < W.heap.size := by have := HZ.out; omega
  refine bodyPost_ret (v := .agg #[.int .i64 2, .slice (some ⟨b9, 0, none⟩) 2 2, .slice none 0 0, .slice (some ⟨b10, 0, none⟩) 2 2, .slice (some ⟨b11, 0, none⟩) 2 2, .slice (some ⟨b36, 0, none⟩) 3 3, .int .i64 8, .int .i64 6, .int .i64 3]) (by simp [results, Tryz.results76, go_sem, *]) rfl ⟨⟨_, _, _, _, rfl, ⟨HQ.out.sets hz _ _ _ _ _ _ _ _ _, HO.out.sets hz _ _ _ _ _ _ _ _ _, HP.out.sets hz _ _ _ _ _ _ _ _ _, HS.out.sets hz _ _ _ _ _ _ _ _ _⟩⟩, ?_⟩
  exact (Below.setCell (p := ⟨w.heap.size, 8, none⟩) (Below.setCell (p := ⟨w.heap.size, 7, none⟩) (Below.setCell (p := ⟨w.heap.size, 6, none⟩) (Below.setCell (p := ⟨w.heap.size, 5, none⟩) (Below.setCell (p := ⟨w.heap.size, 4, none⟩) (Below.setCell (p := ⟨w.heap.size, 3, none⟩) (Below.setCell (p := ⟨w.heap.size, 2, none⟩) (Below.setCell (p := ⟨w.heap.size, 1, none⟩) (Below.setCell (p := ⟨w.heap.size, 0, none⟩) HB5.out (by show w.heap.size ≤ w.heap.size; omega) _) (by show w.heap.size ≤ w.heap.size; omega) _) (by show w.heap.size ≤ w.heap.size; omega) _) (by show w.heap.size ≤ w.heap.size; omega) _) (by show w.heap.size ≤ w.heap.size; omega) _) (by show w.heap.size ≤ w.heap.size; omega) _) (by show w.heap.size ≤ w.heap.size; omega) _) (by show w.heap.size ≤ w.heap.size; omega) _) (by show w.heap.size ≤ w.heap.size; omega) _)
end Go.Proofs.YtjpfdhhiofjpbaaGreatDoor
/- A region that draws its order, in a fence: each of its operations yields a known value in every world of a class that depends on what has been done already. No program in sight. -/
namespace Go.Proofs.YtjpfdhhiofjpbaaGreatDoor
open Go.RowKit Go.Sort Go.Shelf
section
variable {P : Program} {ops : Array Oper} {n : Nat} {F : Fence} {Cl : (Nat → Bool) → World → Prop}
/-- what the operations owe -/
def wpLst (P : Program) (ops : Array Oper) (Cl : (Nat → Bool) → World → Prop) (Q : Act → Prop) : Nat → List Oper → List Value → Act → Prop
  | _, [], [], a => Q a
  | k, o :: rest, c :: cs, a => (if Region.wanted o (yielded ops a.tmps) then ∀ L w', Cl L w' → L k = false → (∀ i j, L i = true → reach .any ops 6 i j = true → L j = true) → clsAt P (Cl fun j => L j || j == k) o a w' c else c = undef ∧ ∀ L w', Cl L w' → Cl (fun j => L j || j == k) w') ∧ wpLst P ops Cl Q (k + 1) rest cs (a.put o.dst c)
  | _, _, _, _ => False
theorem wpLst_nil {Q : Act → Prop} {a : Act} {k : Nat} (h : Q a) : wpLst P ops Cl Q k [] [] a := h
theorem wpLst_do {Q : Act → Prop} {o : Oper} {rest : List Oper} {c : Value} {cs : List Value} {a : Act} {k : Nat} (hg : o.guard = none) (h1 : ∀ L w', Cl L w' → L k = false → (∀ i j, L i = true → reach .any ops 6 i j = true → L j = true) → clsAt P (Cl fun j => L j || j == k) o a w' c) (h2 : wpLst P ops Cl Q (k + 1) rest cs (a.put o.dst c)) : wpLst P ops Cl Q k (o :: rest) (c :: cs) a := by
  refine ⟨?_, h2⟩
  unfold Region.wanted
  rw [hg, if_pos rfl]
  exact h1
theorem wpLst_at {Q : Act → Prop} {V : Nat → Value} {cs0 : List Value} {a0 : Act} (hV : ∀ (k : Nat) (c : Value), cs0[k]? = some c → V k = c) :
    ∀ (cs : List Value) (k : Nat) (l : List Oper), (∀ j, l[j]? = ops[k + j]?) → (∀ j, cs[j]? = cs0[k + j]?) → k + cs.length = cs0.length → wpLst P ops Cl Q k l cs (frameOf ops V (fun _ => true) a0 k) →
      (∀ j, k ≤ j → j < cs0.length → ∃ o, ops[j]? = some o ∧ if Region.wanted o (yielded ops (frameOf ops V (fun _ => true) a0 j).tmps) then ∀ L w', Cl L w' → L j = false → (∀ i j, L i = true → reach .any ops 6 i j = true → L j = true) → clsAt P (Cl fun i => L i || i == j) o (frameOf ops V (fun _ => true) a0 j) w' (V j) else V j = undef ∧ ∀ L w', Cl L w' → Cl (fun i => L i || i == j) w') ∧ Q (frameOf ops V (fun _ => true) a0 cs0.length)
  | [], k, [], _, hh, hn, H => by
    have e : k = cs0.length := by simpa using hn
    subst e
    exact ⟨fun j hj hj2 => by omega, H⟩
  | [], k, _ :: _, hl, hh, hn, H => H.elim
  | c :: cs, k, [], hl, hh, hn, H => H.elim
  | c :: cs, k, o :: l, hl, hh, hn, H => by
    have h0 : ops[k]? = some o := by simpa using (hl 0).symm
    have h1 : cs0[k]? = some c := by simpa using (hh 0).symm
    obtain ⟨H1, H2⟩ := H
    have e1 : frameOf ops V (fun _ => true) a0 (k + 1) = (frameOf ops V (fun _ => true) a0 k).put o.dst c := by
      rw [frameOf, if_pos rfl]; simp [dstOf, h0, hV k c h1]
    obtain ⟨g1, g2⟩ := wpLst_at hV cs (k + 1) l (fun j => by have := hl (j + 1); simpa [Nat.add_assoc, Nat.add_comm 1 j] using this) (fun j => by have := hh (j + 1); simpa [Nat.add_assoc, Nat.add_comm 1 j] using this) (by simp only [List.length_cons] at hn; omega) (by rw [e1]; exact H2)
    refine ⟨fun j hj hj2 => ?_, g2⟩
    rcases Nat.eq_or_lt_of_le hj with e | e
    · subst e
      exact ⟨o, h0, by rw [hV k c h1]; exact H1⟩
    · exact g1 j e hj2
theorem wpIn_region_lst {rid : Nat} {Q : Exit → Act → World → Prop} {a : Act} {w : World} {l : List Oper} (hF : Open F P) (cs : List Value) (Cl : (Nat → Bool) → World → Prop) (hm : P.follows .mixedOrders = true) (hB : (orderedB .any l.toArray && noDefer l.toArray) = true) (hn : cs.length = l.length) (h0 : Cl (fun _ => false) { w with drawn := w.drawn + 1 })
    (h : wpLst P l.toArray Cl (fun a' => ∀ L w', (∀ j, j < l.length → L j = true) → Cl L w' → Q .normal a' w') 0 l cs a) : (Code.region rid l.toArray true).wpIn F n P Q a w := by
  rw [Bool.and_eq_true] at hB
  obtain ⟨hord, hnd⟩ := hB
  have H := ordered_of hord
  have hsz : l.toArray.size = l.length := by simp
  obtain ⟨V, hVd⟩ : ∃ V : Nat → Value, V = fun k => cs[k]?.getD undef := ⟨_, rfl⟩
  have hV : ∀ (k : Nat) (c : Value), cs[k]? = some c → V k = c := fun k c hk => by rw [hVd]; simp [hk]
  obtain ⟨key, fin⟩ := wpLst_at (P := P) (ops := l.toArray) (Cl := Cl) (a0 := a) hV cs 0 l (fun j => by simp) (fun j => by simp) (by omega) h
  rw [hn] at fin key
  refine wpIn_region_any hm ?_
  refine wpAnyIn_inv (fun listed a' w' => a' = frameOf l.toArray V (fun k => listed.getD k false) a l.toArray.size ∧ Cl (fun k => listed.getD k false) w') ?_ ?_ _ _ _ _ (left_le _ _) Shut.none ⟨?_, ?_⟩
  · rintro listed a' w' i hsh ⟨rfl, hc⟩ hr
    obtain ⟨hun, oi, hoi, _⟩ := mem_ready.1 hr
    have hi : i < l.toArray.size := (Array.getElem?_eq_some_iff.1 hoi).1
    have hil : i < listed.size := by rw [hsh.size]; exact hi
    have hunf := listed_both hun
    have hset : (listed.setIfInBounds i true).getD i false = true := set_same hil false
    have hflag : (fun k => (listed.setIfInBounds i true).getD k false) = fun j => listed.getD j false || j == i := by
      funext j
      by_cases e : j = i
      · subst e; rw [hset]; simp
      · rw [getD_set_ne false (Ne.symm e)]; simp [e]
    obtain ⟨o', ho', hask⟩ := key i (Nat.zero_le _) (by omega)
    obtain rfl : oi = o' := Option.some.inj (hoi.symm.trans ho')
    have hsee := H.sees (V := V) (V' := V) (M := fun _ => true) (a := a) hsh hoi hr (fun k _ hk => by cases hk) (fun _ _ => rfl)
    have hput : (frameOf l.toArray V (fun k => listed.getD k false) a l.toArray.size).put oi.dst (V i) = frameOf l.toArray V (fun k => (listed.setIfInBounds i true).getD k false) a l.toArray.size := by
      have e1 : dstOf l.toArray i = oi.dst := by simp [dstOf, hoi]
      rw [H.frame_put hsh hi hun, e1]
    unfold Go.wpOpIn
    simp only [hoi]
    rw [wanted_of_slots hsee]
    by_cases hwt : Region.wanted oi (yielded l.toArray (frameOf l.toArray V (fun _ => true) a i).tmps) = true
    · rw [if_pos hwt] at hask
      rw [if_pos hwt]
      refine wpIn_of_cls hF (noDefer_spec hnd hoi) (v := V i) (Cl := Cl fun j => listed.getD j false || j == i) ?_ fun w'' hc' => ⟨hput, by rw [hflag]; exact hc'⟩
      have h1 := hask (fun k => listed.getD k false) w' hc hunf fun i j hi hj => reach_listed2 hsh 6 i j hi hj
      unfold clsAt at h1 ⊢
      rwa [exec_of_slots (ops := l.toArray) (fun cs b => Region.noSelect_spec H.sel i oi cs b hoi) hsee]
    · rw [if_neg hwt] at hask
      rw [if_neg hwt]
      refine ⟨fun f _ => hF.fn f, ?_, by rw [hflag]; exact hask.2 _ _ hc⟩
      rw [← hask.1]
      exact hput
  · rintro listed a' w' hsh ⟨rfl, hc⟩ hr
    have hall := H.all hsh hr
    have e1 : frameOf l.toArray V (fun k => listed.getD k false) a l.toArray.size = frameOf l.toArray V (fun _ => true) a l.toArray.size := frameOf_congr _ fun j hj => ⟨hall j (by omega), fun _ => rfl⟩
    rw [e1, hsz]
    exact fin _ w' (fun j hj => hall j (by omega)) hc
  · refine (frameOf_none (fun k => ?_) _).symm
    rcases Nat.lt_or_ge k l.length with h' | h' <;> simp [h']
  · have : (fun k => (Array.replicate l.toArray.size false).getD k false) = fun _ => false := by
      funext k
      rcases Nat.lt_or_ge k l.length with h' | h' <;> simp [h']
    rw [this]
    exact h0
end
end Go.Proofs.YtjpfdhhiofjpbaaGreatDoor
