/- Parts joined: what all claims of this seat need. -/
import Derived.Test.YthnojgdckkdcgaaGreatDoorNQQ
import Derived.Test.YthnojgdckkdcgaaGreatDoorNQO
import Derived.Test.YthnojgdckkdcgaaGreatDoorNQP
import Derived.Test.YthnojgdckkdcgaaGreatDoorNQE
import Derived.Deep.LoopGhost
import Derived.Test.YthnojgdckkdcgaaGreatDoorNQF
import Derived.Test.YthnojgdckkdcgaaGreatDoorNQG
import Derived.Test.YthnojgdckkdcgaaGreatDoorNQB
import Derived.Test.YthnojgdckkdcgaaGreatDoorNQK
import Derived.Test.YthnojgdckkdcgaaGreatDoorNQM
import Derived.Test.YthnojgdckkdcgaaGreatDoorNQL
set_option linter.unusedSimpArgs false
set_option linter.unusedVariables false
namespace Go.Proofs.YthnojgdckkdcgaaGreatDoor
open Go.RowKit Go.Sort
def exPw (i : Nat) : Wd := ⟨2, fun _ => 2, fun k j => if k = 0 then (if j = 0 then 1 else if i = 0 then 0 else 2) else (if j = 0 then 0 else 1)⟩
def exPq : Qt := ⟨2, 2, exPw, 0, fun _ => ⟨0, 0, 0, 0, 0⟩⟩
def exPr : Rock := ⟨1, 5, 3, 2⟩
def exPsh (n : Nat) : Sh := ⟨1, fun _ => exPr, n, fun _ => 0, 0, 0, 0⟩
def exPf (s : Nat) : Wd := ⟨2, fun _ => 2, fun k j => if s = 0 then 0 else if s = 1 then (if j = 0 then 1 else if k = 0 then 2 else 3) else (if j = 0 then 0 else 2)⟩
def exPn (s : Nat) : Nat := if s = 0 then 3 else if s = 1 then 4 else 6
def exPa (s : Nat) : Int := if s = 0 then 15 else if s = 1 then 30 else 80
def exPs (s : Nat) : Spot := ⟨exPa s, exPsh (exPn s), exPf s⟩
def exP : Pt := ⟨exPq, 2, fun i => if i = 0 then 10 else 50, 2, fun i => if i = 0 then 7 else 4, 3, exPs, 8, 6, 3⟩
theorem exPw_ok (i : Nat) : (exPw i).Ok 2 :=
  ⟨rfl, fun _ _ => rfl, fun k _ j _ => by
    unfold exPw
    simp only
    repeat' split
    all_goals omega⟩
theorem exPq_ok : exPq.Ok := ⟨by decide, by decide, by decide, by decide, fun i _ => exPw_ok i, fun i hi => absurd hi (Nat.not_lt_zero _)⟩
theorem exPn_le (s : Nat) : 3 ≤ exPn s ∧ exPn s ≤ 6 := by
  unfold exPn
  repeat' split
  all_goals omega
theorem exPa_in (s : Nat) : 0 ≤ exPa s ∧ exPa s ≤ 99 := by
  unfold exPa
  repeat' split
  all_goals omega
theorem exPsh_ok {n : Nat} (hn : n ≤ 12) : (exPsh n).Ok :=
  ⟨by show 1 ≤ 4; decide, hn, fun i _ => ⟨by show (0 : Int) ≤ 1; decide, by show (1 : Int) ≤ 9; decide, by show (0 : Int) ≤ 5; decide, by show (5 : Int) ≤ 99; decide, by show (0 : Int) ≤ 3; decide, by show (3 : Int) ≤ 12; decide, by show (-1 : Int) ≤ 2; decide, by show (2 : Int) ≤ 99; decide⟩, fun i _ => by show (0 : Int) ≤ 0; decide, fun i _ => by show (0 : Int) < ((1 : Nat) : Int); decide, by show (0 : Int) ≤ 0; decide, by show (0 : Int) ≤ 9; decide, by show (0 : Int) ≤ 0; decide, by show (0 : Int) ≤ 9; decide, by show (0 : Int) ≤ 0; decide, by show (0 : Int) ≤ 9; decide⟩
theorem exPs_ok (s : Nat) : (exPs s).Ok 2 2 :=
  ⟨(exPa_in s).1, (exPa_in s).2, exPsh_ok (by have := exPn_le s; omega), rfl, fun _ _ => rfl, fun k _ j _ => by
    show 0 ≤ (exPf s).fall k j ∧ (exPf s).fall k j ≤ 9
    unfold exPf
    simp only
    repeat' split
    all_goals omega⟩
theorem exP_ok : exP.Ok :=
  ⟨exPq_ok, rfl, rfl, by decide, by decide, by decide, by decide, fun i _ => by show 0 ≤ (if i = 0 then (10 : Int) else 50) ∧ (if i = 0 then (10 : Int) else 50) ≤ 99; split <;> omega, fun i _ => by show 0 ≤ (if i = 0 then (7 : Int) else 4) ∧ (if i = 0 then (7 : Int) else 4) ≤ 99; split <;> omega, fun s _ => exPs_ok s⟩
theorem exP_small : exP.Small :=
  ⟨⟨by decide, by decide, fun i _ k _ => by show 2 ≤ _; decide⟩, by decide, by decide, by decide, fun s _ => ⟨by show 1 ≤ _; decide, by show exPn s ≤ _; have := exPn_le s; omega, by show 2 ≤ _; decide, fun k _ => by show 2 ≤ _; decide⟩⟩
theorem exP_cheap0 : exP.cheap 0 = (17, 0) := by
  show (exPsh 3).cheapOut = _
  rw [cheapOut_some (exPsh_ok (by decide)) (by decide +kernel)]
  decide +kernel
theorem exP_cheap2 : exP.cheap 2 = (34, 0) := by
  show (exPsh 6).cheapOut = _
  rw [cheapOut_some (exPsh_ok (by decide)) (by decide +kernel)]
  decide +kernel
theorem three {p : Nat → Prop} (h0 : p 0) (h1 : p 1) (h2 : p 2) : ∀ s, s < 3 → p s := fun s hs => by
  rcases (by omega : s = 0 ∨ s = 1 ∨ s = 2) with rfl | rfl | rfl
  · exact h0
  · exact h1
  · exact h2
theorem exP_ask (b : Bool) : exP.askErr b = if b then 0 else 1 := by
  cases b
  · exact Pt.askErr_arg exP_ok
  · exact Pt.askErr_ok exP_ok
theorem exP_has : exP.hasB 1 = true ∧ exP.hasB 2 = true := by decide
theorem exP_price : exP.priceOut 2 = (34, 0) := by
  unfold Pt.priceOut
  rw [exP_has.2, exP_ask, if_pos rfl, if_pos rfl]
  exact exP_cheap2
/-! ### rows that a region makes in whatever order -/
/-- so it is in each world in which what was made stands -/
def Fut (N : Nat) (Q : World → Prop) (w : World) : Prop := ∀ w' : World, w.heap.size ≤ w'.heap.size → (∀ k, N ≤ k → k < w.heap.size → w'.heap[k]? = w.heap[k]?) → Q w'
theorem Fut.mono {N : Nat} {Q : World → Prop} {w w' : World} (h : Fut N Q w) (hb : Below w.heap.size w w') : Fut N Q w' := fun w2 h1 h2 => h w2 (Nat.le_trans hb.size h1) fun k hk hl => (h2 k hk (Nat.lt_of_lt_of_le hl hb.size)).trans (hb.block k hl)
theorem fut_new {N : Nat} {w : World} {cs : Array Value} {ty : TypeId} {Q : World → Prop} (hN : N ≤ w.heap.size) (h : ∀ w' : World, w.heap.size < w'.heap.size → TBox w' w.heap.size ty cs → (∀ R : World → Prop, Fut N R w → R w') → Q w') : Fut N Q (w.alloc (.cells cs ty)) := fun w' h1 h2 => by
  simp only [World.size_alloc] at h1 h2
  refine h w' (by omega) ((h2 w.heap.size hN (by omega)).trans (heap_alloc_new _ _)) fun R hR => hR w' (by omega) fun k hk hl => (h2 k hk (by omega)).trans (Below.heap_alloc _ _ _ hl)
def SlS (n : Nat) (v : Value) : Prop := ∃ b, v = .slice (some ⟨b, 0, none⟩) n n
def SlR (n N : Nat) (P : World → Option Addr → Prop) (w : World) (v : Value) : Prop := ∀ b, v = .slice (some ⟨b, 0, none⟩) n n → Fut N (fun w => P w (some ⟨b, 0, none⟩)) w
theorem slrG {n N : Nat} {P : World → Option Addr → Prop} : (Stir.held (SlS n) (SlR n N P)).good := ⟨⟨_, 0, rfl⟩, fun _ _ _ hb h b e => (h b e).mono hb⟩
theorem slr_of {n N : Nat} {P : World → Option Addr → Prop} {w : World} {b : Nat} (h : Fut N (fun w => P w (some ⟨b, 0, none⟩)) w) : SlR n N P w (.slice (some ⟨b, 0, none⟩) n n) := fun b' e => by
  obtain rfl : b = b' := by simpa using e
  exact h
def WlS (v : Value) : Prop := ∃ b, v = .agg #[.slice (some ⟨b, 0, none⟩) 2 2]
def WlR (N : Nat) (P : World → Option Addr → Prop) (w : World) (v : Value) : Prop := ∀ b, v = .agg #[.slice (some ⟨b, 0, none⟩) 2 2] → Fut N (fun w => P w (some ⟨b, 0, none⟩)) w
theorem wlrG {N : Nat} {P : World → Option Addr → Prop} : (Stir.held WlS (WlR N P)).good := ⟨⟨_, 0, rfl⟩, fun _ _ _ hb h b e => (h b e).mono hb⟩
theorem wlr_of {N : Nat} {P : World → Option Addr → Prop} {w : World} {b : Nat} (h : Fut N (fun w => P w (some ⟨b, 0, none⟩)) w) : WlR N P w (.agg #[.slice (some ⟨b, 0, none⟩) 2 2]) := fun b' e => by
  obtain rfl : b = b' := by simpa using e
  exact h
def TwS (v : Value) : Prop := ∃ b, v = .agg #[.int .i64 2, .slice (some ⟨b, 0, none⟩) 2 2, .slice none 0 0]
def TwR (N : Nat) (P : World → Option Addr → Prop) (w : World) (v : Value) : Prop := ∀ b, v = .agg #[.int .i64 2, .slice (some ⟨b, 0, none⟩) 2 2, .slice none 0 0] → Fut N (fun w => P w (some ⟨b, 0, none⟩)) w
theorem twrG {N : Nat} {P : World → Option Addr → Prop} : (Stir.held TwS (TwR N P)).good := ⟨⟨_, 0, rfl⟩, fun _ _ _ hb h b e => (h b e).mono hb⟩
theorem twr_of {N : Nat} {P : World → Option Addr → Prop} {w : World} {b : Nat} (h : Fut N (fun w => P w (some ⟨b, 0, none⟩)) w) : TwR N P w (.agg #[.int .i64 2, .slice (some ⟨b, 0, none⟩) 2 2, .slice none 0 0]) := fun b' e => by
  obtain rfl : b = b' := by simpa using e
  exact h
def SfS (n : Nat) (v : Value) : Prop := ∃ b c, v = .agg #[.slice (some ⟨b, 0, none⟩) 1 1, .slice (some ⟨c, 0, none⟩) n n, .int .i64 0, .int .i64 0, .int .i64 0]
def SfR (n N : Nat) (w : World) (v : Value) : Prop := ∀ b c, v = .agg #[.slice (some ⟨b, 0, none⟩) 1 1, .slice (some ⟨c, 0, none⟩) n n, .int .i64 0, .int .i64 0, .int .i64 0] → Fut N (fun w => ShAt w (some ⟨b, 0, none⟩) (some ⟨c, 0, none⟩) (exPsh n)) w
theorem sfrG {n N : Nat} : (Stir.held (SfS n) (SfR n N)).good := ⟨⟨_, 0, 0, rfl⟩, fun _ _ _ hb h b c e => (h b c e).mono hb⟩
theorem sfr_of {n N : Nat} {w : World} {b c : Nat} (h : Fut N (fun w => ShAt w (some ⟨b, 0, none⟩) (some ⟨c, 0, none⟩) (exPsh n)) w) : SfR n N w (.agg #[.slice (some ⟨b, 0, none⟩) 1 1, .slice (some ⟨c, 0, none⟩) n n, .int .i64 0, .int .i64 0, .int .i64 0]) := fun b' c' e => by
  obtain ⟨rfl, rfl⟩ : b = b' ∧ c = c' := by simpa using e
  exact h
def SpS (a : Int) (n : Nat) (v : Value) : Prop := ∃ b c d, v = .agg #[.int .i64 a, .slice (some ⟨b, 0, none⟩) 1 1, .slice (some ⟨c, 0, none⟩) n n, .int .i64 0, .int .i64 0, .int .i64 0, .slice (some ⟨d, 0, none⟩) 2 2]
def SpR (a : Int) (n N : Nat) (x : Wd) (w : World) (v : Value) : Prop := ∀ b c d, v = .agg #[.int .i64 a, .slice (some ⟨b, 0, none⟩) 1 1, .slice (some ⟨c, 0, none⟩) n n, .int .i64 0, .int .i64 0, .int .i64 0, .slice (some ⟨d, 0, none⟩) 2 2] → Fut N (fun w => ShAt w (some ⟨b, 0, none⟩) (some ⟨c, 0, none⟩) (exPsh n) ∧ RowsAt w (some ⟨d, 0, none⟩) x) w
theorem sprG {a : Int} {n N : Nat} {x : Wd} : (Stir.held (SpS a n) (SpR a n N x)).good := ⟨⟨_, 0, 0, 0, rfl⟩, fun _ _ _ hb h b c d e => (h b c d e).mono hb⟩
theorem spr_of {a : Int} {n N : Nat} {x : Wd} {w : World} {b c d : Nat} (h : Fut N (fun w => ShAt w (some ⟨b, 0, none⟩) (some ⟨c, 0, none⟩) (exPsh n) ∧ RowsAt w (some ⟨d, 0, none⟩) x) w) : SpR a n N x w (.agg #[.int .i64 a, .slice (some ⟨b, 0, none⟩) 1 1, .slice (some ⟨c, 0, none⟩) n n, .int .i64 0, .int .i64 0, .int .i64 0, .slice (some ⟨d, 0, none⟩) 2 2]) := fun b' c' d' e => by
  obtain ⟨rfl, rfl, rfl⟩ : b = b' ∧ c = c' ∧ d = d' := by simpa using e
  exact h
theorem Fut.and {N : Nat} {Q R : World → Prop} {w : World} (h : Fut N Q w) (h' : Fut N R w) : Fut N (fun w => Q w ∧ R w) w := fun w' a b => ⟨h w' a b, h' w' a b⟩
theorem Fut.imp {N : Nat} {Q R : World → Prop} {w : World} (h : Fut N Q w) (hi : ∀ w, Q w → R w) : Fut N R w := fun w' a b => hi w' (h w' a b)
theorem rowsTwo {w : World} {b b0 b1 : Nat} {x : Wd} (hn : x.n = 2) (hl0 : x.len 0 = 2) (hl1 : x.len 1 = 2) (hl : b < w.heap.size) (h0 : w.cell? ⟨b, 0, none⟩ = some (.slice (some ⟨b0, 0, none⟩) 2 2)) (h1 : w.cell? ⟨b, 1, none⟩ = some (.slice (some ⟨b1, 0, none⟩) 2 2)) (i0 : IntsAt w (some ⟨b0, 0, none⟩) 2 (x.fall 0)) (i1 : IntsAt w (some ⟨b1, 0, none⟩) 2 (x.fall 1)) : RowsAt w (some ⟨b, 0, none⟩) x :=
  .inr ⟨b, 0, rfl, hl, fun k hk => match k, hk with
    | 0, _ => ⟨_, 2, by rw [hl0]; exact h0, by rw [hl0]; exact i0, by rw [hl0]; decide⟩
    | 1, _ => ⟨_, 2, by rw [hl1]; exact h1, by rw [hl1]; exact i1, by rw [hl1]; decide⟩
    | n + 2, hk => absurd hk (by omega)⟩
theorem worldsTwo {w : World} {b b0 b1 : Nat} (hl : b < w.heap.size) (h0 : w.cell? ⟨b, 0, none⟩ = some (.slice (some ⟨b0, 0, none⟩) 2 2)) (h1 : w.cell? ⟨b, 1, none⟩ = some (.slice (some ⟨b1, 0, none⟩) 2 2)) (r0 : RowsAt w (some ⟨b0, 0, none⟩) (exPw 0)) (r1 : RowsAt w (some ⟨b1, 0, none⟩) (exPw 1)) : QAt w (some ⟨b, 0, none⟩) none exPq :=
  ⟨.inr ⟨b, 0, rfl, hl, fun i hi => match i, hi with
    | 0, _ => ⟨_, 2, h0, r0, by show (2 : Nat) ≤ _; decide⟩
    | 1, _ => ⟨_, 2, h1, r1, by show (2 : Nat) ≤ _; decide⟩
    | n + 2, hi => absurd hi (by show ¬ n + 2 < 2; omega)⟩, .inl rfl⟩
theorem spotsThree {w : World} {b : Nat} {r0 r1 r2 f0 f1 f2 x0 x1 x2 : Nat} (h : TBox w b 71 #[.int .i64 15, .slice (some ⟨r0, 0, none⟩) 1 1, .slice (some ⟨f0, 0, none⟩) 3 3, .int .i64 0, .int .i64 0, .int .i64 0, .slice (some ⟨x0, 0, none⟩) 2 2, .int .i64 30, .slice (some ⟨r1, 0, none⟩) 1 1, .slice (some ⟨f1, 0, none⟩) 4 4, .int .i64 0, .int .i64 0, .int .i64 0, .slice (some ⟨x1, 0, none⟩) 2 2, .int .i64 80, .slice (some ⟨r2, 0, none⟩) 1 1, .slice (some ⟨f2, 0, none⟩) 6 6, .int .i64 0, .int .i64 0, .int .i64 0, .slice (some ⟨x2, 0, none⟩) 2 2])
    (h0 : ShAt w (some ⟨r0, 0, none⟩) (some ⟨f0, 0, none⟩) (exPsh 3) ∧ RowsAt w (some ⟨x0, 0, none⟩) (exPf 0)) (h1 : ShAt w (some ⟨r1, 0, none⟩) (some ⟨f1, 0, none⟩) (exPsh 4) ∧ RowsAt w (some ⟨x1, 0, none⟩) (exPf 1)) (h2 : ShAt w (some ⟨r2, 0, none⟩) (some ⟨f2, 0, none⟩) (exPsh 6) ∧ RowsAt w (some ⟨x2, 0, none⟩) (exPf 2)) : SpotsAt w (some ⟨b, 0, none⟩) 3 exPs :=
  .inr ⟨b, 0, rfl, h.lt, three ⟨_, _, _, 1, 3, 2, h0.1, h0.2, h.cell 0, h.cell 1, h.cell 2, h.cell 3, h.cell 4, h.cell 5, h.cell 6⟩ ⟨_, _, _, 1, 4, 2, h1.1, h1.2, h.cell 7, h.cell 8, h.cell 9, h.cell 10, h.cell 11, h.cell 12, h.cell 13⟩ ⟨_, _, _, 1, 6, 2, h2.1, h2.2, h.cell 14, h.cell 15, h.cell 16, h.cell 17, h.cell 18, h.cell 19, h.cell 20⟩⟩
end Go.Proofs.YthnojgdckkdcgaaGreatDoor

namespace Go.Proofs.YthnojgdckkdcgaaGreatDoor
open Go.RowKit Go.Sort
theorem Fut.sets {N : Nat} {Q : World → Prop} {w : World} {b : Nat} (h : Fut N Q w) (hb : b < N) (v0 v1 v2 v3 v4 v5 v6 v7 v8 : Value) : Q (((((((((w.setCell ⟨b, 0, none⟩ v0).setCell ⟨b, 1, none⟩ v1).setCell ⟨b, 2, none⟩ v2).setCell ⟨b, 3, none⟩ v3).setCell ⟨b, 4, none⟩ v4).setCell ⟨b, 5, none⟩ v5).setCell ⟨b, 6, none⟩ v6).setCell ⟨b, 7, none⟩ v7).setCell ⟨b, 8, none⟩ v8) := by
  refine h _ (by simp [World.setCell]) fun k hk _ => ?_
  have hne : k ≠ b := by omega
  iterate 9 rw [Below.heap_setCell _ _ _ k hne]
def ExOut9 (w : World) (e : Ending) : Prop := ∃ (Aw Ao Ap As : Option Addr), e = .returned (.agg #[.int .i64 2, .slice Aw 2 2, .slice none 0 0, .slice Ao 2 2, .slice Ap 2 2, .slice As 3 3, .int .i64 8, .int .i64 6, .int .i64 3]) ∧ PAt w Aw none Ao Ap As exP
set_option maxHeartbeats 16000000 in
set_option maxRecDepth 100000 in
theorem example9_any (w : World) : Calls Tryz.prog 76 #[] w fun e w' => ExOut9 w' e ∧ Below w.heap.size w w' := by
  go_enter Tryz.func76, Tryz.ntmps76
  go_wp2_with fail
  have hB : Below w.heap.size w ((w.alloc (.cells #[.int .i64 0, .slice none 0 0, .slice none 0 0, .slice none 0 0, .slice none 0 0, .slice none 0 0, .int .i64 0, .int .i64 0, .int .i64 0] 62)).alloc (.cells #[.int .i64 1, .int .i64 5, .int .i64 3, .int .i64 2] 190)) := bAlloc (bAlloc (Below.refl _ _) _) _
  have hT0 : TBox ((w.alloc (.cells #[.int .i64 0, .slice none 0 0, .slice none 0 0, .slice none 0 0, .slice none 0 0, .slice none 0 0, .int .i64 0, .int .i64 0, .int .i64 0] 62)).alloc (.cells #[.int .i64 1, .int .i64 5, .int .i64 3, .int .i64 2] 190)) w.heap.size 62 #[.int .i64 0, .slice none 0 0, .slice none 0 0, .slice none 0 0, .slice none 0 0, .slice none 0 0, .int .i64 0, .int .i64 0, .int .i64 0] := TBox.mono (TBox.new w #[.int .i64 0, .slice none 0 0, .slice none 0 0, .slice none 0 0, .slice none 0 0, .slice none 0 0, .int .i64 0, .int .i64 0, .int .i64 0] 62) (bAlloc (Below.refl _ _) _)
  have hR0 : TBox ((w.alloc (.cells #[.int .i64 0, .slice none 0 0, .slice none 0 0, .slice none 0 0, .slice none 0 0, .slice none 0 0, .int .i64 0, .int .i64 0, .int .i64 0] 62)).alloc (.cells #[.int .i64 1, .int .i64 5, .int .i64 3, .int .i64 2] 190)) (w.heap.size + 1) 190 #[.int .i64 1, .int .i64 5, .int .i64 3, .int .i64 2] := by
    have := TBox.new (w.alloc (.cells #[.int .i64 0, .slice none 0 0, .slice none 0 0, .slice none 0 0, .slice none 0 0, .slice none 0 0, .int .i64 0, .int .i64 0, .int .i64 0] 62)) #[.int .i64 1, .int .i64 5, .int .i64 3, .int .i64 2] 190
    simpa [TBox] using this
  have hZ : w.heap.size + 2 ≤ ((w.alloc (.cells #[.int .i64 0, .slice none 0 0, .slice none 0 0, .slice none 0 0, .slice none 0 0, .slice none 0 0, .int .i64 0, .int .i64 0, .int .i64 0] 62)).alloc (.cells #[.int .i64 1, .int .i64 5, .int .i64 3, .int .i64 2] 190)).heap.size := by simp
  generalize ((w.alloc (.cells #[.int .i64 0, .slice none 0 0, .slice none 0 0, .slice none 0 0, .slice none 0 0, .slice none 0 0, .int .i64 0, .int .i64 0, .int .i64 0] 62)).alloc (.cells #[.int .i64 1, .int .i64 5, .int .i64 3, .int .i64 2] 190)) = W at *
  have HB := Lib.hid hB
  have HT0 := Lib.hid hT0
  have HZ := Lib.hid hZ
  have k0 : W.cell? ⟨w.heap.size + 1, 0, none⟩ = some (.int .i64 1) := hR0.cell 0
  have k1 : W.cell? ⟨w.heap.size + 1, 1, none⟩ = some (.int .i64 5) := hR0.cell 1
  have k2 : W.cell? ⟨w.heap.size + 1, 2, none⟩ = some (.int .i64 3) := hR0.cell 2
  have k3 : W.cell? ⟨w.heap.size + 1, 3, none⟩ = some (.int .i64 2) := hR0.cell 3
  have kl := hR0.lt
  clear hB hT0 hR0 hZ
  refine wp_region_stir 37 [.held (SlS 2) (SlR 2 W.heap.size (fun w A => IntsAt w A 2 ((exPw 0).fall 0))), .held (SlS 2) (SlR 2 W.heap.size (fun w A => IntsAt w A 2 ((exPw 0).fall 1))), .held (SlS 2) (SlR 2 W.heap.size (fun w A => RowsAt w A (exPw 0))), .held WlS (WlR W.heap.size (fun w A => RowsAt w A (exPw 0))), .held (SlS 2) (SlR 2 W.heap.size (fun w A => IntsAt w A 2 ((exPw 1).fall 0))), .held (SlS 2) (SlR 2 W.heap.size (fun w A => IntsAt w A 2 ((exPw 1).fall 1))), .held (SlS 2) (SlR 2 W.heap.size (fun w A => RowsAt w A (exPw 1))), .held WlS (WlR W.heap.size (fun w A => RowsAt w A (exPw 1))), .held (SlS 2) (SlR 2 W.heap.size (fun w A => QAt w A none exPq)), .held TwS (TwR W.heap.size (fun w A => QAt w A none exPq)), .held (SlS 2) (SlR 2 W.heap.size (fun w A => IntsAt w A 2 (exP.old))), .held (SlS 2) (SlR 2 W.heap.size (fun w A => IntsAt w A 2 (exP.pence))), .const (.agg #[.int .i64 1, .int .i64 5, .int .i64 3, .int .i64 2]), .held (SlS 1) (SlR 1 W.heap.size (fun w A => RocksAt w A 1 (fun _ => exPr))), .held (SlS 3) (SlR 3 W.heap.size (fun w A => IntsAt w A 3 (fun _ => 0))), .held (SfS 3) (SfR 3 W.heap.size), .held (SlS 2) (SlR 2 W.heap.size (fun w A => IntsAt w A 2 ((exPf 0).fall 0))), .held (SlS 2) (SlR 2 W.heap.size (fun w A => IntsAt w A 2 ((exPf 0).fall 1))), .held (SlS 2) (SlR 2 W.heap.size (fun w A => RowsAt w A (exPf 0))), .held (SpS 15 3) (SpR 15 3 W.heap.size (exPf 0)), .const (.agg #[.int .i64 1, .int .i64 5, .int .i64 3, .int .i64 2]), .held (SlS 1) (SlR 1 W.heap.size (fun w A => RocksAt w A 1 (fun _ => exPr))), .held (SlS 4) (SlR 4 W.heap.size (fun w A => IntsAt w A 4 (fun _ => 0))), .held (SfS 4) (SfR 4 W.heap.size), .held (SlS 2) (SlR 2 W.heap.size (fun w A => IntsAt w A 2 ((exPf 1).fall 0))), .held (SlS 2) (SlR 2 W.heap.size (fun w A => IntsAt w A 2 ((exPf 1).fall 1))), .held (SlS 2) (SlR 2 W.heap.size (fun w A => RowsAt w A (exPf 1))), .held (SpS 30 4) (SpR 30 4 W.heap.size (exPf 1)), .const (.agg #[.int .i64 1, .int .i64 5, .int .i64 3, .int .i64 2]), .held (SlS 1) (SlR 1 W.heap.size (fun w A => RocksAt w A 1 (fun _ => exPr))), .held (SlS 6) (SlR 6 W.heap.size (fun w A => IntsAt w A 6 (fun _ => 0))), .held (SfS 6) (SfR 6 W.heap.size), .held (SlS 2) (SlR 2 W.heap.size (fun w A => IntsAt w A 2 ((exPf 2).fall 0))), .held (SlS 2) (SlR 2 W.heap.size (fun w A => IntsAt w A 2 ((exPf 2).fall 1))), .held (SlS 2) (SlR 2 W.heap.size (fun w A => RowsAt w A (exPf 2))), .held (SpS 80 6) (SpR 80 6 W.heap.size (exPf 2)), .held (SlS 3) (SlR 3 W.heap.size (fun w A => SpotsAt w A 3 exPs))] (by kernel_rfl) (by kernel_rfl) rfl ?hg ?hx ?_
  case hx => exact crossAll_no _ _ _ _ trivial
  case hg => exact ⟨slrG, slrG, slrG, wlrG, slrG, slrG, slrG, wlrG, slrG, twrG, slrG, slrG, trivial, slrG, slrG, sfrG, slrG, slrG, slrG, sprG, trivial, slrG, slrG, sfrG, slrG, slrG, slrG, sprG, trivial, slrG, slrG, sfrG, slrG, slrG, slrG, sprG, slrG, trivial⟩
  refine wpStir_held rfl (fun w' hb hd => ?_) (fun v hv => ?_)
  · skip
    clear hd
    have HZ9 := Lib.hid hb.size
    clear hb
    go_simp
    exact ⟨bAlloc (Below.refl _ _) _, ⟨_, rfl⟩, slr_of (fut_new HZ9.out fun w2 hl hx hF => ints2 hl (hx.cell 0) (hx.cell 1))⟩
  obtain ⟨b0, rfl⟩ := hv
  simp only [Act.put, List.setIfInBounds_toArray, List.set_cons_succ, List.set_cons_zero]
  refine wpStir_held rfl (fun w' hb hd => ?_) (fun v hv => ?_)
  · skip
    clear hd
    have HZ9 := Lib.hid hb.size
    clear hb
    go_simp
    exact ⟨bAlloc (Below.refl _ _) _, ⟨_, rfl⟩, slr_of (fut_new HZ9.out fun w2 hl hx hF => ints2 hl (hx.cell 0) (hx.cell 1))⟩
  obtain ⟨b1, rfl⟩ := hv
  simp only [Act.put, List.setIfInBounds_toArray, List.set_cons_succ, List.set_cons_zero]
  refine wpStir_held rfl (fun w' hb hd => ?_) (fun v hv => ?_)
  · skip
    have H0 := Lib.hid (hd.2.1 (by kernel_rfl) _ rfl)
    have H1 := Lib.hid (hd.1 (by kernel_rfl) _ rfl)
    clear hd
    have HZ9 := Lib.hid hb.size
    clear hb
    go_simp
    exact ⟨bAlloc (Below.refl _ _) _, ⟨_, rfl⟩, slr_of (fut_new HZ9.out fun w2 hl hx hF => rowsTwo rfl rfl rfl hl (hx.cell 0) (hx.cell 1) (hF _ H0.out) (hF _ H1.out))⟩
  obtain ⟨b2, rfl⟩ := hv
  simp only [Act.put, List.setIfInBounds_toArray, List.set_cons_succ, List.set_cons_zero]
  refine wpStir_held rfl (fun w' hb hd => ?_) (fun v hv => ?_)
  · skip
    have H0 := Lib.hid (hd.1 (by kernel_rfl) _ rfl)
    clear hd
    have HZ9 := Lib.hid hb.size
    clear hb
    go_simp
    exact ⟨⟨_, rfl⟩, wlr_of H0.out⟩
  obtain ⟨b3, rfl⟩ := hv
  simp only [Act.put, List.setIfInBounds_toArray, List.set_cons_succ, List.set_cons_zero]
  refine wpStir_held rfl (fun w' hb hd => ?_) (fun v hv => ?_)
  · skip
    clear hd
    have HZ9 := Lib.hid hb.size
    clear hb
    go_simp
    exact ⟨bAlloc (Below.refl _ _) _, ⟨_, rfl⟩, slr_of (fut_new HZ9.out fun w2 hl hx hF => ints2 hl (hx.cell 0) (hx.cell 1))⟩
  obtain ⟨b4, rfl⟩ := hv
  simp only [Act.put, List.setIfInBounds_toArray, List.set_cons_succ, List.set_cons_zero]
  refine wpStir_held rfl (fun w' hb hd => ?_) (fun v hv => ?_)
  · skip
    clear hd
    have HZ9 := Lib.hid hb.size
    clear hb
    go_simp
    exact ⟨bAlloc (Below.refl _ _) _, ⟨_, rfl⟩, slr_of (fut_new HZ9.out fun w2 hl hx hF => ints2 hl (hx.cell 0) (hx.cell 1))⟩
  obtain ⟨b5, rfl⟩ := hv
  simp only [Act.put, List.setIfInBounds_toArray, List.set_cons_succ, List.set_cons_zero]
  refine wpStir_held rfl (fun w' hb hd => ?_) (fun v hv => ?_)
  · skip
    have H0 := Lib.hid (hd.2.1 (by kernel_rfl) _ rfl)
    have H1 := Lib.hid (hd.1 (by kernel_rfl) _ rfl)
    clear hd
    have HZ9 := Lib.hid hb.size
    clear hb
    go_simp
    exact ⟨bAlloc (Below.refl _ _) _, ⟨_, rfl⟩, slr_of (fut_new HZ9.out fun w2 hl hx hF => rowsTwo rfl rfl rfl hl (hx.cell 0) (hx.cell 1) (hF _ H0.out) (hF _ H1.out))⟩
  obtain ⟨b6, rfl⟩ := hv
  simp only [Act.put, List.setIfInBounds_toArray, List.set_cons_succ, List.set_cons_zero]
  refine wpStir_held rfl (fun w' hb hd => ?_) (fun v hv => ?_)
  · skip
    have H0 := Lib.hid (hd.1 (by kernel_rfl) _ rfl)
    clear hd
    have HZ9 := Lib.hid hb.size
    clear hb
    go_simp
    exact ⟨⟨_, rfl⟩, wlr_of H0.out⟩
  obtain ⟨b7, rfl⟩ := hv
  simp only [Act.put, List.setIfInBounds_toArray, List.set_cons_succ, List.set_cons_zero]
  refine wpStir_held rfl (fun w' hb hd => ?_) (fun v hv => ?_)
  · skip
    have H0 := Lib.hid (hd.2.2.2.2.1 (by kernel_rfl) _ rfl)
    have H1 := Lib.hid (hd.1 (by kernel_rfl) _ rfl)
    clear hd
    have HZ9 := Lib.hid hb.size
    clear hb
    go_simp
    exact ⟨bAlloc (Below.refl _ _) _, ⟨_, rfl⟩, slr_of (fut_new HZ9.out fun w2 hl hx hF => worldsTwo hl (hx.cell 0) (hx.cell 1) (hF _ H0.out) (hF _ H1.out))⟩
  obtain ⟨b8, rfl⟩ := hv
  simp only [Act.put, List.setIfInBounds_toArray, List.set_cons_succ, List.set_cons_zero]
  refine wpStir_held rfl (fun w' hb hd => ?_) (fun v hv => ?_)
  · skip
    have H0 := Lib.hid (hd.1 (by kernel_rfl) _ rfl)
    clear hd
    have HZ9 := Lib.hid hb.size
    clear hb
    go_simp
    exact ⟨⟨_, rfl⟩, twr_of H0.out⟩
  obtain ⟨b9, rfl⟩ := hv
  simp only [Act.put, List.setIfInBounds_toArray, List.set_cons_succ, List.set_cons_zero]
  refine wpStir_held rfl (fun w' hb hd => ?_) (fun v hv => ?_)
  · skip
    clear hd
    have HZ9 := Lib.hid hb.size
    clear hb
    go_simp
    exact ⟨bAlloc (Below.refl _ _) _, ⟨_, rfl⟩, slr_of (fut_new HZ9.out fun w2 hl hx hF => ints2 hl (hx.cell 0) (hx.cell 1))⟩
  obtain ⟨b10, rfl⟩ := hv
  simp only [Act.put, List.setIfInBounds_toArray, List.set_cons_succ, List.set_cons_zero]
  refine wpStir_held rfl (fun w' hb hd => ?_) (fun v hv => ?_)
  · skip
    clear hd
    have HZ9 := Lib.hid hb.size
    clear hb
    go_simp
    exact ⟨bAlloc (Below.refl _ _) _, ⟨_, rfl⟩, slr_of (fut_new HZ9.out fun w2 hl hx hF => ints2 hl (hx.cell 0) (hx.cell 1))⟩
  obtain ⟨b11, rfl⟩ := hv
  simp only [Act.put, List.setIfInBounds_toArray, List.set_cons_succ, List.set_cons_zero]
  refine wpStir_const (by go_simp) ?_
  simp only [Act.put, List.setIfInBounds_toArray, List.set_cons_succ, List.set_cons_zero]
  refine wpStir_held rfl (fun w' hb hd => ?_) (fun v hv => ?_)
  · skip
    clear hd
    have HZ9 := Lib.hid hb.size
    clear hb
    go_simp
    exact ⟨bAlloc (Below.refl _ _) _, ⟨_, rfl⟩, slr_of (fut_new HZ9.out fun w2 hl hx hF => .inr ⟨_, 0, rfl, hl, fun i hi => by
      obtain rfl : i = 0 := by omega
      exact ⟨hx.cell 0, hx.cell 1, hx.cell 2, hx.cell 3⟩⟩)⟩
  obtain ⟨b13, rfl⟩ := hv
  simp only [Act.put, List.setIfInBounds_toArray, List.set_cons_succ, List.set_cons_zero]
  refine wpStir_held rfl (fun w' hb hd => ?_) (fun v hv => ?_)
  · skip
    clear hd
    have HZ9 := Lib.hid hb.size
    clear hb
    go_simp
    refine ⟨bAlloc (Below.refl _ _) _, ⟨_, rfl⟩, slr_of (fut_new HZ9.out fun w2 hl hx hF => .inr ⟨_, 0, rfl, hl, fun i hi => ?_⟩)⟩
    rcases (by omega : i = 0 ∨ i = 1 ∨ i = 2) with rfl | rfl | rfl
    · exact (hx.cell 0).trans (by kernel_rfl)
    · exact (hx.cell 1).trans (by kernel_rfl)
    · exact (hx.cell 2).trans (by kernel_rfl)
  obtain ⟨b14, rfl⟩ := hv
  simp only [Act.put, List.setIfInBounds_toArray, List.set_cons_succ, List.set_cons_zero]
  refine wpStir_held rfl (fun w' hb hd => ?_) (fun v hv => ?_)
  · skip
    have H0 := Lib.hid (hd.2.1 (by kernel_rfl) _ rfl)
    have H1 := Lib.hid (hd.1 (by kernel_rfl) _ rfl)
    clear hd
    have HZ9 := Lib.hid hb.size
    clear hb
    go_simp
    exact ⟨⟨_, _, rfl⟩, sfr_of ((H0.out.and H1.out).imp fun w h => ⟨h.1, h.2⟩)⟩
  obtain ⟨b15, b15x, rfl⟩ := hv
  simp only [Act.put, List.setIfInBounds_toArray, List.set_cons_succ, List.set_cons_zero]
  refine wpStir_held rfl (fun w' hb hd => ?_) (fun v hv => ?_)
  · skip
    clear hd
    have HZ9 := Lib.hid hb.size
    clear hb
    go_simp
    exact ⟨bAlloc (Below.refl _ _) _, ⟨_, rfl⟩, slr_of (fut_new HZ9.out fun w2 hl hx hF => ints2 hl (hx.cell 0) (hx.cell 1))⟩
  obtain ⟨b16, rfl⟩ := hv
  simp only [Act.put, List.setIfInBounds_toArray, List.set_cons_succ, List.set_cons_zero]
  refine wpStir_held rfl (fun w' hb hd => ?_) (fun v hv => ?_)
  · skip
    clear hd
    have HZ9 := Lib.hid hb.size
    clear hb
    go_simp
    exact ⟨bAlloc (Below.refl _ _) _, ⟨_, rfl⟩, slr_of (fut_new HZ9.out fun w2 hl hx hF => ints2 hl (hx.cell 0) (hx.cell 1))⟩
  obtain ⟨b17, rfl⟩ := hv
  simp only [Act.put, List.setIfInBounds_toArray, List.set_cons_succ, List.set_cons_zero]
  refine wpStir_held rfl (fun w' hb hd => ?_) (fun v hv => ?_)
  · skip
    have H0 := Lib.hid (hd.2.1 (by kernel_rfl) _ rfl)
    have H1 := Lib.hid (hd.1 (by kernel_rfl) _ rfl)
    clear hd
    have HZ9 := Lib.hid hb.size
    clear hb
    go_simp
    exact ⟨bAlloc (Below.refl _ _) _, ⟨_, rfl⟩, slr_of (fut_new HZ9.out fun w2 hl hx hF => rowsTwo rfl rfl rfl hl (hx.cell 0) (hx.cell 1) (hF _ H0.out) (hF _ H1.out))⟩
  obtain ⟨b18, rfl⟩ := hv
  simp only [Act.put, List.setIfInBounds_toArray, List.set_cons_succ, List.set_cons_zero]
  refine wpStir_held rfl (fun w' hb hd => ?_) (fun v hv => ?_)
  · skip
    have H0 := Lib.hid (hd.2.2.2.1 (by kernel_rfl) _ _ rfl)
    have H1 := Lib.hid (hd.1 (by kernel_rfl) _ rfl)
    clear hd
    have HZ9 := Lib.hid hb.size
    clear hb
    go_simp
    exact ⟨⟨_, _, _, rfl⟩, spr_of (H0.out.and H1.out)⟩
  obtain ⟨b19, b19x, b19y, rfl⟩ := hv
  simp only [Act.put, List.setIfInBounds_toArray, List.set_cons_succ, List.set_cons_zero]
  refine wpStir_const (by go_simp) ?_
  simp only [Act.put, List.setIfInBounds_toArray, List.set_cons_succ, List.set_cons_zero]
  refine wpStir_held rfl (fun w' hb hd => ?_) (fun v hv => ?_)
  · skip
    clear hd
    have HZ9 := Lib.hid hb.size
    clear hb
    go_simp
    exact ⟨bAlloc (Below.refl _ _) _, ⟨_, rfl⟩, slr_of (fut_new HZ9.out fun w2 hl hx hF => .inr ⟨_, 0, rfl, hl, fun i hi => by
      obtain rfl : i = 0 := by omega
      exact ⟨hx.cell 0, hx.cell 1, hx.cell 2, hx.cell 3⟩⟩)⟩
  obtain ⟨b21, rfl⟩ := hv
  simp only [Act.put, List.setIfInBounds_toArray, List.set_cons_succ, List.set_cons_zero]
  refine wpStir_held rfl (fun w' hb hd => ?_) (fun v hv => ?_)
  · skip
    clear hd
    have HZ9 := Lib.hid hb.size
    clear hb
    go_simp
    refine ⟨bAlloc (Below.refl _ _) _, ⟨_, rfl⟩, slr_of (fut_new HZ9.out fun w2 hl hx hF => .inr ⟨_, 0, rfl, hl, fun i hi => ?_⟩)⟩
    rcases (by omega : i = 0 ∨ i = 1 ∨ i = 2 ∨ i = 3) with rfl | rfl | rfl | rfl
    · exact (hx.cell 0).trans (by kernel_rfl)
    · exact (hx.cell 1).trans (by kernel_rfl)
    · exact (hx.cell 2).trans (by kernel_rfl)
    · exact (hx.cell 3).trans (by kernel_rfl)
  obtain ⟨b22, rfl⟩ := hv
  simp only [Act.put, List.setIfInBounds_toArray, List.set_cons_succ, List.set_cons_zero]
  refine wpStir_held rfl (fun w' hb hd => ?_) (fun v hv => ?_)
  · skip
    have H0 := Lib.hid (hd.2.1 (by kernel_rfl) _ rfl)
    have H1 := Lib.hid (hd.1 (by kernel_rfl) _ rfl)
    clear hd
    have HZ9 := Lib.hid hb.size
    clear hb
    go_simp
    exact ⟨⟨_, _, rfl⟩, sfr_of ((H0.out.and H1.out).imp fun w h => ⟨h.1, h.2⟩)⟩
  obtain ⟨b23, b23x, rfl⟩ := hv
  simp only [Act.put, List.setIfInBounds_toArray, List.set_cons_succ, List.set_cons_zero]
  refine wpStir_held rfl (fun w' hb hd => ?_) (fun v hv => ?_)
  · skip
    clear hd
    have HZ9 := Lib.hid hb.size
    clear hb
    go_simp
    exact ⟨bAlloc (Below.refl _ _) _, ⟨_, rfl⟩, slr_of (fut_new HZ9.out fun w2 hl hx hF => ints2 hl (hx.cell 0) (hx.cell 1))⟩
  obtain ⟨b24, rfl⟩ := hv
  simp only [Act.put, List.setIfInBounds_toArray, List.set_cons_succ, List.set_cons_zero]
  refine wpStir_held rfl (fun w' hb hd => ?_) (fun v hv => ?_)
  · skip
    clear hd
    have HZ9 := Lib.hid hb.size
    clear hb
    go_simp
    exact ⟨bAlloc (Below.refl _ _) _, ⟨_, rfl⟩, slr_of (fut_new HZ9.out fun w2 hl hx hF => ints2 hl (hx.cell 0) (hx.cell 1))⟩
  obtain ⟨b25, rfl⟩ := hv
  simp only [Act.put, List.setIfInBounds_toArray, List.set_cons_succ, List.set_cons_zero]
  refine wpStir_held rfl (fun w' hb hd => ?_) (fun v hv => ?_)
  · skip
    have H0 := Lib.hid (hd.2.1 (by kernel_rfl) _ rfl)
    have H1 := Lib.hid (hd.1 (by kernel_rfl) _ rfl)
    clear hd
    have HZ9 := Lib.hid hb.size
    clear hb
    go_simp
    exact ⟨bAlloc (Below.refl _ _) _, ⟨_, rfl⟩, slr_of (fut_new HZ9.out fun w2 hl hx hF => rowsTwo rfl rfl rfl hl (hx.cell 0) (hx.cell 1) (hF _ H0.out) (hF _ H1.out))⟩
  obtain ⟨b26, rfl⟩ := hv
  simp only [Act.put, List.setIfInBounds_toArray, List.set_cons_succ, List.set_cons_zero]
  refine wpStir_held rfl (fun w' hb hd => ?_) (fun v hv => ?_)
  · skip
    have H0 := Lib.hid (hd.2.2.2.1 (by kernel_rfl) _ _ rfl)
    have H1 := Lib.hid (hd.1 (by kernel_rfl) _ rfl)
    clear hd
    have HZ9 := Lib.hid hb.size
    clear hb
    go_simp
    exact ⟨⟨_, _, _, rfl⟩, spr_of (H0.out.and H1.out)⟩
  obtain ⟨b27, b27x, b27y, rfl⟩ := hv
  simp only [Act.put, List.setIfInBounds_toArray, List.set_cons_succ, List.set_cons_zero]
  refine wpStir_const (by go_simp) ?_
  simp only [Act.put, List.setIfInBounds_toArray, List.set_cons_succ, List.set_cons_zero]
  refine wpStir_held rfl (fun w' hb hd => ?_) (fun v hv => ?_)
  · skip
    clear hd
    have HZ9 := Lib.hid hb.size
    clear hb
    go_simp
    exact ⟨bAlloc (Below.refl _ _) _, ⟨_, rfl⟩, slr_of (fut_new HZ9.out fun w2 hl hx hF => .inr ⟨_, 0, rfl, hl, fun i hi => by
      obtain rfl : i = 0 := by omega
      exact ⟨hx.cell 0, hx.cell 1, hx.cell 2, hx.cell 3⟩⟩)⟩
  obtain ⟨b29, rfl⟩ := hv
  simp only [Act.put, List.setIfInBounds_toArray, List.set_cons_succ, List.set_cons_zero]
  refine wpStir_held rfl (fun w' hb hd => ?_) (fun v hv => ?_)
  · skip
    clear hd
    have HZ9 := Lib.hid hb.size
    clear hb
    go_simp
    refine ⟨bAlloc (Below.refl _ _) _, ⟨_, rfl⟩, slr_of (fut_new HZ9.out fun w2 hl hx hF => .inr ⟨_, 0, rfl, hl, fun i hi => ?_⟩)⟩
    rcases (by omega : i = 0 ∨ i = 1 ∨ i = 2 ∨ i = 3 ∨ i = 4 ∨ i = 5) with rfl | rfl | rfl | rfl | rfl | rfl
    · exact (hx.cell 0).trans (by kernel_rfl)
    · exact (hx.cell 1).trans (by kernel_rfl)
    · exact (hx.cell 2).trans (by kernel_rfl)
    · exact (hx.cell 3).trans (by kernel_rfl)
    · exact (hx.cell 4).trans (by kernel_rfl)
    · exact (hx.cell 5).trans (by kernel_rfl)
  obtain ⟨b30, rfl⟩ := hv
  simp only [Act.put, List.setIfInBounds_toArray, List.set_cons_succ, List.set_cons_zero]
  refine wpStir_held rfl (fun w' hb hd => ?_) (fun v hv => ?_)
  · skip
    have H0 := Lib.hid (hd.2.1 (by kernel_rfl) _ rfl)
    have H1 := Lib.hid (hd.1 (by kernel_rfl) _ rfl)
    clear hd
    have HZ9 := Lib.hid hb.size
    clear hb
    go_simp
    exact ⟨⟨_, _, rfl⟩, sfr_of ((H0.out.and H1.out).imp fun w h => ⟨h.1, h.2⟩)⟩
  obtain ⟨b31, b31x, rfl⟩ := hv
  simp only [Act.put, List.setIfInBounds_toArray, List.set_cons_succ, List.set_cons_zero]
  refine wpStir_held rfl (fun w' hb hd => ?_) (fun v hv => ?_)
  · skip
    clear hd
    have HZ9 := Lib.hid hb.size
    clear hb
    go_simp
    exact ⟨bAlloc (Below.refl _ _) _, ⟨_, rfl⟩, slr_of (fut_new HZ9.out fun w2 hl hx hF => ints2 hl (hx.cell 0) (hx.cell 1))⟩
  obtain ⟨b32, rfl⟩ := hv
  simp only [Act.put, List.setIfInBounds_toArray, List.set_cons_succ, List.set_cons_zero]
  refine wpStir_held rfl (fun w' hb hd => ?_) (fun v hv => ?_)
  · skip
    clear hd
    have HZ9 := Lib.hid hb.size
    clear hb
    go_simp
    exact ⟨bAlloc (Below.refl _ _) _, ⟨_, rfl⟩, slr_of (fut_new HZ9.out fun w2 hl hx hF => ints2 hl (hx.cell 0) (hx.cell 1))⟩
  obtain ⟨b33, rfl⟩ := hv
  simp only [Act.put, List.setIfInBounds_toArray, List.set_cons_succ, List.set_cons_zero]
  refine wpStir_held rfl (fun w' hb hd => ?_) (fun v hv => ?_)
  · skip
    have H0 := Lib.hid (hd.2.1 (by kernel_rfl) _ rfl)
    have H1 := Lib.hid (hd.1 (by kernel_rfl) _ rfl)
    clear hd
    have HZ9 := Lib.hid hb.size
    clear hb
    go_simp
    exact ⟨bAlloc (Below.refl _ _) _, ⟨_, rfl⟩, slr_of (fut_new HZ9.out fun w2 hl hx hF => rowsTwo rfl rfl rfl hl (hx.cell 0) (hx.cell 1) (hF _ H0.out) (hF _ H1.out))⟩
  obtain ⟨b34, rfl⟩ := hv
  simp only [Act.put, List.setIfInBounds_toArray, List.set_cons_succ, List.set_cons_zero]
  refine wpStir_held rfl (fun w' hb hd => ?_) (fun v hv => ?_)
  · skip
    have H0 := Lib.hid (hd.2.2.2.1 (by kernel_rfl) _ _ rfl)
    have H1 := Lib.hid (hd.1 (by kernel_rfl) _ rfl)
    clear hd
    have HZ9 := Lib.hid hb.size
    clear hb
    go_simp
    exact ⟨⟨_, _, _, rfl⟩, spr_of (H0.out.and H1.out)⟩
  obtain ⟨b35, b35x, b35y, rfl⟩ := hv
  simp only [Act.put, List.setIfInBounds_toArray, List.set_cons_succ, List.set_cons_zero]
  refine wpStir_held rfl (fun w' hb hd => ?_) (fun v hv => ?_)
  · skip
    have H0 := Lib.hid (hd.2.2.2.2.2.2.2.2.2.2.2.2.2.2.1 (by kernel_rfl) _ _ _ rfl)
    have H1 := Lib.hid (hd.2.2.2.2.2.2.2.1 (by kernel_rfl) _ _ _ rfl)
    have H2 := Lib.hid (hd.1 (by kernel_rfl) _ _ _ rfl)
    clear hd
    have HZ9 := Lib.hid hb.size
    clear hb
    go_simp
    exact ⟨bAlloc (Below.refl _ _) _, ⟨_, rfl⟩, slr_of (fut_new HZ9.out fun w2 hl hx hF => spotsThree hx (hF _ H0.out) (hF _ H1.out) (hF _ H2.out))⟩
  obtain ⟨b36, rfl⟩ := hv
  simp only [Act.put, List.setIfInBounds_toArray, List.set_cons_succ, List.set_cons_zero]
  refine wpStir_end (fun w5 hb5 hd => ?_)
  have HQ := Lib.hid (hd.2.2.2.2.2.2.2.2.2.2.2.2.2.2.2.2.2.2.2.2.2.2.2.2.1 _ rfl)
  have HO := Lib.hid (hd.2.2.2.2.2.2.2.2.2.2.2.2.2.2.2.2.2.2.2.2.2.2.2.1 _ rfl)
  have HP := Lib.hid (hd.2.2.2.2.2.2.2.2.2.2.2.2.2.2.2.2.2.2.2.2.2.2.1 _ rfl)
  have HS := Lib.hid (hd.1 _ rfl)
  clear hd
  have h0 := HT0.out.mono hb5
  have H0 := Lib.hid h0
  have HB5 := Lib.hid (bTrans HB.out hb5)
  have HZ5 := Lib.hid hb5.size
  have a0 := h0.cell 0
  have a1 := h0.cell 1
  have a2 := h0.cell 2
  have a3 := h0.cell 3
  have a4 := h0.cell 4
  have a5 := h0.cell 5
  have a6 := h0.cell 6
  have a7 := h0.cell 7
  have a8 := h0.cell 8
  have f0 := h0.frozen 0
  have f1 := h0.frozen 1
  have f2 := h0.frozen 2
  have f3 := h0.frozen 3
  have f4 := h0.frozen 4
  have f5 := h0.frozen 5
  have f6 := h0.frozen 6
  have f7 := h0.frozen 7
  have f8 := h0.frozen 8
  have l0 := h0.lt
  clear h0 hb5 k0 k1 k2 k3 kl
  simp only [List.drop_succ_cons, List.drop_zero]
  go_wp2_with fail
  have hz : w.heap.size < W.heap.size := by have := HZ.out; omega
  refine bodyPost_ret (v := .agg #[.int .i64 2, .slice (some ⟨b9, 0, none⟩) 2 2, .slice none 0 0, .slice (some ⟨b10, 0, none⟩) 2 2, .slice (some ⟨b11, 0, none⟩) 2 2, .slice (some ⟨b36, 0, none⟩) 3 3, .int .i64 8, .int .i64 6, .int .i64 3]) (by simp [results, Tryz.results76, go_sem, *]) rfl ⟨⟨_, _, _, _, rfl, ⟨HQ.out.sets hz _ _ _ _ _ _ _ _ _, HO.out.sets hz _ _ _ _ _ _ _ _ _, HP.out.sets hz _ _ _ _ _ _ _ _ _, HS.out.sets hz _ _ _ _ _ _ _ _ _⟩⟩, ?_⟩
  exact (Below.setCell (p := ⟨w.heap.size, 8, none⟩) (Below.setCell (p := ⟨w.heap.size, 7, none⟩) (Below.setCell (p := ⟨w.heap.size, 6, none⟩) (Below.setCell (p := ⟨w.heap.size, 5, none⟩) (Below.setCell (p := ⟨w.heap.size, 4, none⟩) (Below.setCell (p := ⟨w.heap.size, 3, none⟩) (Below.setCell (p := ⟨w.heap.size, 2, none⟩) (Below.setCell (p := ⟨w.heap.size, 1, none⟩) (Below.setCell (p := ⟨w.heap.size, 0, none⟩) HB5.out (by show w.heap.size ≤ w.heap.size; omega) _) (by show w.heap.size ≤ w.heap.size; omega) _) (by show w.heap.size ≤ w.heap.size; omega) _) (by show w.heap.size ≤ w.heap.size; omega) _) (by show w.heap.size ≤ w.heap.size; omega) _) (by show w.heap.size ≤ w.heap.size; omega) _) (by show w.heap.size ≤ w.heap.size; omega) _) (by show w.heap.size ≤ w.heap.size; omega) _) (by show w.heap.size ≤ w.heap.size; omega) _)
end Go.Proofs.YthnojgdckkdcgaaGreatDoor

namespace Go.Proofs.YthnojgdckkdcgaaGreatDoor
open Go.RowKit Go.Sort Go.Shelf
section
variable {P : Program} {ops : Array Oper} {n : Nat} {F : Fence} {Cl : (Nat → Bool) → World → Prop}
/-- what the operations owe -/
def wpLst (P : Program) (ops : Array Oper) (Cl : (Nat → Bool) → World → Prop) (Q : Act → Prop) : Nat → List Oper → List Value → Act → Prop
  | _, [], [], a => Q a
  | k, o :: rest, c :: cs, a => (if Region.wanted o (yielded ops a.tmps) then ∀ L w', Cl L w' → L k = false → (∀ i j, L i = true → reach .any ops 6 i j = true → L j = true) → clsAt P (Cl fun j => L j || j == k) o a w' c else c = undef ∧ ∀ L w', Cl L w' → Cl (fun j => L j || j == k) w') ∧ wpLst P ops Cl Q (k + 1) rest cs (a.put o.dst c)
  | _, _, _, _ => False
end
end Go.Proofs.YthnojgdckkdcgaaGreatDoor

namespace Go.Proofs.YthnojgdckkdcgaaGreatDoor
open Go.RowKit Go.Sort Go.Shelf
attribute [local go_sem] Oper.semAt_some
attribute [local irreducible] wpCalm clsAt wpLst
end Go.Proofs.YthnojgdckkdcgaaGreatDoor

namespace Go.Proofs.YthnojgdckkdcgaaGreatDoor
open Go.RowKit Go.Sort
end Go.Proofs.YthnojgdckkdcgaaGreatDoor

namespace Go.Proofs.YthnojgdckkdcgaaGreatDoor
open Go.RowKit Go.Sort
/-- some Bool -/
def SomeB (e : Ending) : Prop := ∃ b, e = .returned (.bool b)
set_option maxHeartbeats 8000000 in
set_option maxRecDepth 100000 in
theorem far9_any (Aw Af Ao Ap As : Option Addr) (cw cf co cp cs : Nat) (t : Pt) (w : World) (hs : t.Small) (hT : PAt w Aw Af Ao Ap As t) :
    Calls Tryz.prog 33 #[.agg #[.int .i64 t.q.wells, .slice Aw t.q.nw cw, .slice Af t.q.nf cf, .slice Ao t.no co, .slice Ap t.np cp, .slice As t.ns cs, .int .i64 t.far, .int .i64 t.harm, .int .i64 t.many]] w fun e w' => SomeB e ∧ Below w.heap.size w w' := by
  have HD0 := Lib.hid (Below.refl w.heap.size w)
  have HSM := Lib.hid hs
  have HT0 := Lib.hid hT
  clear hs hT
  go_enter Tryz.func33, Tryz.ntmps33
  go_wp2_with fail
  refine (huge_any Aw Af cw cf t.q _ HSM.out.q (HT0.out.mono (bAlloc (Below.refl _ _) (.cells #[.int .i64 t.q.wells, .slice Aw t.q.nw cw, .slice Af t.q.nf cf, .slice Ao t.no co, .slice Ap t.np cp, .slice As t.ns cs, .int .i64 t.far, .int .i64 t.harm, .int .i64 t.many] 62))).q).mono ?_
  rintro e w1 ⟨rfl, hb⟩
  have hB1 : Below w.heap.size w w1 := bTrans (bAlloc (Below.refl _ _) (.cells #[.int .i64 t.q.wells, .slice Aw t.q.nw cw, .slice Af t.q.nf cf, .slice Ao t.no co, .slice Ap t.np cp, .slice As t.ns cs, .int .i64 t.far, .int .i64 t.harm, .int .i64 t.many] 62)) hb
  have HD1 := Lib.hid (bTrans HD0.out hB1)
  have HT1 := Lib.hid (HT0.out.mono hB1)
  have T1 := Lib.hid (show TBox w1 w.heap.size 62 #[.int .i64 t.q.wells, .slice Aw t.q.nw cw, .slice Af t.q.nf cf, .slice Ao t.no co, .slice Ap t.np cp, .slice As t.ns cs, .int .i64 t.far, .int .i64 t.harm, .int .i64 t.many] from by have := ((TBox.new w #[.int .i64 t.q.wells, .slice Aw t.q.nw cw, .slice Af t.q.nf cf, .slice Ao t.no co, .slice Ap t.np cp, .slice As t.ns cs, .int .i64 t.far, .int .i64 t.harm, .int .i64 t.many] 62).mono (Below.refl _ _)).mono hb; simpa using this)
  clear hb hB1 HD0 HT0
  obtain ⟨T_0, T_1, T_2, T_3, T_4, T_5, T_6, T_7, T_8, T_l⟩ := T1.out.c9
  cases t.q.huge
  case true =>
    go_wp2_with fail
    go_ret
    exact ⟨⟨_, rfl⟩, HD1.out⟩
  by_cases h1 : 40 < t.no
  case pos =>
    have p1 : (40 : Int) < (t.no : Int) := by omega
    have q1 : decide ((t.no : Int) > 40) = true := by simp; omega
    go_wp2_with fail
    go_ret
    exact ⟨⟨_, rfl⟩, HD1.out⟩
  have p1 : ¬ (40 : Int) < (t.no : Int) := by omega
  have q1 : decide ((t.no : Int) > 40) = false := by simp; omega
  have r1 : decide ((40 : Int) < (t.no : Int)) = false := by simp; omega
  have m1 : t.no ≤ 40 := by omega
  by_cases h2 : 40 < t.np
  case pos =>
    have p2 : (40 : Int) < (t.np : Int) := by omega
    have q2 : decide ((t.np : Int) > 40) = true := by simp; omega
    go_wp2_with fail
    go_ret
    exact ⟨⟨_, rfl⟩, HD1.out⟩
  have p2 : ¬ (40 : Int) < (t.np : Int) := by omega
  have q2 : decide ((t.np : Int) > 40) = false := by simp; omega
  have r2 : decide ((40 : Int) < (t.np : Int)) = false := by simp; omega
  have m2 : t.np ≤ 40 := by omega
  by_cases h3 : 40 < t.ns
  case pos =>
    have p3 : (40 : Int) < (t.ns : Int) := by omega
    have q3 : decide ((t.ns : Int) > 40) = true := by simp; omega
    go_wp2_with fail
    go_ret
    exact ⟨⟨_, rfl⟩, HD1.out⟩
  have p3 : ¬ (40 : Int) < (t.ns : Int) := by omega
  have q3 : decide ((t.ns : Int) > 40) = false := by simp; omega
  have r3 : decide ((40 : Int) < (t.ns : Int)) = false := by simp; omega
  have m3 : t.ns ≤ 40 := by omega
  go_wp2_with fail
  clear p1 q1 r1 p2 q2 r2 p3 q3 r3 h1 h2 h3
  clear T_0 T_1 T_2 T_3 T_4 T_5 T_6 T_7 T_8 T_l
  go_loopw [3, 4] (fun s3 s4 wr => ∃ k : Nat, k ≤ t.ns ∧ s4 = .int .i64 (k : Int) ∧ (∃ d, s3 = Value.bool d) ∧ Below w1.heap.size w1 wr) (fun _ s4 _ => t.ns - (intOf s4).toNat)
  case atStart => exact ⟨0, Nat.zero_le _, rfl, ⟨_, rfl⟩, Below.refl _ _⟩
  case round =>
    obtain ⟨k, hk_k, rfl, hd3, hb⟩ := hrel
    have HBk := Lib.hid hb
    have HD3 := Lib.hid hd3
    clear hd3
    have hB2 : Below w1.heap.size w1 wr := bTrans (Below.refl _ _) hb
    have HD2 := Lib.hid (bTrans HD1.out hB2)
    have HT2 := Lib.hid (HT1.out.mono hB2)
    have HU_k2 := Lib.hid ((show Upto w1 wr from HBk.out))
    have T2 := Lib.hid (T1.out.mono hB2)
    clear hb hB2
    obtain ⟨T_0, T_1, T_2, T_3, T_4, T_5, T_6, T_7, T_8, T_l⟩ := T2.out.c9
    obtain ⟨d, rfl⟩ := HD3.out
    clear HD3
    by_cases hlt_k : k < t.ns
    case pos =>
      have h1_k : (k : Int) < (t.ns : Int) := by omega
      have h0_k : (0 : Int) ≤ (k : Int) := by omega
      obtain ⟨b, o, Ar, Af2, Ax, cr, cf2, cx, hA, hb7, hsh, hrow, s0, s1, s2, s3, s4, s5, s6⟩ := HT2.out.spots.get hlt_k
      have HXS := Lib.hid (HSM.out.spot k hlt_k)
      obtain ⟨x, hxx⟩ : ∃ x, t.spot k = x := ⟨_, rfl⟩
      rw [hxx] at s0 s1 s2 s3 s4 s5 s6 hsh hrow HXS
      have HSH2 := Lib.hid hsh
      have HRW2 := Lib.hid hrow
      have hnr := HXS.out.nr
      have hnf := HXS.out.nf
      have hnn := HXS.out.n
      subst hA
      clear hsh hrow hxx
      by_cases h4 : 40 < x.sh.nr
      case pos =>
        have p4 : (40 : Int) < (x.sh.nr : Int) := by omega
        have q4 : decide ((x.sh.nr : Int) > 40) = true := by simp; omega
        go_wp2_with fail
        go_ret
        exact ⟨⟨_, rfl⟩, (bTrans HD2.out (bAlloc (Below.refl _ _) (.cells #[.int .i64 x.at_, .slice Ar x.sh.nr cr, .slice Af2 x.sh.nf cf2, .int .i64 x.sh.deep, .int .i64 x.sh.haul, .int .i64 x.sh.rest, .slice Ax x.fl.n cx] 71)))⟩
      have p4 : ¬ (40 : Int) < (x.sh.nr : Int) := by omega
      have q4 : decide ((x.sh.nr : Int) > 40) = false := by simp; omega
      have r4 : decide ((40 : Int) < (x.sh.nr : Int)) = false := by simp; omega
      have m4 : x.sh.nr ≤ 40 := by omega
      by_cases h5 : 40 < x.sh.nf
      case pos =>
        have p5 : (40 : Int) < (x.sh.nf : Int) := by omega
        have q5 : decide ((x.sh.nf : Int) > 40) = true := by simp; omega
        go_wp2_with fail
        go_ret
        exact ⟨⟨_, rfl⟩, (bTrans HD2.out (bAlloc (Below.refl _ _) (.cells #[.int .i64 x.at_, .slice Ar x.sh.nr cr, .slice Af2 x.sh.nf cf2, .int .i64 x.sh.deep, .int .i64 x.sh.haul, .int .i64 x.sh.rest, .slice Ax x.fl.n cx] 71)))⟩
      have p5 : ¬ (40 : Int) < (x.sh.nf : Int) := by omega
      have q5 : decide ((x.sh.nf : Int) > 40) = false := by simp; omega
      have r5 : decide ((40 : Int) < (x.sh.nf : Int)) = false := by simp; omega
      have m5 : x.sh.nf ≤ 40 := by omega
      by_cases h6 : 40 < x.fl.n
      case pos =>
        have p6 : (40 : Int) < (x.fl.n : Int) := by omega
        have q6 : decide ((x.fl.n : Int) > 40) = true := by simp; omega
        go_wp2_with fail
        go_ret
        exact ⟨⟨_, rfl⟩, (bTrans HD2.out (bAlloc (Below.refl _ _) (.cells #[.int .i64 x.at_, .slice Ar x.sh.nr cr, .slice Af2 x.sh.nf cf2, .int .i64 x.sh.deep, .int .i64 x.sh.haul, .int .i64 x.sh.rest, .slice Ax x.fl.n cx] 71)))⟩
      have p6 : ¬ (40 : Int) < (x.fl.n : Int) := by omega
      have q6 : decide ((x.fl.n : Int) > 40) = false := by simp; omega
      have r6 : decide ((40 : Int) < (x.fl.n : Int)) = false := by simp; omega
      have m6 : x.fl.n ≤ 40 := by omega
      go_wp2_with fail
      clear s0 s1 s2 s3 s4 s5 s6 hb7 p4 q4 r4 p5 q5 r5 p6 q6 r6 h4 h5 h6
      obtain ⟨wl130, hwl⟩ : ∃ y, y = wr := ⟨_, rfl⟩
      subst hwl
      clear T_0 T_1 T_2 T_3 T_4 T_5 T_6 T_7 T_8 T_l
      go_loopw [6] (fun s6 wr => ∃ j : Nat, j ≤ x.fl.n ∧ s6 = .int .i64 (j : Int) ∧ Below (wl130.alloc (.cells #[.int .i64 x.at_, .slice Ar x.sh.nr cr, .slice Af2 x.sh.nf cf2, .int .i64 x.sh.deep, .int .i64 x.sh.haul, .int .i64 x.sh.rest, .slice Ax x.fl.n cx] 71)).heap.size (wl130.alloc (.cells #[.int .i64 x.at_, .slice Ar x.sh.nr cr, .slice Af2 x.sh.nf cf2, .int .i64 x.sh.deep, .int .i64 x.sh.haul, .int .i64 x.sh.rest, .slice Ax x.fl.n cx] 71)) wr) (fun s6 _ => x.fl.n - (intOf s6).toNat)
      case atStart => exact ⟨0, Nat.zero_le _, rfl, Below.refl _ _⟩
      case round =>
        obtain ⟨j, hk_j, rfl, hb⟩ := hrel
        have HBj := Lib.hid hb
        have hB3 : Below wl130.heap.size wl130 wr := bTrans (bAlloc (Below.refl _ _) (.cells #[.int .i64 x.at_, .slice Ar x.sh.nr cr, .slice Af2 x.sh.nf cf2, .int .i64 x.sh.deep, .int .i64 x.sh.haul, .int .i64 x.sh.rest, .slice Ax x.fl.n cx] 71)) hb
        have HD3 := Lib.hid (bTrans HD2.out hB3)
        have HT3 := Lib.hid (HT2.out.mono hB3)
        have HU_k3 := Lib.hid (HU_k2.out.mono hB3)
        have HSH3 := Lib.hid (HSH2.out.mono hB3)
        have HRW3 := Lib.hid (HRW2.out.mono hB3)
        have HU_j3 := Lib.hid ((show Upto (wl130.alloc (.cells #[.int .i64 x.at_, .slice Ar x.sh.nr cr, .slice Af2 x.sh.nf cf2, .int .i64 x.sh.deep, .int .i64 x.sh.haul, .int .i64 x.sh.rest, .slice Ax x.fl.n cx] 71)) wr from HBj.out))
        have T3 := Lib.hid (T2.out.mono hB3)
        have S3 := Lib.hid (show TBox wr wl130.heap.size 71 #[.int .i64 x.at_, .slice Ar x.sh.nr cr, .slice Af2 x.sh.nf cf2, .int .i64 x.sh.deep, .int .i64 x.sh.haul, .int .i64 x.sh.rest, .slice Ax x.fl.n cx] from by have := ((TBox.new wl130 #[.int .i64 x.at_, .slice Ar x.sh.nr cr, .slice Af2 x.sh.nf cf2, .int .i64 x.sh.deep, .int .i64 x.sh.haul, .int .i64 x.sh.rest, .slice Ax x.fl.n cx] 71).mono (Below.refl _ _)).mono hb; simpa using this)
        clear hb hB3
        obtain ⟨T_0, T_1, T_2, T_3, T_4, T_5, T_6, T_7, T_8, T_l⟩ := T3.out.c9
        obtain ⟨S_0, S_1, S_2, S_3, S_4, S_5, S_6, S_l⟩ := S3.out.c7
        by_cases hlt_j : j < x.fl.n
        case pos =>
          have h1_j : (j : Int) < (x.fl.n : Int) := by omega
          have h0_j : (0 : Int) ≤ (j : Int) := by omega
          rcases HRW3.out with h0 | ⟨b9, o9, hA, hb9, hcell⟩
          · omega
          obtain ⟨A2, c2, c0, _, hlen⟩ := hcell j hlt_j
          obtain ⟨m, hm⟩ : ∃ m, x.fl.len j = m := ⟨_, rfl⟩
          rw [hm] at c0 hlen
          subst hA
          clear hcell hm
          by_cases h7 : 40 < m
          case pos =>
            have p7 : (40 : Int) < (m : Int) := by omega
            have q7 : decide ((m : Int) > 40) = true := by simp; omega
            go_wp2_with fail
            go_ret
            exact ⟨⟨_, rfl⟩, HD3.out⟩
          have p7 : ¬ (40 : Int) < (m : Int) := by omega
          have q7 : decide ((m : Int) > 40) = false := by simp; omega
          have r7 : decide ((40 : Int) < (m : Int)) = false := by simp; omega
          have m7 : m ≤ 40 := by omega
          go_wp2_with fail
          go_roundw
          case rel =>
            first
            | exact ⟨j + 1, by omega, by go_num, HU_j3.out⟩
            | ((repeat apply Exists.intro)
               refine ⟨⟨j + 1, by omega, ?_, HU_j3.out⟩, rfl⟩
               go_num)
          case measure => simp [intOf]; omega
        have he_j : j = x.fl.n := by omega
        have hj9 : ¬ (j : Int) < (x.fl.n : Int) := by omega
        have hj8 : ¬ j < x.fl.n := by omega
        clear he_j
        cases d
        · skip
          by_cases h8 : 6 < x.sh.nf
          case neg =>
            have p8 : ¬ (6 : Int) < (x.sh.nf : Int) := by omega
            have q8 : decide ((x.sh.nf : Int) > 6) = false := by simp; omega
            go_wp2_with fail
            go_roundw
            case rel =>
              first
              | exact ⟨k + 1, by omega, by go_num, ⟨_, rfl⟩, HU_k3.out⟩
              | ((repeat apply Exists.intro)
                 refine ⟨⟨k + 1, by omega, ?_, ⟨_, rfl⟩, HU_k3.out⟩, rfl⟩
                 go_num)
            case measure => simp [intOf]; omega
          have p8 : (6 : Int) < (x.sh.nf : Int) := by omega
          have q8 : decide ((x.sh.nf : Int) > 6) = true := by simp; omega
          go_wp2_with fail
          refine (refCheck_any Ar Af2 cr cf2 x.sh _ HXS.out.nr HXS.out.nf HSH3.out).mono ?_
          rintro e w4 ⟨rfl, hb⟩
          have hB4 : Below wr.heap.size wr w4 := bTrans (Below.refl _ _) hb
          have HD4 := Lib.hid (bTrans HD3.out hB4)
          have HT4 := Lib.hid (HT3.out.mono hB4)
          have HU_k4 := Lib.hid (HU_k3.out.mono hB4)
          have HSH4 := Lib.hid (HSH3.out.mono hB4)
          have HRW4 := Lib.hid (HRW3.out.mono hB4)
          have HU_j4 := Lib.hid (HU_j3.out.mono hB4)
          have T4 := Lib.hid (T3.out.mono hB4)
          have S4 := Lib.hid (S3.out.mono hB4)
          clear hb hB4 HD3 HT3 HU_k3 HSH3 HRW3 HU_j3 T3 T_0 T_1 T_2 T_3 T_4 T_5 T_6 T_7 T_8 T_l S3 S_0 S_1 S_2 S_3 S_4 S_5 S_6 S_l
          obtain ⟨T_0, T_1, T_2, T_3, T_4, T_5, T_6, T_7, T_8, T_l⟩ := T4.out.c9
          obtain ⟨S_0, S_1, S_2, S_3, S_4, S_5, S_6, S_l⟩ := S4.out.c7
          go_wp2_with fail
          go_roundw
          case rel =>
            first
            | exact ⟨k + 1, by omega, by go_num, ⟨_, rfl⟩, HU_k4.out⟩
            | ((repeat apply Exists.intro)
               refine ⟨⟨k + 1, by omega, ?_, ⟨_, rfl⟩, HU_k4.out⟩, rfl⟩
               go_num)
          case measure => simp [intOf]; omega
        · skip
          go_wp2_with fail
          go_roundw
          case rel =>
            first
            | exact ⟨k + 1, by omega, by go_num, ⟨_, rfl⟩, HU_k3.out⟩
            | ((repeat apply Exists.intro)
               refine ⟨⟨k + 1, by omega, ?_, ⟨_, rfl⟩, HU_k3.out⟩, rfl⟩
               go_num)
          case measure => simp [intOf]; omega
    have he_k : k = t.ns := by omega
    have hk9 : ¬ (k : Int) < (t.ns : Int) := by omega
    have hk8 : ¬ k < t.ns := by omega
    clear he_k
    cases d
    case true =>
      go_wp2_with fail
      go_ret
      exact ⟨⟨_, rfl⟩, HD2.out⟩
    go_wp2_with fail
    refine (refCheck5 _ _ _ _ t.q _ HSM.out.q.1 HSM.out.q.2.1 HT2.out.q).mono ?_
    rintro e w3 ⟨rfl, hb⟩
    have hB3 : Below wr.heap.size wr w3 := bTrans (Below.refl _ _) hb
    have HD3 := Lib.hid (bTrans HD2.out hB3)
    have HT3 := Lib.hid (HT2.out.mono hB3)
    have HU_k3 := Lib.hid (HU_k2.out.mono hB3)
    have T3 := Lib.hid (T2.out.mono hB3)
    clear hb hB3 T_0 T_1 T_2 T_3 T_4 T_5 T_6 T_7 T_8 T_l
    obtain ⟨T_0, T_1, T_2, T_3, T_4, T_5, T_6, T_7, T_8, T_l⟩ := T3.out.c9
    by_cases ok : t.q.Ok
    case neg =>
      rw [Qt.err_bad ok]
      go_wp2_with fail
      go_ret
      exact ⟨⟨_, rfl⟩, HD3.out⟩
    rw [Qt.err_ok ok]
    have HQO := Lib.hid ok
    clear ok
    by_cases h9 : 3 < t.q.wells
    case pos =>
      have p9 : decide (t.q.wells > 3) = true := by simp; omega
      go_wp2_with fail
      go_ret
      exact ⟨⟨_, rfl⟩, HD3.out⟩
    have p9 : decide (t.q.wells > 3) = false := by simp; omega
    go_wp2_with fail
    refine (refLeftOf Aw Af cw cf t.q _ HQO.out HT3.out.q).mono ?_
    rintro e w4 ⟨⟨v, rfl, hv⟩, hb⟩
    obtain ⟨A4, c4, rfl, hi4, _⟩ := left_base hv
    have hB4 : Below w3.heap.size w3 w4 := bTrans (Below.refl _ _) hb
    have HD4 := Lib.hid (bTrans HD3.out hB4)
    have HT4 := Lib.hid (HT3.out.mono hB4)
    have HU_k4 := Lib.hid (HU_k3.out.mono hB4)
    have T4 := Lib.hid (T3.out.mono hB4)
    clear hb hB4 HD3 HT3 HU_k3 T3 T_0 T_1 T_2 T_3 T_4 T_5 T_6 T_7 T_8 T_l
    obtain ⟨T_0, T_1, T_2, T_3, T_4, T_5, T_6, T_7, T_8, T_l⟩ := T4.out.c9
    clear hv hi4
    go_wp2_with fail
    go_ret
    exact ⟨⟨_, rfl⟩, HD4.out⟩
end Go.Proofs.YthnojgdckkdcgaaGreatDoor

namespace Go.Proofs.YthnojgdckkdcgaaGreatDoor
open Go.RowKit Go.Sort
theorem hasB_in {t : Pt} {s : Nat} (h : s < t.ns) : t.hasB (s : Int) = true := hasB_iff.2 (by omega)
end Go.Proofs.YthnojgdckkdcgaaGreatDoor

namespace Go.Proofs.YthnojgdckkdcgaaGreatDoor
open Go.RowKit Go.Sort
end Go.Proofs.YthnojgdckkdcgaaGreatDoor

namespace Go.Proofs.YthnojgdckkdcgaaGreatDoor
open Go.RowKit Go.Sort
end Go.Proofs.YthnojgdckkdcgaaGreatDoor

namespace Go.Proofs.YthnojgdckkdcgaaGreatDoor
open Go.RowKit Go.Sort
end Go.Proofs.YthnojgdckkdcgaaGreatDoor

namespace Go.Proofs.YthnojgdckkdcgaaGreatDoor
open Go.RowKit Go.Sort
end Go.Proofs.YthnojgdckkdcgaaGreatDoor

namespace Go.Proofs.YthnojgdckkdcgaaGreatDoor
open Go.RowKit Go.Sort
end Go.Proofs.YthnojgdckkdcgaaGreatDoor

namespace Go.Proofs.YthnojgdckkdcgaaGreatDoor
open Go.RowKit Go.Sort
section
variable {P : Program}
end
end Go.Proofs.YthnojgdckkdcgaaGreatDoor

namespace Go.Proofs.YthnojgdckkdcgaaGreatDoor
open Go.RowKit Go.Sort
end Go.Proofs.YthnojgdckkdcgaaGreatDoor

namespace Go.Proofs.YthnojgdckkdcgaaGreatDoor
open Go.RowKit Go.Sort
end Go.Proofs.YthnojgdckkdcgaaGreatDoor

namespace Go.Proofs.YthnojgdckkdcgaaGreatDoor
open Go.RowKit Go.Sort
end Go.Proofs.YthnojgdckkdcgaaGreatDoor

namespace Go.Proofs.YthnojgdckkdcgaaGreatDoor
open Go.RowKit Go.Sort
end Go.Proofs.YthnojgdckkdcgaaGreatDoor

namespace Go.Proofs.YthnojgdckkdcgaaGreatDoor
open Go.RowKit Go.Sort
end Go.Proofs.YthnojgdckkdcgaaGreatDoor

namespace Go.Proofs.YthnojgdckkdcgaaGreatDoor
open Go.RowKit Go.Sort
end Go.Proofs.YthnojgdckkdcgaaGreatDoor

namespace Go.Proofs.YthnojgdckkdcgaaGreatDoor
open Go.RowKit Go.Sort
end Go.Proofs.YthnojgdckkdcgaaGreatDoor

namespace Go.Proofs.YthnojgdckkdcgaaGreatDoor
open Go.RowKit Go.Sort
end Go.Proofs.YthnojgdckkdcgaaGreatDoor

