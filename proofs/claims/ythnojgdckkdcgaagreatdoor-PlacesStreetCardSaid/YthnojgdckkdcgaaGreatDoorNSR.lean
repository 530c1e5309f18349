/- Parts joined: what all claims of this seat need. -/
import Derived.Test.YthnojgdckkdcgaaGreatDoorNSQ
import Derived.Test.YthnojgdckkdcgaaGreatDoorNSL
import Derived.Test.YthnojgdckkdcgaaGreatDoorNSO
set_option linter.unusedSimpArgs false
set_option linter.unusedVariables false
namespace Go.Proofs.YthnojgdckkdcgaaGreatDoor
open Go.RowKit Go.Sort
def exPw (i : Nat) : Wd := ⟨2, fun _ => 2, fun k j => if k = 0 then (if j = 0 then 1 else if i = 0 then 0 else 2) else (if j = 0 then 0 else 1)⟩
def exPq : Qt := ⟨2, 2, exPw, 0, fun _ => ⟨0, 0, 0, 0, 0⟩⟩
def exPr : Rock := ⟨1, 5, 3, 2⟩
def exPsh (n : Nat) : Sh := ⟨1, fun _ => exPr, n, fun _ => 0, 0, 0, 0⟩
def exPf (s : Nat) : Wd := ⟨2, fun _ => 2, fun k j => if s = 0 then 0 else if s = 1 then (if j = 0 then 1 else if k = 0 then 2 else 3) else (if j = 0 then 0 else 2)⟩
def exPn (s : Nat) : Nat := if s = 0 then 3 else if s = 1 then 4 else 6
def exPa (s : Nat) : Int := if s = 0 then 15 else if s = 1 then 30 else 80
def exPs (s : Nat) : Spot := ⟨exPa s, exPsh (exPn s), exPf s⟩
def exP : Pt := ⟨exPq, 2, fun i => if i = 0 then 10 else 50, 2, fun i => if i = 0 then 7 else 4, 3, exPs, 8, 6, 3⟩
theorem exPw_ok (i : Nat) : (exPw i).Ok 2 :=
  ⟨rfl, fun _ _ => rfl, fun k _ j _ => by
    unfold exPw
    simp only
    repeat' split
    all_goals omega⟩
theorem exPq_ok : exPq.Ok := ⟨by decide, by decide, by decide, by decide, fun i _ => exPw_ok i, fun i hi => absurd hi (Nat.not_lt_zero _)⟩
theorem exPn_le (s : Nat) : 3 ≤ exPn s ∧ exPn s ≤ 6 := by
  unfold exPn
  repeat' split
  all_goals omega
theorem exPa_in (s : Nat) : 0 ≤ exPa s ∧ exPa s ≤ 99 := by
  unfold exPa
  repeat' split
  all_goals omega
theorem exPsh_ok {n : Nat} (hn : n ≤ 12) : (exPsh n).Ok :=
  ⟨by show 1 ≤ 4; decide, hn, fun i _ => ⟨by show (0 : Int) ≤ 1; decide, by show (1 : Int) ≤ 9; decide, by show (0 : Int) ≤ 5; decide, by show (5 : Int) ≤ 99; decide, by show (0 : Int) ≤ 3; decide, by show (3 : Int) ≤ 12; decide, by show (-1 : Int) ≤ 2; decide, by show (2 : Int) ≤ 99; decide⟩, fun i _ => by show (0 : Int) ≤ 0; decide, fun i _ => by show (0 : Int) < ((1 : Nat) : Int); decide, by show (0 : Int) ≤ 0; decide, by show (0 : Int) ≤ 9; decide, by show (0 : Int) ≤ 0; decide, by show (0 : Int) ≤ 9; decide, by show (0 : Int) ≤ 0; decide, by show (0 : Int) ≤ 9; decide⟩
theorem exPs_ok (s : Nat) : (exPs s).Ok 2 2 :=
  ⟨(exPa_in s).1, (exPa_in s).2, exPsh_ok (by have := exPn_le s; omega), rfl, fun _ _ => rfl, fun k _ j _ => by
    show 0 ≤ (exPf s).fall k j ∧ (exPf s).fall k j ≤ 9
    unfold exPf
    simp only
    repeat' split
    all_goals omega⟩
theorem exP_ok : exP.Ok :=
  ⟨exPq_ok, rfl, rfl, by decide, by decide, by decide, by decide, fun i _ => by show 0 ≤ (if i = 0 then (10 : Int) else 50) ∧ (if i = 0 then (10 : Int) else 50) ≤ 99; split <;> omega, fun i _ => by show 0 ≤ (if i = 0 then (7 : Int) else 4) ∧ (if i = 0 then (7 : Int) else 4) ≤ 99; split <;> omega, fun s _ => exPs_ok s⟩
theorem exP_small : exP.Small :=
  ⟨⟨by decide, by decide, fun i _ k _ => by show 2 ≤ _; decide⟩, by decide, by decide, by decide, fun s _ => ⟨by show 1 ≤ _; decide, by show exPn s ≤ _; have := exPn_le s; omega, by show 2 ≤ _; decide, fun k _ => by show 2 ≤ _; decide⟩⟩
theorem exP_left : exP.q.leftL = [0, 1] := by decide +kernel
theorem exP_know : exP.knowErr true = 0 := Pt.knowErr_ok exP_ok (by rw [exP_left]; decide)
theorem exP_cheap0 : exP.cheap 0 = (17, 0) := by
  show (exPsh 3).cheapOut = _
  rw [cheapOut_some (exPsh_ok (by decide)) (by decide +kernel)]
  decide +kernel
theorem exP_cheap1 : exP.cheap 1 = (24, 0) := by
  show (exPsh 4).cheapOut = _
  rw [cheapOut_some (exPsh_ok (by decide)) (by decide +kernel)]
  decide +kernel
theorem exP_cheap2 : exP.cheap 2 = (34, 0) := by
  show (exPsh 6).cheapOut = _
  rw [cheapOut_some (exPsh_ok (by decide)) (by decide +kernel)]
  decide +kernel
def exC (s : Nat) : Int := if s = 0 then 17 else if s = 1 then 24 else 34
theorem three {p : Nat → Prop} (h0 : p 0) (h1 : p 1) (h2 : p 2) : ∀ s, s < 3 → p s := fun s hs => by
  rcases (by omega : s = 0 ∨ s = 1 ∨ s = 2) with rfl | rfl | rfl
  · exact h0
  · exact h1
  · exact h2
theorem exP_cheap : ∀ s, s < 3 → exP.cheap s = (exC s, 0) := three exP_cheap0 exP_cheap1 exP_cheap2
theorem exP_can {h : Int} : ∀ s, s < 3 → (exP.harmed h).canB s = true := fun s hs => by
  show decide ((exP.cheap s).2 = 0) = true
  rw [exP_cheap s hs]; rfl
theorem exP_canB : ∀ s, s < 3 → exP.canB s = true := fun s hs => by
  show decide ((exP.cheap s).2 = 0) = true
  rw [exP_cheap s hs]; rfl
theorem exP_freeB : ∀ s, s < 3 → exP.freeB s = !exP.whoAny s := fun s hs => by unfold Pt.freeB; rw [exP_canB s hs]; rfl
theorem exP_best : exP.best = some 2 := by
  unfold Pt.best
  rw [show exP.ns = 3 from rfl, minBy_congr (g := exC) (q := fun s => !exP.whoAny s) 3 fun i hi => ⟨by rw [exP_cheap i hi], exP_freeB i hi⟩]
  decide +kernel
theorem exP_loosen : exP.loosen = 6 := by
  unfold Pt.loosen
  have e : ∀ h : Nat, (exP.harmed (h : Int)).anyFree = anyB (fun s => !(exP.harmed (h : Int)).whoAny s) 3 := fun h => by
    unfold Pt.anyFree
    exact anyB_congr fun s hs => by unfold Pt.freeB; rw [exP_can s hs]; rfl
  rw [firstFrom_congr (q := fun h : Nat => anyB (fun s => !(exP.harmed (h : Int)).whoAny s) 3) fun h _ _ => e h]
  decide +kernel
def exWh (s : Nat) : Int := exC s + exP.askedTo s exP.m
theorem exP_whole : ∀ s, s < 3 → exP.whole s = exWh s := fun s hs => by unfold Pt.whole exWh; rw [exP_cheap s hs]
def pairInC (may : Nat → Nat → Bool) (wh : Nat → Int) (a : Nat) : Nat → Pr → Pr
  | 0, x => x
  | b + 1, x => if may a b && (decide ((pairInC may wh a b x).least < 0) || decide (wh a + wh b < (pairInC may wh a b x).least)) then ⟨a, b, wh a + wh b⟩ else pairInC may wh a b x
def pairToC (may : Nat → Nat → Bool) (wh : Nat → Int) (n : Nat) : Nat → Pr
  | 0 => ⟨0, 0, -1⟩
  | a + 1 => pairInC may wh a n (pairToC may wh n a)
theorem pairIn_C {t : Pt} {may : Nat → Nat → Bool} {wh : Nat → Int} (hm : ∀ a b, a < t.ns → b < t.ns → t.mayB a b = may a b) (hw : ∀ a, a < t.ns → t.whole a = wh a) {a : Nat} (ha : a < t.ns) (x : Pr) : ∀ n, n ≤ t.ns → t.pairIn a n x = pairInC may wh a n x
  | 0, _ => rfl
  | n + 1, hn => by
    have ih := pairIn_C hm hw ha x n (by omega)
    unfold Pt.pairIn pairInC
    rw [ih, hm a n ha (by omega), hw a ha, hw n (by omega)]
theorem pairTo_C {t : Pt} {may : Nat → Nat → Bool} {wh : Nat → Int} (hm : ∀ a b, a < t.ns → b < t.ns → t.mayB a b = may a b) (hw : ∀ a, a < t.ns → t.whole a = wh a) : ∀ n, n ≤ t.ns → t.pairTo n = pairToC may wh t.ns n
  | 0, _ => rfl
  | n + 1, hn => by
    unfold Pt.pairTo pairToC
    rw [pairTo_C hm hw n (by omega), pairIn_C hm hw (by omega) _ _ (Nat.le_refl _)]
def exMay (a b : Nat) : Bool := decide (a < b) && decide (exP.far ≤ dst (exP.spot a).at_ (exP.spot b).at_)
theorem exP_may : ∀ a b, a < exP.ns → b < exP.ns → exP.mayB a b = exMay a b := fun a b ha hb => by
  unfold Pt.mayB exMay
  rw [exP_canB a ha, exP_canB b hb]
  rfl
theorem exP_pair : exP.pairOut = (0, 1, 0) := by
  unfold Pt.pairOut
  rw [exP_know, if_pos rfl]
  unfold Pt.pair
  rw [pairTo_C exP_may (fun a ha => exP_whole a ha) exP.ns (Nat.le_refl _)]
  decide +kernel
theorem exP_ask (b : Bool) : exP.askErr b = if b then 0 else 1 := by
  cases b
  · exact Pt.askErr_arg exP_ok
  · exact Pt.askErr_ok exP_ok
theorem exP_has : exP.hasB 1 = true ∧ exP.hasB 2 = true := by decide
theorem exP_old : exP.oldB 1 = true := by decide +kernel
theorem exP_near : exP.nearOut 1 = (20, 0) := by
  unfold Pt.nearOut
  rw [exP_has.1, exP_ask, if_pos rfl, if_pos rfl]
  decide +kernel
theorem exP_price : exP.priceOut 2 = (34, 0) := by
  unfold Pt.priceOut
  rw [exP_has.2, exP_ask, if_pos rfl, if_pos rfl]
  exact exP_cheap2
theorem exP_forbids : exP.forbidsOut 1 1 = (3, 0) := by
  unfold Pt.forbidsOut
  rw [exP_has.1, exP_old, show (true && true) = true from rfl, exP_know, if_pos rfl]
  decide +kernel
theorem exP_who : exP.who 1 = [1] := by decide +kernel
theorem exP_bestOut : exP.bestOut = (2, 0) := by
  unfold Pt.bestOut
  rw [exP_know, if_pos rfl, exP_best]
  rfl
theorem exP_loosenOut : exP.loosenOut = (6, 0) := by
  unfold Pt.loosenOut
  rw [exP_know, if_pos rfl, exP_loosen]
  rfl
/-! ### rows that a region makes in whatever order -/
/-- so it is in each world in which what was made stands -/
def Fut (N : Nat) (Q : World → Prop) (w : World) : Prop := ∀ w' : World, w.heap.size ≤ w'.heap.size → (∀ k, N ≤ k → k < w.heap.size → w'.heap[k]? = w.heap[k]?) → Q w'
theorem Fut.mono {N : Nat} {Q : World → Prop} {w w' : World} (h : Fut N Q w) (hb : Below w.heap.size w w') : Fut N Q w' := fun w2 h1 h2 => h w2 (Nat.le_trans hb.size h1) fun k hk hl => (h2 k hk (Nat.lt_of_lt_of_le hl hb.size)).trans (hb.block k hl)
theorem fut_new {N : Nat} {w : World} {cs : Array Value} {ty : TypeId} {Q : World → Prop} (hN : N ≤ w.heap.size) (h : ∀ w' : World, w.heap.size < w'.heap.size → TBox w' w.heap.size ty cs → (∀ R : World → Prop, Fut N R w → R w') → Q w') : Fut N Q (w.alloc (.cells cs ty)) := fun w' h1 h2 => by
  simp only [World.size_alloc] at h1 h2
  refine h w' (by omega) ((h2 w.heap.size hN (by omega)).trans (heap_alloc_new _ _)) fun R hR => hR w' (by omega) fun k hk hl => (h2 k hk (by omega)).trans (Below.heap_alloc _ _ _ hl)
def SlS (n : Nat) (v : Value) : Prop := ∃ b, v = .slice (some ⟨b, 0, none⟩) n n
def SlR (n N : Nat) (P : World → Option Addr → Prop) (w : World) (v : Value) : Prop := ∀ b, v = .slice (some ⟨b, 0, none⟩) n n → Fut N (fun w => P w (some ⟨b, 0, none⟩)) w
theorem slrG {n N : Nat} {P : World → Option Addr → Prop} : (Stir.held (SlS n) (SlR n N P)).good := ⟨⟨_, 0, rfl⟩, fun _ _ _ hb h b e => (h b e).mono hb⟩
theorem slr_of {n N : Nat} {P : World → Option Addr → Prop} {w : World} {b : Nat} (h : Fut N (fun w => P w (some ⟨b, 0, none⟩)) w) : SlR n N P w (.slice (some ⟨b, 0, none⟩) n n) := fun b' e => by
  obtain rfl : b = b' := by simpa using e
  exact h
def WlS (v : Value) : Prop := ∃ b, v = .agg #[.slice (some ⟨b, 0, none⟩) 2 2]
def WlR (N : Nat) (P : World → Option Addr → Prop) (w : World) (v : Value) : Prop := ∀ b, v = .agg #[.slice (some ⟨b, 0, none⟩) 2 2] → Fut N (fun w => P w (some ⟨b, 0, none⟩)) w
theorem wlrG {N : Nat} {P : World → Option Addr → Prop} : (Stir.held WlS (WlR N P)).good := ⟨⟨_, 0, rfl⟩, fun _ _ _ hb h b e => (h b e).mono hb⟩
theorem wlr_of {N : Nat} {P : World → Option Addr → Prop} {w : World} {b : Nat} (h : Fut N (fun w => P w (some ⟨b, 0, none⟩)) w) : WlR N P w (.agg #[.slice (some ⟨b, 0, none⟩) 2 2]) := fun b' e => by
  obtain rfl : b = b' := by simpa using e
  exact h
def TwS (v : Value) : Prop := ∃ b, v = .agg #[.int .i64 2, .slice (some ⟨b, 0, none⟩) 2 2, .slice none 0 0]
def TwR (N : Nat) (P : World → Option Addr → Prop) (w : World) (v : Value) : Prop := ∀ b, v = .agg #[.int .i64 2, .slice (some ⟨b, 0, none⟩) 2 2, .slice none 0 0] → Fut N (fun w => P w (some ⟨b, 0, none⟩)) w
theorem twrG {N : Nat} {P : World → Option Addr → Prop} : (Stir.held TwS (TwR N P)).good := ⟨⟨_, 0, rfl⟩, fun _ _ _ hb h b e => (h b e).mono hb⟩
theorem twr_of {N : Nat} {P : World → Option Addr → Prop} {w : World} {b : Nat} (h : Fut N (fun w => P w (some ⟨b, 0, none⟩)) w) : TwR N P w (.agg #[.int .i64 2, .slice (some ⟨b, 0, none⟩) 2 2, .slice none 0 0]) := fun b' e => by
  obtain rfl : b = b' := by simpa using e
  exact h
def SfS (n : Nat) (v : Value) : Prop := ∃ b c, v = .agg #[.slice (some ⟨b, 0, none⟩) 1 1, .slice (some ⟨c, 0, none⟩) n n, .int .i64 0, .int .i64 0, .int .i64 0]
def SfR (n N : Nat) (w : World) (v : Value) : Prop := ∀ b c, v = .agg #[.slice (some ⟨b, 0, none⟩) 1 1, .slice (some ⟨c, 0, none⟩) n n, .int .i64 0, .int .i64 0, .int .i64 0] → Fut N (fun w => ShAt w (some ⟨b, 0, none⟩) (some ⟨c, 0, none⟩) (exPsh n)) w
theorem sfrG {n N : Nat} : (Stir.held (SfS n) (SfR n N)).good := ⟨⟨_, 0, 0, rfl⟩, fun _ _ _ hb h b c e => (h b c e).mono hb⟩
theorem sfr_of {n N : Nat} {w : World} {b c : Nat} (h : Fut N (fun w => ShAt w (some ⟨b, 0, none⟩) (some ⟨c, 0, none⟩) (exPsh n)) w) : SfR n N w (.agg #[.slice (some ⟨b, 0, none⟩) 1 1, .slice (some ⟨c, 0, none⟩) n n, .int .i64 0, .int .i64 0, .int .i64 0]) := fun b' c' e => by
  obtain ⟨rfl, rfl⟩ : b = b' ∧ c = c' := by simpa using e
  exact h
def SpS (a : Int) (n : Nat) (v : Value) : Prop := ∃ b c d, v = .agg #[.int .i64 a, .slice (some ⟨b, 0, none⟩) 1 1, .slice (some ⟨c, 0, none⟩) n n, .int .i64 0, .int .i64 0, .int .i64 0, .slice (some ⟨d, 0, none⟩) 2 2]
def SpR (a : Int) (n N : Nat) (x : Wd) (w : World) (v : Value) : Prop := ∀ b c d, v = .agg #[.int .i64 a, .slice (some ⟨b, 0, none⟩) 1 1, .slice (some ⟨c, 0, none⟩) n n, .int .i64 0, .int .i64 0, .int .i64 0, .slice (some ⟨d, 0, none⟩) 2 2] → Fut N (fun w => ShAt w (some ⟨b, 0, none⟩) (some ⟨c, 0, none⟩) (exPsh n) ∧ RowsAt w (some ⟨d, 0, none⟩) x) w
theorem sprG {a : Int} {n N : Nat} {x : Wd} : (Stir.held (SpS a n) (SpR a n N x)).good := ⟨⟨_, 0, 0, 0, rfl⟩, fun _ _ _ hb h b c d e => (h b c d e).mono hb⟩
theorem spr_of {a : Int} {n N : Nat} {x : Wd} {w : World} {b c d : Nat} (h : Fut N (fun w => ShAt w (some ⟨b, 0, none⟩) (some ⟨c, 0, none⟩) (exPsh n) ∧ RowsAt w (some ⟨d, 0, none⟩) x) w) : SpR a n N x w (.agg #[.int .i64 a, .slice (some ⟨b, 0, none⟩) 1 1, .slice (some ⟨c, 0, none⟩) n n, .int .i64 0, .int .i64 0, .int .i64 0, .slice (some ⟨d, 0, none⟩) 2 2]) := fun b' c' d' e => by
  obtain ⟨rfl, rfl, rfl⟩ : b = b' ∧ c = c' ∧ d = d' := by simpa using e
  exact h
theorem Fut.and {N : Nat} {Q R : World → Prop} {w : World} (h : Fut N Q w) (h' : Fut N R w) : Fut N (fun w => Q w ∧ R w) w := fun w' a b => ⟨h w' a b, h' w' a b⟩
theorem Fut.imp {N : Nat} {Q R : World → Prop} {w : World} (h : Fut N Q w) (hi : ∀ w, Q w → R w) : Fut N R w := fun w' a b => hi w' (h w' a b)
theorem rowsTwo {w : World} {b b0 b1 : Nat} {x : Wd} (hn : x.n = 2) (hl0 : x.len 0 = 2) (hl1 : x.len 1 = 2) (hl : b < w.heap.size) (h0 : w.cell? ⟨b, 0, none⟩ = some (.slice (some ⟨b0, 0, none⟩) 2 2)) (h1 : w.cell? ⟨b, 1, none⟩ = some (.slice (some ⟨b1, 0, none⟩) 2 2)) (i0 : IntsAt w (some ⟨b0, 0, none⟩) 2 (x.fall 0)) (i1 : IntsAt w (some ⟨b1, 0, none⟩) 2 (x.fall 1)) : RowsAt w (some ⟨b, 0, none⟩) x :=
  .inr ⟨b, 0, rfl, hl, fun k hk => match k, hk with
    | 0, _ => ⟨_, 2, by rw [hl0]; exact h0, by rw [hl0]; exact i0, by rw [hl0]; decide⟩
    | 1, _ => ⟨_, 2, by rw [hl1]; exact h1, by rw [hl1]; exact i1, by rw [hl1]; decide⟩
    | n + 2, hk => absurd hk (by omega)⟩
theorem worldsTwo {w : World} {b b0 b1 : Nat} (hl : b < w.heap.size) (h0 : w.cell? ⟨b, 0, none⟩ = some (.slice (some ⟨b0, 0, none⟩) 2 2)) (h1 : w.cell? ⟨b, 1, none⟩ = some (.slice (some ⟨b1, 0, none⟩) 2 2)) (r0 : RowsAt w (some ⟨b0, 0, none⟩) (exPw 0)) (r1 : RowsAt w (some ⟨b1, 0, none⟩) (exPw 1)) : QAt w (some ⟨b, 0, none⟩) none exPq :=
  ⟨.inr ⟨b, 0, rfl, hl, fun i hi => match i, hi with
    | 0, _ => ⟨_, 2, h0, r0, by show (2 : Nat) ≤ _; decide⟩
    | 1, _ => ⟨_, 2, h1, r1, by show (2 : Nat) ≤ _; decide⟩
    | n + 2, hi => absurd hi (by show ¬ n + 2 < 2; omega)⟩, .inl rfl⟩
theorem spotsThree {w : World} {b : Nat} {r0 r1 r2 f0 f1 f2 x0 x1 x2 : Nat} (h : TBox w b 71 #[.int .i64 15, .slice (some ⟨r0, 0, none⟩) 1 1, .slice (some ⟨f0, 0, none⟩) 3 3, .int .i64 0, .int .i64 0, .int .i64 0, .slice (some ⟨x0, 0, none⟩) 2 2, .int .i64 30, .slice (some ⟨r1, 0, none⟩) 1 1, .slice (some ⟨f1, 0, none⟩) 4 4, .int .i64 0, .int .i64 0, .int .i64 0, .slice (some ⟨x1, 0, none⟩) 2 2, .int .i64 80, .slice (some ⟨r2, 0, none⟩) 1 1, .slice (some ⟨f2, 0, none⟩) 6 6, .int .i64 0, .int .i64 0, .int .i64 0, .slice (some ⟨x2, 0, none⟩) 2 2])
    (h0 : ShAt w (some ⟨r0, 0, none⟩) (some ⟨f0, 0, none⟩) (exPsh 3) ∧ RowsAt w (some ⟨x0, 0, none⟩) (exPf 0)) (h1 : ShAt w (some ⟨r1, 0, none⟩) (some ⟨f1, 0, none⟩) (exPsh 4) ∧ RowsAt w (some ⟨x1, 0, none⟩) (exPf 1)) (h2 : ShAt w (some ⟨r2, 0, none⟩) (some ⟨f2, 0, none⟩) (exPsh 6) ∧ RowsAt w (some ⟨x2, 0, none⟩) (exPf 2)) : SpotsAt w (some ⟨b, 0, none⟩) 3 exPs :=
  .inr ⟨b, 0, rfl, h.lt, three ⟨_, _, _, 1, 3, 2, h0.1, h0.2, h.cell 0, h.cell 1, h.cell 2, h.cell 3, h.cell 4, h.cell 5, h.cell 6⟩ ⟨_, _, _, 1, 4, 2, h1.1, h1.2, h.cell 7, h.cell 8, h.cell 9, h.cell 10, h.cell 11, h.cell 12, h.cell 13⟩ ⟨_, _, _, 1, 6, 2, h2.1, h2.2, h.cell 14, h.cell 15, h.cell 16, h.cell 17, h.cell 18, h.cell 19, h.cell 20⟩⟩
end Go.Proofs.YthnojgdckkdcgaaGreatDoor

namespace Go.Proofs.YthnojgdckkdcgaaGreatDoor
open Go.RowKit Go.Sort
theorem Fut.sets {N : Nat} {Q : World → Prop} {w : World} {b : Nat} (h : Fut N Q w) (hb : b < N) (v0 v1 v2 v3 v4 v5 v6 v7 v8 : Value) : Q (((((((((w.setCell ⟨b, 0, none⟩ v0).setCell ⟨b, 1, none⟩ v1).setCell ⟨b, 2, none⟩ v2).setCell ⟨b, 3, none⟩ v3).setCell ⟨b, 4, none⟩ v4).setCell ⟨b, 5, none⟩ v5).setCell ⟨b, 6, none⟩ v6).setCell ⟨b, 7, none⟩ v7).setCell ⟨b, 8, none⟩ v8) := by
  refine h _ (by simp [World.setCell]) fun k hk _ => ?_
  have hne : k ≠ b := by omega
  iterate 9 rw [Below.heap_setCell _ _ _ k hne]
def ExOut9 (w : World) (e : Ending) : Prop := ∃ (Aw Ao Ap As : Option Addr), e = .returned (.agg #[.int .i64 2, .slice Aw 2 2, .slice none 0 0, .slice Ao 2 2, .slice Ap 2 2, .slice As 3 3, .int .i64 8, .int .i64 6, .int .i64 3]) ∧ PAt w Aw none Ao Ap As exP
set_option maxHeartbeats 16000000 in
set_option maxRecDepth 100000 in
theorem example9_any (w : World) : Calls Tryz.prog 76 #[] w fun e w' => ExOut9 w' e ∧ Below w.heap.size w w' := by
  go_enter Tryz.func76, Tryz.ntmps76
  go_wp2_with fail
  have hB : Below w.heap.size w ((w.alloc (.cells #[.int .i64 0, .slice none 0 0, .slice none 0 0, .slice none 0 0, .slice none 0 0, .slice none 0 0, .int .i64 0, .int .i64 0, .int .i64 0] 62)).alloc (.cells #[.int .i64 1, .int .i64 5, .int .i64 3, .int .i64 2] 190)) := bAlloc (bAlloc (Below.refl _ _) _) _
  have hT0 : TBox ((w.alloc (.cells #[.int .i64 0, .slice none 0 0, .slice none 0 0, .slice none 0 0, .slice none 0 0, .slice none 0 0, .int .i64 0, .int .i64 0, .int .i64 0] 62)).alloc (.cells #[.int .i64 1, .int .i64 5, .int .i64 3, .int .i64 2] 190)) w.heap.size 62 #[.int .i64 0, .slice none 0 0, .slice none 0 0, .slice none 0 0, .slice none 0 0, .slice none 0 0, .int .i64 0, .int .i64 0, .int .i64 0] := TBox.mono (TBox.new w #[.int .i64 0, .slice none 0 0, .slice none 0 0, .slice none 0 0, .slice none 0 0, .slice none 0 0, .int .i64 0, .int .i64 0, .int .i64 0] 62) (bAlloc (Below.refl _ _) _)
  have hR0 : TBox ((w.alloc (.cells #[.int .i64 0, .slice none 0 0, .slice none 0 0, .slice none 0 0, .slice none 0 0, .slice none 0 0, .int .i64 0, .int .i64 0, .int .i64 0] 62)).alloc (.cells #[.int .i64 1, .int .i64 5, .int .i64 3, .int .i64 2] 190)) (w.heap.size + 1) 190 #[.int .i64 1, .int .i64 5, .int .i64 3, .int .i64 2] := by
    have := TBox.new (w.alloc (.cells #[.int .i64 0, .slice none 0 0, .slice none 0 0, .slice none 0 0, .slice none 0 0, .slice none 0 0, .int .i64 0, .int .i64 0, .int .i64 0] 62)) #[.int .i64 1, .int .i64 5, .int .i64 3, .int .i64 2] 190
    simpa [TBox] using this
  have hZ : w.heap.size + 2 ≤ ((w.alloc (.cells #[.int .i64 0, .slice none 0 0, .slice none 0 0, .slice none 0 0, .slice none 0 0, .slice none 0 0, .int .i64 0, .int .i64 0, .int .i64 0] 62)).alloc (.cells #[.int .i64 1, .int .i64 5, .int .i64 3, .int .i64 2] 190)).heap.size := by simp
  generalize ((w.alloc (.cells #[.int .i64 0, .slice none 0 0, .slice none 0 0, .slice none 0 0, .slice none 0 0, .slice none 0 0, .int .i64 0, .int .i64 0, .int .i64 0] 62)).alloc (.cells #[.int .i64 1, .int .i64 5, .int .i64 3, .int .i64 2] 190)) = W at *
  have HB := Lib.hid hB
  have HT0 := Lib.hid hT0
  have HZ := Lib.hid hZ
  have k0 : W.cell? ⟨w.heap.size + 1, 0, none⟩ = some (.int .i64 1) := hR0.cell 0
  have k1 : W.cell? ⟨w.heap.size + 1, 1, none⟩ = some (.int .i64 5) := hR0.cell 1
  have k2 : W.cell? ⟨w.heap.size + 1, 2, none⟩ = some (.int .i64 3) := hR0.cell 2
  have k3 : W.cell? ⟨w.heap.size + 1, 3, none⟩ = some (.int .i64 2) := hR0.cell 3
  have kl := hR0.lt
  clear hB hT0 hR0 hZ
  refine wp_region_stir 37 [.held (SlS 2) (SlR 2 W.heap.size (fun w A => IntsAt w A 2 ((exPw 0).fall 0))), .held (SlS 2) (SlR 2 W.heap.size (fun w A => IntsAt w A 2 ((exPw 0).fall 1))), .held (SlS 2) (SlR 2 W.heap.size (fun w A => RowsAt w A (exPw 0))), .held WlS (WlR W.heap.size (fun w A => RowsAt w A (exPw 0))), .held (SlS 2) (SlR 2 W.heap.size (fun w A => IntsAt w A 2 ((exPw 1).fall 0))), .held (SlS 2) (SlR 2 W.heap.size (fun w A => IntsAt w A 2 ((exPw 1).fall 1))), .held (SlS 2) (SlR 2 W.heap.size (fun w A => RowsAt w A (exPw 1))), .held WlS (WlR W.heap.size (fun w A => RowsAt w A (exPw 1))), .held (SlS 2) (SlR 2 W.heap.size (fun w A => QAt w A none exPq)), .held TwS (TwR W.heap.size (fun w A => QAt w A none exPq)), .held (SlS 2) (SlR 2 W.heap.size (fun w A => IntsAt w A 2 (exP.old))), .held (SlS 2) (SlR 2 W.heap.size (fun w A => IntsAt w A 2 (exP.pence))), .const (.agg #[.int .i64 1, .int .i64 5, .int .i64 3, .int .i64 2]), .held (SlS 1) (SlR 1 W.heap.size (fun w A => RocksAt w A 1 (fun _ => exPr))), .held (SlS 3) (SlR 3 W.heap.size (fun w A => IntsAt w A 3 (fun _ => 0))), .held (SfS 3) (SfR 3 W.heap.size), .held (SlS 2) (SlR 2 W.heap.size (fun w A => IntsAt w A 2 ((exPf 0).fall 0))), .held (SlS 2) (SlR 2 W.heap.size (fun w A => IntsAt w A 2 ((exPf 0).fall 1))), .held (SlS 2) (SlR 2 W.heap.size (fun w A => RowsAt w A (exPf 0))), .held (SpS 15 3) (SpR 15 3 W.heap.size (exPf 0)), .const (.agg #[.int .i64 1, .int .i64 5, .int .i64 3, .int .i64 2]), .held (SlS 1) (SlR 1 W.heap.size (fun w A => RocksAt w A 1 (fun _ => exPr))), .held (SlS 4) (SlR 4 W.heap.size (fun w A => IntsAt w A 4 (fun _ => 0))), .held (SfS 4) (SfR 4 W.heap.size), .held (SlS 2) (SlR 2 W.heap.size (fun w A => IntsAt w A 2 ((exPf 1).fall 0))), .held (SlS 2) (SlR 2 W.heap.size (fun w A => IntsAt w A 2 ((exPf 1).fall 1))), .held (SlS 2) (SlR 2 W.heap.size (fun w A => RowsAt w A (exPf 1))), .held (SpS 30 4) (SpR 30 4 W.heap.size (exPf 1)), .const (.agg #[.int .i64 1, .int .i64 5, .int .i64 3, .int .i64 2]), .held (SlS 1) (SlR 1 W.heap.size (fun w A => RocksAt w A 1 (fun _ => exPr))), .held (SlS 6) (SlR 6 W.heap.size (fun w A => IntsAt w A 6 (fun _ => 0))), .held (SfS 6) (SfR 6 W.heap.size), .held (SlS 2) (SlR 2 W.heap.size (fun w A => IntsAt w A 2 ((exPf 2).fall 0))), .held (SlS 2) (SlR 2 W.heap.size (fun w A => IntsAt w A 2 ((exPf 2).fall 1))), .held (SlS 2) (SlR 2 W.heap.size (fun w A => RowsAt w A (exPf 2))), .held (SpS 80 6) (SpR 80 6 W.heap.size (exPf 2)), .held (SlS 3) (SlR 3 W.heap.size (fun w A => SpotsAt w A 3 exPs))] (by kernel_rfl) (by kernel_rfl) rfl ?hg ?hx ?_
  case hx => exact crossAll_no _ _ _ _ trivial
  case hg => exact ⟨slrG, slrG, slrG, wlrG, slrG, slrG, slrG, wlrG, slrG, twrG, slrG, slrG, trivial, slrG, slrG, sfrG, slrG, slrG, slrG, sprG, trivial, slrG, slrG, sfrG, slrG, slrG, slrG, sprG, trivial, slrG, slrG, sfrG, slrG, slrG, slrG, sprG, slrG, trivial⟩
  refine wpStir_held rfl (fun w' hb hd => ?_) (fun v hv => ?_)
  · skip
    clear hd
    have HZ9 := Lib.hid hb.size
    clear hb
    go_simp
    exact ⟨bAlloc (Below.refl _ _) _, ⟨_, rfl⟩, slr_of (fut_new HZ9.out fun w2 hl hx hF => ints2 hl (hx.cell 0) (hx.cell 1))⟩
  obtain ⟨b0, rfl⟩ := hv
  simp only [Act.put, List.setIfInBounds_toArray, List.set_cons_succ, List.set_cons_zero]
  refine wpStir_held rfl (fun w' hb hd => ?_) (fun v hv => ?_)
  · skip
    clear hd
    have HZ9 := Lib.hid hb.size
    clear hb
    go_simp
    exact ⟨bAlloc (Below.refl _ _) _, ⟨_, rfl⟩, slr_of (fut_new HZ9.out fun w2 hl hx hF => ints2 hl (hx.cell 0) (hx.cell 1))⟩
  obtain ⟨b1, rfl⟩ := hv
  simp only [Act.put, List.setIfInBounds_toArray, List.set_cons_succ, List.set_cons_zero]
  refine wpStir_held rfl (fun w' hb hd => ?_) (fun v hv => ?_)
  · skip
    have H0 := Lib.hid (hd.2.1 (by kernel_rfl) _ rfl)
    have H1 := Lib.hid (hd.1 (by kernel_rfl) _ rfl)
    clear hd
    have HZ9 := Lib.hid hb.size
    clear hb
    go_simp
    exact ⟨bAlloc (Below.refl _ _) _, ⟨_, rfl⟩, slr_of (fut_new HZ9.out fun w2 hl hx hF => rowsTwo rfl rfl rfl hl (hx.cell 0) (hx.cell 1) (hF _ H0.out) (hF _ H1.out))⟩
  obtain ⟨b2, rfl⟩ := hv
  simp only [Act.put, List.setIfInBounds_toArray, List.set_cons_succ, List.set_cons_zero]
  refine wpStir_held rfl (fun w' hb hd => ?_) (fun v hv => ?_)
  · skip
    have H0 := Lib.hid (hd.1 (by kernel_rfl) _ rfl)
    clear hd
    have HZ9 := Lib.hid hb.size
    clear hb
    go_simp
    exact ⟨⟨_, rfl⟩, wlr_of H0.out⟩
  obtain ⟨b3, rfl⟩ := hv
  simp only [Act.put, List.setIfInBounds_toArray, List.set_cons_succ, List.set_cons_zero]
  refine wpStir_held rfl (fun w' hb hd => ?_) (fun v hv => ?_)
  · skip
    clear hd
    have HZ9 := Lib.hid hb.size
    clear hb
    go_simp
    exact ⟨bAlloc (Below.refl _ _) _, ⟨_, rfl⟩, slr_of (fut_new HZ9.out fun w2 hl hx hF => ints2 hl (hx.cell 0) (hx.cell 1))⟩
  obtain ⟨b4, rfl⟩ := hv
  simp only [Act.put, List.setIfInBounds_toArray, List.set_cons_succ, List.set_cons_zero]
  refine wpStir_held rfl (fun w' hb hd => ?_) (fun v hv => ?_)
  · skip
    clear hd
    have HZ9 := Lib.hid hb.size
    clear hb
    go_simp
    exact ⟨bAlloc (Below.refl _ _) _, ⟨_, rfl⟩, slr_of (fut_new HZ9.out fun w2 hl hx hF => ints2 hl (hx.cell 0) (hx.cell 1))⟩
  obtain ⟨b5, rfl⟩ := hv
  simp only [Act.put, List.setIfInBounds_toArray, List.set_cons_succ, List.set_cons_zero]
  refine wpStir_held rfl (fun w' hb hd => ?_) (fun v hv => ?_)
  · skip
    have H0 := Lib.hid (hd.2.1 (by kernel_rfl) _ rfl)
    have H1 := Lib.hid (hd.1 (by kernel_rfl) _ rfl)
    clear hd
    have HZ9 := Lib.hid hb.size
    clear hb
    go_simp
    exact ⟨bAlloc (Below.refl _ _) _, ⟨_, rfl⟩, slr_of (fut_new HZ9.out fun w2 hl hx hF => rowsTwo rfl rfl rfl hl (hx.cell 0) (hx.cell 1) (hF _ H0.out) (hF _ H1.out))⟩
  obtain ⟨b6, rfl⟩ := hv
  simp only [Act.put, List.setIfInBounds_toArray, List.set_cons_succ, List.set_cons_zero]
  refine wpStir_held rfl (fun w' hb hd => ?_) (fun v hv => ?_)
  · skip
    have H0 := Lib.hid (hd.1 (by kernel_rfl) _ rfl)
    clear hd
    have HZ9 := Lib.hid hb.size
    clear hb
    go_simp
    exact ⟨⟨_, rfl⟩, wlr_of H0.out⟩
  obtain ⟨b7, rfl⟩ := hv
  simp only [Act.put, List.setIfInBounds_toArray, List.set_cons_succ, List.set_cons_zero]
  refine wpStir_held rfl (fun w' hb hd => ?_) (fun v hv => ?_)
  · skip
    have H0 := Lib.hid (hd.2.2.2.2.1 (by kernel_rfl) _ rfl)
    have H1 := Lib.hid (hd.1 (by kernel_rfl) _ rfl)
    clear hd
    have HZ9 := Lib.hid hb.size
    clear hb
    go_simp
    exact ⟨bAlloc (Below.refl _ _) _, ⟨_, rfl⟩, slr_of (fut_new HZ9.out fun w2 hl hx hF => worldsTwo hl (hx.cell 0) (hx.cell 1) (hF _ H0.out) (hF _ H1.out))⟩
  obtain ⟨b8, rfl⟩ := hv
  simp only [Act.put, List.setIfInBounds_toArray, List.set_cons_succ, List.set_cons_zero]
  refine wpStir_held rfl (fun w' hb hd => ?_) (fun v hv => ?_)
  · skip
    have H0 := Lib.hid (hd.1 (by kernel_rfl) _ rfl)
    clear hd
    have HZ9 := Lib.hid hb.size
    clear hb
    go_simp
    exact ⟨⟨_, rfl⟩, twr_of H0.out⟩
  obtain ⟨b9, rfl⟩ := hv
  simp only [Act.put, List.setIfInBounds_toArray, List.set_cons_succ, List.set_cons_zero]
  refine wpStir_held rfl (fun w' hb hd => ?_) (fun v hv => ?_)
  · skip
    clear hd
    have HZ9 := Lib.hid hb.size
    clear hb
    go_simp
    exact ⟨bAlloc (Below.refl _ _) _, ⟨_, rfl⟩, slr_of (fut_new HZ9.out fun w2 hl hx hF => ints2 hl (hx.cell 0) (hx.cell 1))⟩
  obtain ⟨b10, rfl⟩ := hv
  simp only [Act.put, List.setIfInBounds_toArray, List.set_cons_succ, List.set_cons_zero]
  refine wpStir_held rfl (fun w' hb hd => ?_) (fun v hv => ?_)
  · skip
    clear hd
    have HZ9 := Lib.hid hb.size
    clear hb
    go_simp
    exact ⟨bAlloc (Below.refl _ _) _, ⟨_, rfl⟩, slr_of (fut_new HZ9.out fun w2 hl hx hF => ints2 hl (hx.cell 0) (hx.cell 1))⟩
  obtain ⟨b11, rfl⟩ := hv
  simp only [Act.put, List.setIfInBounds_toArray, List.set_cons_succ, List.set_cons_zero]
  refine wpStir_const (by go_simp) ?_
  simp only [Act.put, List.setIfInBounds_toArray, List.set_cons_succ, List.set_cons_zero]
  refine wpStir_held rfl (fun w' hb hd => ?_) (fun v hv => ?_)
  · skip
    clear hd
    have HZ9 := Lib.hid hb.size
    clear hb
    go_simp
    exact ⟨bAlloc (Below.refl _ _) _, ⟨_, rfl⟩, slr_of (fut_new HZ9.out fun w2 hl hx hF => .inr ⟨_, 0, rfl, hl, fun i hi => by
      obtain rfl : i = 0 := by omega
      exact ⟨hx.cell 0, hx.cell 1, hx.cell 2, hx.cell 3⟩⟩)⟩
  obtain ⟨b13, rfl⟩ := hv
  simp only [Act.put, List.setIfInBounds_toArray, List.set_cons_succ, List.set_cons_zero]
  refine wpStir_held rfl (fun w' hb hd => ?_) (fun v hv => ?_)
  · skip
    clear hd
    have HZ9 := Lib.hid hb.size
    clear hb
    go_simp
    refine ⟨bAlloc (Below.refl _ _) _, ⟨_, rfl⟩, slr_of (fut_new HZ9.out fun w2 hl hx hF => .inr ⟨_, 0, rfl, hl, fun i hi => ?_⟩)⟩
    rcases (by omega : i = 0 ∨ i = 1 ∨ i = 2) with rfl | rfl | rfl
    · exact (hx.cell 0).trans (by kernel_rfl)
    · exact (hx.cell 1).trans (by kernel_rfl)
    · exact (hx.cell 2).trans (by kernel_rfl)
  obtain ⟨b14, rfl⟩ := hv
  simp only [Act.put, List.setIfInBounds_toArray, List.set_cons_succ, List.set_cons_zero]
  refine wpStir_held rfl (fun w' hb hd => ?_) (fun v hv => ?_)
  · skip
    have H0 := Lib.hid (hd.2.1 (by kernel_rfl) _ rfl)
    have H1 := Lib.hid (hd.1 (by kernel_rfl) _ rfl)
    clear hd
    have HZ9 := Lib.hid hb.size
    clear hb
    go_simp
    exact ⟨⟨_, _, rfl⟩, sfr_of ((H0.out.and H1.out).imp fun w h => ⟨h.1, h.2⟩)⟩
  obtain ⟨b15, b15x, rfl⟩ := hv
  simp only [Act.put, List.setIfInBounds_toArray, List.set_cons_succ, List.set_cons_zero]
  refine wpStir_held rfl (fun w' hb hd => ?_) (fun v hv => ?_)
  · skip
    clear hd
    have HZ9 := Lib.hid hb.size
    clear hb
    go_simp
    exact ⟨bAlloc (Below.refl _ _) _, ⟨_, rfl⟩, slr_of (fut_new HZ9.out fun w2 hl hx hF => ints2 hl (hx.cell 0) (hx.cell 1))⟩
  obtain ⟨b16, rfl⟩ := hv
  simp only [Act.put, List.setIfInBounds_toArray, List.set_cons_succ, List.set_cons_zero]
  refine wpStir_held rfl (fun w' hb hd => ?_) (fun v hv => ?_)
  · skip
    clear hd
    have HZ9 := Lib.hid hb.size
    clear hb
    go_simp
    exact ⟨bAlloc (Below.refl _ _) _, ⟨_, rfl⟩, slr_of (fut_new HZ9.out fun w2 hl hx hF => ints2 hl (hx.cell 0) (hx.cell 1))⟩
  obtain ⟨b17, rfl⟩ := hv
  simp only [Act.put, List.setIfInBounds_toArray, List.set_cons_succ, List.set_cons_zero]
  refine wpStir_held rfl (fun w' hb hd => ?_) (fun v hv => ?_)
  · skip
    have H0 := Lib.hid (hd.2.1 (by kernel_rfl) _ rfl)
    have H1 := Lib.hid (hd.1 (by kernel_rfl) _ rfl)
    clear hd
    have HZ9 := Lib.hid hb.size
    clear hb
    go_simp
    exact ⟨bAlloc (Below.refl _ _) _, ⟨_, rfl⟩, slr_of (fut_new HZ9.out fun w2 hl hx hF => rowsTwo rfl rfl rfl hl (hx.cell 0) (hx.cell 1) (hF _ H0.out) (hF _ H1.out))⟩
  obtain ⟨b18, rfl⟩ := hv
  simp only [Act.put, List.setIfInBounds_toArray, List.set_cons_succ, List.set_cons_zero]
  refine wpStir_held rfl (fun w' hb hd => ?_) (fun v hv => ?_)
  · skip
    have H0 := Lib.hid (hd.2.2.2.1 (by kernel_rfl) _ _ rfl)
    have H1 := Lib.hid (hd.1 (by kernel_rfl) _ rfl)
    clear hd
    have HZ9 := Lib.hid hb.size
    clear hb
    go_simp
    exact ⟨⟨_, _, _, rfl⟩, spr_of (H0.out.and H1.out)⟩
  obtain ⟨b19, b19x, b19y, rfl⟩ := hv
  simp only [Act.put, List.setIfInBounds_toArray, List.set_cons_succ, List.set_cons_zero]
  refine wpStir_const (by go_simp) ?_
  simp only [Act.put, List.setIfInBounds_toArray, List.set_cons_succ, List.set_cons_zero]
  refine wpStir_held rfl (fun w' hb hd => ?_) (fun v hv => ?_)
  · skip
    clear hd
    have HZ9 := Lib.hid hb.size
    clear hb
    go_simp
    exact ⟨bAlloc (Below.refl _ _) _, ⟨_, rfl⟩, slr_of (fut_new HZ9.out fun w2 hl hx hF => .inr ⟨_, 0, rfl, hl, fun i hi => by
      obtain rfl : i = 0 := by omega
      exact ⟨hx.cell 0, hx.cell 1, hx.cell 2, hx.cell 3⟩⟩)⟩
  obtain ⟨b21, rfl⟩ := hv
  simp only [Act.put, List.setIfInBounds_toArray, List.set_cons_succ, List.set_cons_zero]
  refine wpStir_held rfl (fun w' hb hd => ?_) (fun v hv => ?_)
  · skip
    clear hd
    have HZ9 := Lib.hid hb.size
    clear hb
    go_simp
    refine ⟨bAlloc (Below.refl _ _) _, ⟨_, rfl⟩, slr_of (fut_new HZ9.out fun w2 hl hx hF => .inr ⟨_, 0, rfl, hl, fun i hi => ?_⟩)⟩
    rcases (by omega : i = 0 ∨ i = 1 ∨ i = 2 ∨ i = 3) with rfl | rfl | rfl | rfl
    · exact (hx.cell 0).trans (by kernel_rfl)
    · exact (hx.cell 1).trans (by kernel_rfl)
    · exact (hx.cell 2).trans (by kernel_rfl)
    · exact (hx.cell 3).trans (by kernel_rfl)
  obtain ⟨b22, rfl⟩ := hv
  simp only [Act.put, List.setIfInBounds_toArray, List.set_cons_succ, List.set_cons_zero]
  refine wpStir_held rfl (fun w' hb hd => ?_) (fun v hv => ?_)
  · skip
    have H0 := Lib.hid (hd.2.1 (by kernel_rfl) _ rfl)
    have H1 := Lib.hid (hd.1 (by kernel_rfl) _ rfl)
    clear hd
    have HZ9 := Lib.hid hb.size
    clear hb
    go_simp
    exact ⟨⟨_, _, rfl⟩, sfr_of ((H0.out.and H1.out).imp fun w h => ⟨h.1, h.2⟩)⟩
  obtain ⟨b23, b23x, rfl⟩ := hv
  simp only [Act.put, List.setIfInBounds_toArray, List.set_cons_succ, List.set_cons_zero]
  refine wpStir_held rfl (fun w' hb hd => ?_) (fun v hv => ?_)
  · skip
    clear hd
    have HZ9 := Lib.hid hb.size
    clear hb
    go_simp
    exact ⟨bAlloc (Below.refl _ _) _, ⟨_, rfl⟩, slr_of (fut_new HZ9.out fun w2 hl hx hF => ints2 hl (hx.cell 0) (hx.cell 1))⟩
  obtain ⟨b24, rfl⟩ := hv
  simp only [Act.put, List.setIfInBounds_toArray, List.set_cons_succ, List.set_cons_zero]
  refine wpStir_held rfl (fun w' hb hd => ?_) (fun v hv => ?_)
  · skip
    clear hd
    have HZ9 := Lib.hid hb.size
    clear hb
    go_simp
    exact ⟨bAlloc (Below.refl _ _) _, ⟨_, rfl⟩, slr_of (fut_new HZ9.out fun w2 hl hx hF => ints2 hl (hx.cell 0) (hx.cell 1))⟩
  obtain ⟨b25, rfl⟩ := hv
  simp only [Act.put, List.setIfInBounds_toArray, List.set_cons_succ, List.set_cons_zero]
  refine wpStir_held rfl (fun w' hb hd => ?_) (fun v hv => ?_)
  · skip
    have H0 := Lib.hid (hd.2.1 (by kernel_rfl) _ rfl)
    have H1 := Lib.hid (hd.1 (by kernel_rfl) _ rfl)
    clear hd
    have HZ9 := Lib.hid hb.size
    clear hb
    go_simp
    exact ⟨bAlloc (Below.refl _ _) _, ⟨_, rfl⟩, slr_of (fut_new HZ9.out fun w2 hl hx hF => rowsTwo rfl rfl rfl hl (hx.cell 0) (hx.cell 1) (hF _ H0.out) (hF _ H1.out))⟩
  obtain ⟨b26, rfl⟩ := hv
  simp only [Act.put, List.setIfInBounds_toArray, List.set_cons_succ, List.set_cons_zero]
  refine wpStir_held rfl (fun w' hb hd => ?_) (fun v hv => ?_)
  · skip
    have H0 := Lib.hid (hd.2.2.2.1 (by kernel_rfl) _ _ rfl)
    have H1 := Lib.hid (hd.1 (by kernel_rfl) _ rfl)
    clear hd
    have HZ9 := Lib.hid hb.size
    clear hb
    go_simp
    exact ⟨⟨_, _, _, rfl⟩, spr_of (H0.out.and H1.out)⟩
  obtain ⟨b27, b27x, b27y, rfl⟩ := hv
  simp only [Act.put, List.setIfInBounds_toArray, List.set_cons_succ, List.set_cons_zero]
  refine wpStir_const (by go_simp) ?_
  simp only [Act.put, List.setIfInBounds_toArray, List.set_cons_succ, List.set_cons_zero]
  refine wpStir_held rfl (fun w' hb hd => ?_) (fun v hv => ?_)
  · skip
    clear hd
    have HZ9 := Lib.hid hb.size
    clear hb
    go_simp
    exact ⟨bAlloc (Below.refl _ _) _, ⟨_, rfl⟩, slr_of (fut_new HZ9.out fun w2 hl hx hF => .inr ⟨_, 0, rfl, hl, fun i hi => by
      obtain rfl : i = 0 := by omega
      exact ⟨hx.cell 0, hx.cell 1, hx.cell 2, hx.cell 3⟩⟩)⟩
  obtain ⟨b29, rfl⟩ := hv
  simp only [Act.put, List.setIfInBounds_toArray, List.set_cons_succ, List.set_cons_zero]
  refine wpStir_held rfl (fun w' hb hd => ?_) (fun v hv => ?_)
  · skip
    clear hd
    have HZ9 := Lib.hid hb.size
    clear hb
    go_simp
    refine ⟨bAlloc (Below.refl _ _) _, ⟨_, rfl⟩, slr_of (fut_new HZ9.out fun w2 hl hx hF => .inr ⟨_, 0, rfl, hl, fun i hi => ?_⟩)⟩
    rcases (by omega : i = 0 ∨ i = 1 ∨ i = 2 ∨ i = 3 ∨ i = 4 ∨ i = 5) with rfl | rfl | rfl | rfl | rfl | rfl
    · exact (hx.cell 0).trans (by kernel_rfl)
    · exact (hx.cell 1).trans (by kernel_rfl)
    · exact (hx.cell 2).trans (by kernel_rfl)
    · exact (hx.cell 3).trans (by kernel_rfl)
    · exact (hx.cell 4).trans (by kernel_rfl)
    · exact (hx.cell 5).trans (by kernel_rfl)
  obtain ⟨b30, rfl⟩ := hv
  simp only [Act.put, List.setIfInBounds_toArray, List.set_cons_succ, List.set_cons_zero]
  refine wpStir_held rfl (fun w' hb hd => ?_) (fun v hv => ?_)
  · skip
    have H0 := Lib.hid (hd.2.1 (by kernel_rfl) _ rfl)
    have H1 := Lib.hid (hd.1 (by kernel_rfl) _ rfl)
    clear hd
    have HZ9 := Lib.hid hb.size
    clear hb
    go_simp
    exact ⟨⟨_, _, rfl⟩, sfr_of ((H0.out.and H1.out).imp fun w h => ⟨h.1, h.2⟩)⟩
  obtain ⟨b31, b31x, rfl⟩ := hv
  simp only [Act.put, List.setIfInBounds_toArray, List.set_cons_succ, List.set_cons_zero]
  refine wpStir_held rfl (fun w' hb hd => ?_) (fun v hv => ?_)
  · skip
    clear hd
    have HZ9 := Lib.hid hb.size
    clear hb
    go_simp
    exact ⟨bAlloc (Below.refl _ _) _, ⟨_, rfl⟩, slr_of (fut_new HZ9.out fun w2 hl hx hF => ints2 hl (hx.cell 0) (hx.cell 1))⟩
  obtain ⟨b32, rfl⟩ := hv
  simp only [Act.put, List.setIfInBounds_toArray, List.set_cons_succ, List.set_cons_zero]
  refine wpStir_held rfl (fun w' hb hd => ?_) (fun v hv => ?_)
  · skip
    clear hd
    have HZ9 := Lib.hid hb.size
    clear hb
    go_simp
    exact ⟨bAlloc (Below.refl _ _) _, ⟨_, rfl⟩, slr_of (fut_new HZ9.out fun w2 hl hx hF => ints2 hl (hx.cell 0) (hx.cell 1))⟩
  obtain ⟨b33, rfl⟩ := hv
  simp only [Act.put, List.setIfInBounds_toArray, List.set_cons_succ, List.set_cons_zero]
  refine wpStir_held rfl (fun w' hb hd => ?_) (fun v hv => ?_)
  · skip
    have H0 := Lib.hid (hd.2.1 (by kernel_rfl) _ rfl)
    have H1 := Lib.hid (hd.1 (by kernel_rfl) _ rfl)
    clear hd
    have HZ9 := Lib.hid hb.size
    clear hb
    go_simp
    exact ⟨bAlloc (Below.refl _ _) _, ⟨_, rfl⟩, slr_of (fut_new HZ9.out fun w2 hl hx hF => rowsTwo rfl rfl rfl hl (hx.cell 0) (hx.cell 1) (hF _ H0.out) (hF _ H1.out))⟩
  obtain ⟨b34, rfl⟩ := hv
  simp only [Act.put, List.setIfInBounds_toArray, List.set_cons_succ, List.set_cons_zero]
  refine wpStir_held rfl (fun w' hb hd => ?_) (fun v hv => ?_)
  · skip
    have H0 := Lib.hid (hd.2.2.2.1 (by kernel_rfl) _ _ rfl)
    have H1 := Lib.hid (hd.1 (by kernel_rfl) _ rfl)
    clear hd
    have HZ9 := Lib.hid hb.size
    clear hb
    go_simp
    exact ⟨⟨_, _, _, rfl⟩, spr_of (H0.out.and H1.out)⟩
  obtain ⟨b35, b35x, b35y, rfl⟩ := hv
  simp only [Act.put, List.setIfInBounds_toArray, List.set_cons_succ, List.set_cons_zero]
  refine wpStir_held rfl (fun w' hb hd => ?_) (fun v hv => ?_)
  · skip
    have H0 := Lib.hid (hd.2.2.2.2.2.2.2.2.2.2.2.2.2.2.1 (by kernel_rfl) _ _ _ rfl)
    have H1 := Lib.hid (hd.2.2.2.2.2.2.2.1 (by kernel_rfl) _ _ _ rfl)
    have H2 := Lib.hid (hd.1 (by kernel_rfl) _ _ _ rfl)
    clear hd
    have HZ9 := Lib.hid hb.size
    clear hb
    go_simp
    exact ⟨bAlloc (Below.refl _ _) _, ⟨_, rfl⟩, slr_of (fut_new HZ9.out fun w2 hl hx hF => spotsThree hx (hF _ H0.out) (hF _ H1.out) (hF _ H2.out))⟩
  obtain ⟨b36, rfl⟩ := hv
  simp only [Act.put, List.setIfInBounds_toArray, List.set_cons_succ, List.set_cons_zero]
  refine wpStir_end (fun w5 hb5 hd => ?_)
  have HQ := Lib.hid (hd.2.2.2.2.2.2.2.2.2.2.2.2.2.2.2.2.2.2.2.2.2.2.2.2.1 _ rfl)
  have HO := Lib.hid (hd.2.2.2.2.2.2.2.2.2.2.2.2.2.2.2.2.2.2.2.2.2.2.2.1 _ rfl)
  have HP := Lib.hid (hd.2.2.2.2.2.2.2.2.2.2.2.2.2.2.2.2.2.2.2.2.2.2.1 _ rfl)
  have HS := Lib.hid (hd.1 _ rfl)
  clear hd
  have h0 := HT0.out.mono hb5
  have H0 := Lib.hid h0
  have HB5 := Lib.hid (bTrans HB.out hb5)
  have HZ5 := Lib.hid hb5.size
  have a0 := h0.cell 0
  have a1 := h0.cell 1
  have a2 := h0.cell 2
  have a3 := h0.cell 3
  have a4 := h0.cell 4
  have a5 := h0.cell 5
  have a6 := h0.cell 6
  have a7 := h0.cell 7
  have a8 := h0.cell 8
  have f0 := h0.frozen 0
  have f1 := h0.frozen 1
  have f2 := h0.frozen 2
  have f3 := h0.frozen 3
  have f4 := h0.frozen 4
  have f5 := h0.frozen 5
  have f6 := h0.frozen 6
  have f7 := h0.frozen 7
  have f8 := h0.frozen 8
  have l0 := h0.lt
  clear h0 hb5 k0 k1 k2 k3 kl
  simp only [List.drop_succ_cons, List.drop_zero]
  go_wp2_with fail
  have hz : w.heap.size < W.heap.size := by have := HZ.out; omega
  refine bodyPost_ret (v := .agg #[.int .i64 2, .slice (some ⟨b9, 0, none⟩) 2 2, .slice none 0 0, .slice (some ⟨b10, 0, none⟩) 2 2, .slice (some ⟨b11, 0, none⟩) 2 2, .slice (some ⟨b36, 0, none⟩) 3 3, .int .i64 8, .int .i64 6, .int .i64 3]) (by simp [results, Tryz.results76, go_sem, *]) rfl ⟨⟨_, _, _, _, rfl, ⟨HQ.out.sets hz _ _ _ _ _ _ _ _ _, HO.out.sets hz _ _ _ _ _ _ _ _ _, HP.out.sets hz _ _ _ _ _ _ _ _ _, HS.out.sets hz _ _ _ _ _ _ _ _ _⟩⟩, ?_⟩
  exact (Below.setCell (p := ⟨w.heap.size, 8, none⟩) (Below.setCell (p := ⟨w.heap.size, 7, none⟩) (Below.setCell (p := ⟨w.heap.size, 6, none⟩) (Below.setCell (p := ⟨w.heap.size, 5, none⟩) (Below.setCell (p := ⟨w.heap.size, 4, none⟩) (Below.setCell (p := ⟨w.heap.size, 3, none⟩) (Below.setCell (p := ⟨w.heap.size, 2, none⟩) (Below.setCell (p := ⟨w.heap.size, 1, none⟩) (Below.setCell (p := ⟨w.heap.size, 0, none⟩) HB5.out (by show w.heap.size ≤ w.heap.size; omega) _) (by show w.heap.size ≤ w.heap.size; omega) _) (by show w.heap.size ≤ w.heap.size; omega) _) (by show w.heap.size ≤ w.heap.size; omega) _) (by show w.heap.size ≤ w.heap.size; omega) _) (by show w.heap.size ≤ w.heap.size; omega) _) (by show w.heap.size ≤ w.heap.size; omega) _) (by show w.heap.size ≤ w.heap.size; omega) _) (by show w.heap.size ≤ w.heap.size; omega) _)
end Go.Proofs.YthnojgdckkdcgaaGreatDoor

namespace Go.Proofs.YthnojgdckkdcgaaGreatDoor
open Go.RowKit Go.Sort Go.Shelf
section
variable {P : Program} {ops : Array Oper} {n : Nat} {F : Fence} {Cl : (Nat → Bool) → World → Prop}
/-- what the operations owe -/
def wpLst (P : Program) (ops : Array Oper) (Cl : (Nat → Bool) → World → Prop) (Q : Act → Prop) : Nat → List Oper → List Value → Act → Prop
  | _, [], [], a => Q a
  | k, o :: rest, c :: cs, a => (if Region.wanted o (yielded ops a.tmps) then ∀ L w', Cl L w' → L k = false → (∀ i j, L i = true → reach .any ops 6 i j = true → L j = true) → clsAt P (Cl fun j => L j || j == k) o a w' c else c = undef ∧ ∀ L w', Cl L w' → Cl (fun j => L j || j == k) w') ∧ wpLst P ops Cl Q (k + 1) rest cs (a.put o.dst c)
  | _, _, _, _ => False
theorem wpLst_nil {Q : Act → Prop} {a : Act} {k : Nat} (h : Q a) : wpLst P ops Cl Q k [] [] a := h
theorem wpLst_do {Q : Act → Prop} {o : Oper} {rest : List Oper} {c : Value} {cs : List Value} {a : Act} {k : Nat} (hg : o.guard = none) (h1 : ∀ L w', Cl L w' → L k = false → (∀ i j, L i = true → reach .any ops 6 i j = true → L j = true) → clsAt P (Cl fun j => L j || j == k) o a w' c) (h2 : wpLst P ops Cl Q (k + 1) rest cs (a.put o.dst c)) : wpLst P ops Cl Q k (o :: rest) (c :: cs) a := by
  refine ⟨?_, h2⟩
  unfold Region.wanted
  rw [hg, if_pos rfl]
  exact h1
theorem wpLst_at {Q : Act → Prop} {V : Nat → Value} {cs0 : List Value} {a0 : Act} (hV : ∀ (k : Nat) (c : Value), cs0[k]? = some c → V k = c) :
    ∀ (cs : List Value) (k : Nat) (l : List Oper), (∀ j, l[j]? = ops[k + j]?) → (∀ j, cs[j]? = cs0[k + j]?) → k + cs.length = cs0.length → wpLst P ops Cl Q k l cs (frameOf ops V (fun _ => true) a0 k) →
      (∀ j, k ≤ j → j < cs0.length → ∃ o, ops[j]? = some o ∧ if Region.wanted o (yielded ops (frameOf ops V (fun _ => true) a0 j).tmps) then ∀ L w', Cl L w' → L j = false → (∀ i j, L i = true → reach .any ops 6 i j = true → L j = true) → clsAt P (Cl fun i => L i || i == j) o (frameOf ops V (fun _ => true) a0 j) w' (V j) else V j = undef ∧ ∀ L w', Cl L w' → Cl (fun i => L i || i == j) w') ∧ Q (frameOf ops V (fun _ => true) a0 cs0.length)
  | [], k, [], _, hh, hn, H => by
    have e : k = cs0.length := by simpa using hn
    subst e
    exact ⟨fun j hj hj2 => by omega, H⟩
  | [], k, _ :: _, hl, hh, hn, H => H.elim
  | c :: cs, k, [], hl, hh, hn, H => H.elim
  | c :: cs, k, o :: l, hl, hh, hn, H => by
    have h0 : ops[k]? = some o := by simpa using (hl 0).symm
    have h1 : cs0[k]? = some c := by simpa using (hh 0).symm
    obtain ⟨H1, H2⟩ := H
    have e1 : frameOf ops V (fun _ => true) a0 (k + 1) = (frameOf ops V (fun _ => true) a0 k).put o.dst c := by
      rw [frameOf, if_pos rfl]; simp [dstOf, h0, hV k c h1]
    obtain ⟨g1, g2⟩ := wpLst_at hV cs (k + 1) l (fun j => by have := hl (j + 1); simpa [Nat.add_assoc, Nat.add_comm 1 j] using this) (fun j => by have := hh (j + 1); simpa [Nat.add_assoc, Nat.add_comm 1 j] using this) (by simp only [List.length_cons] at hn; omega) (by rw [e1]; exact H2)
    refine ⟨fun j hj hj2 => ?_, g2⟩
    rcases Nat.eq_or_lt_of_le hj with e | e
    · subst e
      exact ⟨o, h0, by rw [hV k c h1]; exact H1⟩
    · exact g1 j e hj2
theorem wpIn_region_lst {rid : Nat} {Q : Exit → Act → World → Prop} {a : Act} {w : World} {l : List Oper} (hF : Open F P) (cs : List Value) (Cl : (Nat → Bool) → World → Prop) (hm : P.follows .mixedOrders = true) (hB : (orderedB .any l.toArray && noDefer l.toArray) = true) (hn : cs.length = l.length) (h0 : Cl (fun _ => false) { w with drawn := w.drawn + 1 })
    (h : wpLst P l.toArray Cl (fun a' => ∀ L w', (∀ j, j < l.length → L j = true) → Cl L w' → Q .normal a' w') 0 l cs a) : (Code.region rid l.toArray true).wpIn F n P Q a w := by
  rw [Bool.and_eq_true] at hB
  obtain ⟨hord, hnd⟩ := hB
  have H := ordered_of hord
  have hsz : l.toArray.size = l.length := by simp
  obtain ⟨V, hVd⟩ : ∃ V : Nat → Value, V = fun k => cs[k]?.getD undef := ⟨_, rfl⟩
  have hV : ∀ (k : Nat) (c : Value), cs[k]? = some c → V k = c := fun k c hk => by rw [hVd]; simp [hk]
  obtain ⟨key, fin⟩ := wpLst_at (P := P) (ops := l.toArray) (Cl := Cl) (a0 := a) hV cs 0 l (fun j => by simp) (fun j => by simp) (by omega) h
  rw [hn] at fin key
  refine wpIn_region_any hm ?_
  refine wpAnyIn_inv (fun listed a' w' => a' = frameOf l.toArray V (fun k => listed.getD k false) a l.toArray.size ∧ Cl (fun k => listed.getD k false) w') ?_ ?_ _ _ _ _ (left_le _ _) Shut.none ⟨?_, ?_⟩
  · rintro listed a' w' i hsh ⟨rfl, hc⟩ hr
    obtain ⟨hun, oi, hoi, _⟩ := mem_ready.1 hr
    have hi : i < l.toArray.size := (Array.getElem?_eq_some_iff.1 hoi).1
    have hil : i < listed.size := by rw [hsh.size]; exact hi
    have hunf := listed_both hun
    have hset : (listed.setIfInBounds i true).getD i false = true := set_same hil false
    have hflag : (fun k => (listed.setIfInBounds i true).getD k false) = fun j => listed.getD j false || j == i := by
      funext j
      by_cases e : j = i
      · subst e; rw [hset]; simp
      · rw [getD_set_ne false (Ne.symm e)]; simp [e]
    obtain ⟨o', ho', hask⟩ := key i (Nat.zero_le _) (by omega)
    obtain rfl : oi = o' := Option.some.inj (hoi.symm.trans ho')
    have hsee := H.sees (V := V) (V' := V) (M := fun _ => true) (a := a) hsh hoi hr (fun k _ hk => by cases hk) (fun _ _ => rfl)
    have hput : (frameOf l.toArray V (fun k => listed.getD k false) a l.toArray.size).put oi.dst (V i) = frameOf l.toArray V (fun k => (listed.setIfInBounds i true).getD k false) a l.toArray.size := by
      have e1 : dstOf l.toArray i = oi.dst := by simp [dstOf, hoi]
      rw [H.frame_put hsh hi hun, e1]
    unfold Go.wpOpIn
    simp only [hoi]
    rw [wanted_of_slots hsee]
    by_cases hwt : Region.wanted oi (yielded l.toArray (frameOf l.toArray V (fun _ => true) a i).tmps) = true
    · rw [if_pos hwt] at hask
      rw [if_pos hwt]
      refine wpIn_of_cls hF (noDefer_spec hnd hoi) (v := V i) (Cl := Cl fun j => listed.getD j false || j == i) ?_ fun w'' hc' => ⟨hput, by rw [hflag]; exact hc'⟩
      have h1 := hask (fun k => listed.getD k false) w' hc hunf fun i j hi hj => reach_listed2 hsh 6 i j hi hj
      unfold clsAt at h1 ⊢
      rwa [exec_of_slots (ops := l.toArray) (fun cs b => Region.noSelect_spec H.sel i oi cs b hoi) hsee]
    · rw [if_neg hwt] at hask
      rw [if_neg hwt]
      refine ⟨fun f _ => hF.fn f, ?_, by rw [hflag]; exact hask.2 _ _ hc⟩
      rw [← hask.1]
      exact hput
  · rintro listed a' w' hsh ⟨rfl, hc⟩ hr
    have hall := H.all hsh hr
    have e1 : frameOf l.toArray V (fun k => listed.getD k false) a l.toArray.size = frameOf l.toArray V (fun _ => true) a l.toArray.size := frameOf_congr _ fun j hj => ⟨hall j (by omega), fun _ => rfl⟩
    rw [e1, hsz]
    exact fin _ w' (fun j hj => hall j (by omega)) hc
  · refine (frameOf_none (fun k => ?_) _).symm
    rcases Nat.lt_or_ge k l.length with h' | h' <;> simp [h']
  · have : (fun k => (Array.replicate l.toArray.size false).getD k false) = fun _ => false := by
      funext k
      rcases Nat.lt_or_ge k l.length with h' | h' <;> simp [h']
    rw [this]
    exact h0
end
end Go.Proofs.YthnojgdckkdcgaaGreatDoor

