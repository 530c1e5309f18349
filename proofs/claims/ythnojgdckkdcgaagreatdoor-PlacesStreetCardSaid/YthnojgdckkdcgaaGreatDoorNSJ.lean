/- Parts joined: what all claims of this seat need. -/
import Derived.Test.YthnojgdckkdcgaaGreatDoorNSI
import Derived.Test.YthnojgdckkdcgaaGreatDoorNSH
import Derived.Test.YthnojgdckkdcgaaGreatDoorNSE
import Derived.Test.YthnojgdckkdcgaaGreatDoorNSC
import Derived.Test.YthnojgdckkdcgaaGreatDoorNSF
set_option linter.unusedSimpArgs false
set_option linter.unusedVariables false
namespace Go.Proofs.YthnojgdckkdcgaaGreatDoor
open Go.RowKit Go.Sort
/-- the seven cells of a copied spot -/
def SpK (w : World) (cs : List Value) (y : Spot) : Prop := ∃ Ar Af cr cf u, cs = [.int .i64 y.at_, .slice Ar y.sh.nr cr, .slice Af y.sh.nf cf, .int .i64 y.sh.deep, .int .i64 y.sh.haul, .int .i64 y.sh.rest, u] ∧ RowK w Ar 190 (rockL y.sh.rock y.sh.nr) ∧ RowK w Af 3 (intL y.sh.foot y.sh.nf) ∧ WdK w u y.fl
theorem SpK.kept {l : List TypeId} {w w' : World} {cs : List Value} {y : Spot} (h : SpK w cs y) (hk : Kept l w w') (h1 : 3 ∈ l) (h2 : 34 ∈ l) (h3 : 190 ∈ l) : SpK w' cs y := by
  obtain ⟨Ar, Af, cr, cf, u, e, hr, hf, hu⟩ := h
  exact ⟨Ar, Af, cr, cf, u, e, hr.kept hk h3, hf.kept hk h1, hu.kept hk h1 h2⟩
theorem SpK.mono {w w' : World} {cs : List Value} {y : Spot} (h : SpK w cs y) (hb : Below w.heap.size w w') : SpK w' cs y := h.kept (Kept.of_below (l := [3, 34, 190]) hb) (by simp) (by simp) (by simp)
theorem SpK.len {w : World} {cs : List Value} {y : Spot} (h : SpK w cs y) : cs.length = 7 := by
  obtain ⟨_, _, _, _, _, rfl, _⟩ := h
  rfl
theorem SpK.one {w : World} {cs : List Value} {y : Spot} (h : SpK w cs y) : ∀ v ∈ cs, v.oneCell' = true := by
  obtain ⟨_, _, _, _, u, rfl, _, _, hu⟩ := h
  obtain ⟨_, _, _, rfl, _⟩ := hu
  intro v hv
  simp only [List.mem_cons, List.not_mem_nil, or_false] at hv
  rcases hv with rfl | rfl | rfl | rfl | rfl | rfl | rfl <;> rfl
/-- copied spots in a row -/
def SpRows (w : World) (f : Nat → Spot) (n : Nat) (us : List Value) : Prop := ∃ L : List (List Value), us = L.flatten ∧ L.length = n ∧ ∀ i cs, L[i]? = some cs → SpK w cs (f i)
theorem SpRows.nil {w : World} {f : Nat → Spot} : SpRows w f 0 [] := ⟨[], rfl, rfl, fun i cs h => by simp at h⟩
theorem SpRows.kept {l : List TypeId} {w w' : World} {f : Nat → Spot} {n : Nat} {us : List Value} (h : SpRows w f n us) (hk : Kept l w w') (h1 : 3 ∈ l) (h2 : 34 ∈ l) (h3 : 190 ∈ l) : SpRows w' f n us := by
  obtain ⟨L, e, hl, hc⟩ := h
  exact ⟨L, e, hl, fun i cs hi => (hc i cs hi).kept hk h1 h2 h3⟩
theorem SpRows.mono {w w' : World} {f : Nat → Spot} {n : Nat} {us : List Value} (h : SpRows w f n us) (hb : Below w.heap.size w w') : SpRows w' f n us := h.kept (Kept.of_below (l := [3, 34, 190]) hb) (by simp) (by simp) (by simp)
theorem SpRows.snoc {w : World} {f : Nat → Spot} {n : Nat} {us cs : List Value} (h : SpRows w f n us) (hc : SpK w cs (f n)) : SpRows w f (n + 1) (us ++ cs) := by
  obtain ⟨L, rfl, hl, hL⟩ := h
  refine ⟨L ++ [cs], by simp, by simp [hl], fun i c hi => ?_⟩
  rcases Nat.lt_or_ge i L.length with hlt | hge
  · rw [List.getElem?_append_left hlt] at hi
    exact hL i c hi
  · rw [List.getElem?_append_right hge] at hi
    obtain ⟨h0, rfl⟩ : i - L.length = 0 ∧ cs = c := by
      rcases h0 : i - L.length with _ | j
      · rw [h0] at hi; exact ⟨rfl, by simpa using hi⟩
      · rw [h0] at hi; simp at hi
    obtain rfl : i = n := by omega
    exact hc
theorem flat_get : ∀ {L : List (List Value)} {i : Nat} {cs : List Value}, (∀ c ∈ L, c.length = 7) → L[i]? = some cs → ∀ j, j < 7 → L.flatten[i * 7 + j]? = cs[j]?
  | [], i, cs, _, h, _, _ => by simp at h
  | c :: L, 0, cs, h7, h, j, hj => by
    have h0 : c = cs := by simpa using h
    subst h0
    rw [List.flatten_cons, List.getElem?_append_left (by have := h7 c (by simp); omega), Nat.zero_mul, Nat.zero_add]
  | c :: L, i + 1, cs, h7, h, j, hj => by
    have hc := h7 c (by simp)
    rw [List.flatten_cons, List.getElem?_append_right (by omega), show (i + 1) * 7 + j - c.length = i * 7 + j by omega]
    exact flat_get (fun c hc => h7 c (by simp [hc])) (by simpa using h) j hj
theorem SpRows.spots {w : World} {f : Nat → Spot} {n : Nat} {us : List Value} (h : SpRows w f n us) {A : Option Addr} (hr : RowAt w A us) : SpotsAt w A n f := by
  obtain ⟨L, rfl, hl, hL⟩ := h
  rcases Nat.eq_zero_or_pos n with h0 | h0
  · exact .inl h0
  · have h7 : ∀ c ∈ L, c.length = 7 := fun c hc => by
      obtain ⟨i, hi⟩ := List.getElem?_of_mem hc
      exact (hL i c hi).len
    rcases hr with h1 | ⟨b, o, rfl, hlt, hc⟩
    · exfalso
      obtain ⟨c, hc⟩ : ∃ c, L[0]? = some c := ⟨_, List.getElem?_eq_getElem (by omega)⟩
      have h2 := flat_get h7 hc 0 (by omega)
      obtain ⟨_, _, _, _, _, rfl, _⟩ := hL 0 c hc
      rw [h1] at h2
      simp at h2
    · refine .inr ⟨b, o, rfl, hlt, fun i hi => ?_⟩
      obtain ⟨c, hci⟩ : ∃ c, L[i]? = some c := ⟨_, List.getElem?_eq_getElem (by omega)⟩
      have hg := flat_get h7 hci
      obtain ⟨Ar, Af, cr, cf, u, rfl, h1, h2, h3⟩ := hL i c hci
      obtain ⟨Aw, cw, rfl, hw⟩ := h3.rows
      have cell : ∀ j v, j < 7 → [.int .i64 (f i).at_, .slice Ar (f i).sh.nr cr, .slice Af (f i).sh.nf cf, .int .i64 (f i).sh.deep, .int .i64 (f i).sh.haul, .int .i64 (f i).sh.rest, .slice Aw (f i).fl.n cw][j]? = some v → w.cell? ⟨b, o + (i * 7 + j), none⟩ = some v := fun j v hj hv => hc _ _ ((hg j hj).trans hv)
      exact ⟨Ar, Af, Aw, cr, cf, cw, ⟨rocksAt_row.2 h1.row, intsAt_row.2 h2.row⟩, hw, cell 0 _ (by omega) rfl, by have := cell 1 _ (by omega) rfl; rwa [← Nat.add_assoc] at this, by have := cell 2 _ (by omega) rfl; rwa [← Nat.add_assoc] at this, by have := cell 3 _ (by omega) rfl; rwa [← Nat.add_assoc] at this, by have := cell 4 _ (by omega) rfl; rwa [← Nat.add_assoc] at this, by have := cell 5 _ (by omega) rfl; rwa [← Nat.add_assoc] at this, by have := cell 6 _ (by omega) rfl; rwa [← Nat.add_assoc] at this⟩
theorem infoSpot : (Tryz.prog.info? 71).map (fun i => (i.zero, i.size, i.bytes)) = some (some (.agg #[.int .i64 0, .slice none 0 0, .slice none 0 0, .int .i64 0, .int .i64 0, .int .i64 0, .slice none 0 0]), 7, 104) := by kernel_rfl
end Go.Proofs.YthnojgdckkdcgaaGreatDoor

namespace Go.Proofs.YthnojgdckkdcgaaGreatDoor
open Go.RowKit Go.Sort
theorem spots_at {w : World} {A : Option Addr} {n : Nat} {f : Nat → Spot} (h : SpotsAt w A n f) {i : Nat} (hi : i < n) : ∃ b o Ar Af Ax cr cf cx, A = some ⟨b, o, none⟩ ∧ b < w.heap.size ∧ ShAt w Ar Af (f i).sh ∧ RowsAt w Ax (f i).fl ∧ True ∧ w.cell? ⟨b, o + i * 7, none⟩ = some (.int .i64 (f i).at_) ∧ w.cell? ⟨b, o + i * 7 + 1, none⟩ = some (.slice Ar (f i).sh.nr cr) ∧ w.cell? ⟨b, o + i * 7 + 2, none⟩ = some (.slice Af (f i).sh.nf cf) ∧ w.cell? ⟨b, o + i * 7 + 3, none⟩ = some (.int .i64 (f i).sh.deep) ∧ w.cell? ⟨b, o + i * 7 + 4, none⟩ = some (.int .i64 (f i).sh.haul) ∧ w.cell? ⟨b, o + i * 7 + 5, none⟩ = some (.int .i64 (f i).sh.rest) ∧ w.cell? ⟨b, o + i * 7 + 6, none⟩ = some (.slice Ax (f i).fl.n cx) := by
  rcases h with h | ⟨b, o, rfl, hlt, hc⟩
  · omega
  · obtain ⟨Ar, Af, Ax, cr, cf, cx, h0, h1, h2, h3, h4, h5, h6, h7, h8⟩ := hc i hi
    exact ⟨b, o, Ar, Af, Ax, cr, cf, cx, rfl, hlt, h0, h1, trivial, h2, h3, h4, h5, h6, h7, h8⟩
theorem keep_apart {w w' : World} {base M n k size size' : Nat} {e e' : TypeId} {v V : Value} {xs us : List Value} (h : w.ownsRow base e size v n xs) (hl : ∀ q, v.ownBlock = some q → q < M) (hO : w.ownsRow M e' size' V k us) (hg : w.grownBy w' V.ownBlock) : w'.ownsRow base e size v n xs :=
  h.kept hg (by
    cases hq : v.ownBlock with
    | none => exact .inl rfl
    | some q => exact .inr fun e => by have := (hO.lt q e.symm).1; have := hl q hq; omega)
/-- a copied town of facts, as a value -/
def qcV (q : Qt) (A A' : Option Addr) (c c' : Nat) : Value := .agg #[.int .i64 q.wells, .slice A q.nw c, .slice A' q.nf c']
def qcS (q : Qt) (v : Value) : Prop := ∃ A A' c c', v = qcV q A A' c c'
def qcR (N : Nat) (q : Qt) (w : World) (v : Value) : Prop := ∀ A A' c c', v = qcV q A A' c c' → CopyAt w N (.slice A q.nw c) (.slice A' q.nf c') q
theorem qcG {N : Nat} {q : Qt} : (Stir.held (qcS q) (qcR N q)).good := ⟨⟨_, none, none, 0, 0, rfl⟩, fun _ _ _ hb h a b c d e => (h a b c d e).mono hb⟩
theorem qcV_inj {q : Qt} {a b : Option Addr} {c d : Nat} {a' b' : Option Addr} {c' d' : Nat} (h : qcV q a b c d = qcV q a' b' c' d') : a = a' ∧ b = b' ∧ c = c' ∧ d = d' := by
  unfold qcV at h
  simp only [Value.agg.injEq, Array.mk.injEq, List.cons.injEq, Value.slice.injEq, and_true, true_and] at h
  exact ⟨h.1.1, h.2.1, h.1.2, h.2.2⟩
/-- a copied spot, as a value -/
def cp9S (y : Spot) (v : Value) : Prop := ∃ Ar Ar2 Ax cr cr2 cx, v = .agg #[.int .i64 y.at_, .slice Ar y.sh.nr cr, .slice Ar2 y.sh.nf cr2, .int .i64 y.sh.deep, .int .i64 y.sh.haul, .int .i64 y.sh.rest, .slice Ax y.fl.n cx]
end Go.Proofs.YthnojgdckkdcgaaGreatDoor

namespace Go.Proofs.YthnojgdckkdcgaaGreatDoor
open Go.RowKit Go.Sort
theorem neqFact (w : World) (a b c d e : Int) : (binOp .neq 27 (.agg #[.int .i64 a, .int .i64 b, .int .i64 c, .int .i64 d, .int .i64 e]) (.agg #[.int .i64 a, .int .i64 b, .int .i64 c, .int .i64 d, .int .i64 e])).run Tryz.prog w = .ok (.bool false) w := by
  simp [go_sem]
attribute [local go_sem] neqFact
end Go.Proofs.YthnojgdckkdcgaaGreatDoor

namespace Go.Proofs.YthnojgdckkdcgaaGreatDoor
open Go.RowKit Go.Sort
theorem neqRock9 (w : World) (a b c d : Int) : (binOp .neq 190 (.agg #[.int .i64 a, .int .i64 b, .int .i64 c, .int .i64 d]) (.agg #[.int .i64 a, .int .i64 b, .int .i64 c, .int .i64 d])).run Tryz.prog w = .ok (.bool false) w := by
  simp [go_sem]
attribute [local go_sem ↓] neqRock9
theorem sameInts_t (A B : Option Addr) (n c c' : Nat) (f : Nat → Int) (w : World) (hn : n ≤ 9223372036854775807) (hf : IntsAt w A n f) (hg : IntsAt w B n f) :
    Calls Tryz.prog 28 #[.slice A n c, .slice B n c'] w fun e w' => e = .returned (.bool true) ∧ Below w.heap.size w w' := by
  have := sameInts_any A B n n c c' f f w hn hn hf hg
  rw [show (decide (n = n) && !anyB (fun i => f i != f i) n) = true by rw [anyB_false.2 fun i _ => by simp]; simp] at this
  exact this
end Go.Proofs.YthnojgdckkdcgaaGreatDoor

namespace Go.Proofs.YthnojgdckkdcgaaGreatDoor
open Go.RowKit Go.Sort
section
variable {w : World} {b : Nat} {t : TypeId}
theorem TBox.c1 {x : Value} (h : TBox w b t #[x]) : w.cell? ⟨b, 0, none⟩ = some x ∧ b < w.heap.size := ⟨h.cell 0, h.lt⟩
end
theorem wpList_skip {P : Program} {ops : Array Oper} {Q : Exit → Act → World → Prop} {rest : List Oper} {o : Oper} {a : Act} {w w'' : World} (hg : o.guard = none) (hd : o.dst = none) (hrun : (execOp a.eval o).run P w = .ok .skip w'') (h : wpList P ops Q rest a w'') : wpList P ops Q (o :: rest) a w := by
  simp only [wpList]
  have hw : Region.wanted o (yielded ops a.tmps) = true := by unfold Region.wanted; rw [hg]
  rw [if_pos hw]
  refine .inl ?_
  unfold Oper.wp
  rw [hrun]
  simp only [Oper.upon]
  rw [hd]
  exact h
def Upto (w0 w : World) : Prop := Below w0.heap.size w0 w
theorem Upto.mono {w0 w w' : World} (h : Upto w0 w) (hb : Below w.heap.size w w') : Upto w0 w' := bTrans h hb
end Go.Proofs.YthnojgdckkdcgaaGreatDoor

namespace Go.Proofs.YthnojgdckkdcgaaGreatDoor
open Go.RowKit Go.Sort
section
variable {w : World} {b : Nat} {t : TypeId}
theorem TBox.c7 {x0 x1 x2 x3 x4 x5 x6 : Value} (h : TBox w b t #[x0, x1, x2, x3, x4, x5, x6]) : w.cell? ⟨b, 0, none⟩ = some x0 ∧ w.cell? ⟨b, 1, none⟩ = some x1 ∧ w.cell? ⟨b, 2, none⟩ = some x2 ∧ w.cell? ⟨b, 3, none⟩ = some x3 ∧ w.cell? ⟨b, 4, none⟩ = some x4 ∧ w.cell? ⟨b, 5, none⟩ = some x5 ∧ w.cell? ⟨b, 6, none⟩ = some x6 ∧ b < w.heap.size := ⟨h.cell 0, h.cell 1, h.cell 2, h.cell 3, h.cell 4, h.cell 5, h.cell 6, h.lt⟩
theorem TBox.c9 {x0 x1 x2 x3 x4 x5 x6 x7 x8 : Value} (h : TBox w b t #[x0, x1, x2, x3, x4, x5, x6, x7, x8]) : w.cell? ⟨b, 0, none⟩ = some x0 ∧ w.cell? ⟨b, 1, none⟩ = some x1 ∧ w.cell? ⟨b, 2, none⟩ = some x2 ∧ w.cell? ⟨b, 3, none⟩ = some x3 ∧ w.cell? ⟨b, 4, none⟩ = some x4 ∧ w.cell? ⟨b, 5, none⟩ = some x5 ∧ w.cell? ⟨b, 6, none⟩ = some x6 ∧ w.cell? ⟨b, 7, none⟩ = some x7 ∧ w.cell? ⟨b, 8, none⟩ = some x8 ∧ b < w.heap.size := ⟨h.cell 0, h.cell 1, h.cell 2, h.cell 3, h.cell 4, h.cell 5, h.cell 6, h.cell 7, h.cell 8, h.lt⟩
theorem TBox.c10 {x0 x1 x2 x3 x4 x5 x6 x7 x8 x9 : Value} (h : TBox w b t #[x0, x1, x2, x3, x4, x5, x6, x7, x8, x9]) : w.cell? ⟨b, 0, none⟩ = some x0 ∧ w.cell? ⟨b, 1, none⟩ = some x1 ∧ w.cell? ⟨b, 2, none⟩ = some x2 ∧ w.cell? ⟨b, 3, none⟩ = some x3 ∧ w.cell? ⟨b, 4, none⟩ = some x4 ∧ w.cell? ⟨b, 5, none⟩ = some x5 ∧ w.cell? ⟨b, 6, none⟩ = some x6 ∧ w.cell? ⟨b, 7, none⟩ = some x7 ∧ w.cell? ⟨b, 8, none⟩ = some x8 ∧ w.cell? ⟨b, 9, none⟩ = some x9 ∧ b < w.heap.size := ⟨h.cell 0, h.cell 1, h.cell 2, h.cell 3, h.cell 4, h.cell 5, h.cell 6, h.cell 7, h.cell 8, h.cell 9, h.lt⟩
end
end Go.Proofs.YthnojgdckkdcgaaGreatDoor

namespace Go.Proofs.YthnojgdckkdcgaaGreatDoor
open Go.RowKit Go.Sort
end Go.Proofs.YthnojgdckkdcgaaGreatDoor

namespace Go.Proofs.YthnojgdckkdcgaaGreatDoor
open Go.RowKit Go.Sort
set_option maxHeartbeats 4000000 in
set_option maxRecDepth 100000 in
theorem index_spot (A : Option Addr) (n c f : Nat) (cs : Array Value) (g : Nat → Spot) (p : Nat → Bool) (w : World) (hn : n ≤ 9223372036854775807) (hr : SpotsAt w A n g) (hcf : Enters f)
    (hf : ∀ i, i < n → ∀ w', Below w.heap.size w w' → ∀ (Ar Af Aw : Option Addr) (cr cf cw : Nat), ShAt w' Ar Af (g i).sh → RowsAt w' Aw (g i).fl → Calls Tryz.prog f (#[.agg #[.int .i64 (g i).at_, .slice Ar (g i).sh.nr cr, .slice Af (g i).sh.nf cf, .int .i64 (g i).sh.deep, .int .i64 (g i).sh.haul, .int .i64 (g i).sh.rest, .slice Aw (g i).fl.n cw]] ++ cs) w' fun e w'' => e = .returned (.bool (p i)) ∧ Below w'.heap.size w' w'') :
    Calls Tryz.prog 191 #[.slice A n c, .func (.func f) #[] cs] w (Found (anyB p n) w) := by
  have HC := Lib.hid hr
  have HF := Lib.hid hf
  unfold Enters at hcf
  clear hr hf
  go_enter Tryz.func191, Tryz.ntmps191
  go_wp2_with fail
  go_loopw [5, 8] (fun _ i wr => ∃ k : Nat, k ≤ n ∧ i = .int .i64 k ∧ anyB p k = false ∧ Below w.heap.size w wr) (fun _ i _ => n - (intOf i).toNat)
  case atStart => exact ⟨0, Nat.zero_le _, rfl, rfl, Below.refl _ _⟩
  case round =>
    obtain ⟨k, hk, rfl, hno, hbel⟩ := hrel
    have HN := Lib.hid hno
    have HL := Lib.hid hbel
    clear hno
    by_cases hlt : k < n
    · rcases HC.out with h0 | ⟨b, o, hA, hb, hcell⟩
      · omega
      obtain ⟨Ar, Af, Aw, cr, cf, cw, hsh, hfl, c0, c1, c2, c3, c4, c5, c6⟩ := hcell k hlt
      have HK := Lib.hid hlt
      obtain ⟨bk, hbk⟩ : ∃ bk, p k = bk := ⟨_, rfl⟩
      have HCC := Lib.hid (hbk ▸ HF.out k HK.out _ hbel Ar Af Aw cr cf cw (hsh.mono hbel) (hfl.mono hbel) : Calls Tryz.prog f (#[.agg #[.int .i64 (g k).at_, .slice Ar (g k).sh.nr cr, .slice Af (g k).sh.nf cf, .int .i64 (g k).sh.deep, .int .i64 (g k).sh.haul, .int .i64 (g k).sh.rest, .slice Aw (g k).fl.n cw]] ++ cs) wr fun e w'' => e = .returned (.bool bk) ∧ Below wr.heap.size wr w'')
      have HBK := Lib.hid hbk
      clear hbk hcell hsh hfl
      subst hA
      obtain ⟨bc, bf⟩ := bcell hbel
      go_wp2_with fail
      refine HCC.out.mono ?_
      rintro e w4 ⟨rfl, hb4⟩
      have HL4 := Lib.hid (bTrans HL.out hb4)
      clear hb4 hbel
      cases bk
      · go_wp2_with fail
        go_roundw
        case rel => exact ⟨k + 1, by omega, by go_num, anyB_step HN.out HBK.out, HL4.out⟩
        case measure => simp [intOf]; omega
      · go_wp2_with fail
        go_ret
        exact ⟨k, rfl, by rw [anyB_hit HK.out HBK.out]; simp, HL4.out⟩
    · obtain rfl : k = n := by omega
      go_wp2_with fail
      go_ret
      exact ⟨-1, rfl, by simp [HN.out], hbel⟩
theorem contains_spot (A : Option Addr) (n c f : Nat) (cs : Array Value) (g : Nat → Spot) (p : Nat → Bool) (w : World) (hn : n ≤ 9223372036854775807) (hr : SpotsAt w A n g) (hcf : Enters f)
    (hf : ∀ i, i < n → ∀ w', Below w.heap.size w w' → ∀ (Ar Af Aw : Option Addr) (cr cf cw : Nat), ShAt w' Ar Af (g i).sh → RowsAt w' Aw (g i).fl → Calls Tryz.prog f (#[.agg #[.int .i64 (g i).at_, .slice Ar (g i).sh.nr cr, .slice Af (g i).sh.nf cf, .int .i64 (g i).sh.deep, .int .i64 (g i).sh.haul, .int .i64 (g i).sh.rest, .slice Aw (g i).fl.n cw]] ++ cs) w' fun e w'' => e = .returned (.bool (p i)) ∧ Below w'.heap.size w' w'') :
    Calls Tryz.prog 164 #[.slice A n c, .func (.func f) #[] cs] w fun e w' => e = .returned (.bool (anyB p n)) ∧ Below w.heap.size w w' := by
  go_enter Tryz.func164, Tryz.ntmps164
  go_wp2_with (go_at_call 191; refine (index_spot A n c f cs g p _ hn hr hcf hf).mono ?_; rintro e w' ⟨k, rfl, hk, hb⟩; have HK := Lib.hid hk; clear hk)
  all_goals
    go_ret
    exact ⟨ret_bool (by rw [← HK.out]), hb⟩
end Go.Proofs.YthnojgdckkdcgaaGreatDoor

