/- Walks: More, IsMoney (of the reference). Conditions: small shafts. -/
import Derived.Test.YtbbnpneabmldnaaDoorLawK
import Derived.Test.YtbbnpneabmldnaaDoorCopyB
namespace Go.Proofs.YtbbnpneabmldnaaDoor
open Go.RowKit Go.Sort
theorem isMoney_any (n : Int) (w : World) : Calls Tryd.prog 48 #[.int .i64 n] w fun e w' => e = .returned (.bool (inR n 0 9999)) ∧ w = w' := by
  go_enter Tryd.func48, Tryd.ntmps48
  go_wp2_with (go_at_call 66; refine (within02_any _ _ _ _).mono ?_; rintro e w' ⟨rfl, rfl⟩)
  go_ret
  exact ⟨rfl, rfl⟩
theorem IntsAt.snoc {w : World} {b n : Nat} {g : Nat → Int} (h : IntsAt w (some ⟨b, 0, none⟩) n g) (hlt : b < w.heap.size) (hc1 : (w.cell? ⟨b, n, none⟩).isSome = true) (v : Int) : IntsAt (w.setCell ⟨b, n, none⟩ (.int .i64 v)) (some ⟨b, 0, none⟩) (n + 1) (snocF g n v) := by
  refine .inr ⟨b, 0, rfl, by simpa [World.setCell] using hlt, fun i hi => ?_⟩
  rw [Nat.zero_add]
  rcases Nat.lt_or_ge i n with h1 | h1
  · rw [World.cell?_setCell_other _ _ _ _ (fun e => by injection e with _ e; omega)]
    rcases h with h | ⟨b', o', e, _, hc⟩
    · omega
    · injection e with e
      injection e with e1 e2
      subst e1 e2
      have := hc i h1
      rw [Nat.zero_add] at this
      rw [this]
      unfold snocF
      rw [if_neg (by omega)]
  · obtain rfl : i = n := by omega
    obtain ⟨u, hu⟩ := Option.isSome_iff_exists.1 hc1
    rw [World.cell?_setCell_same _ _ _ hu]
    unfold snocF
    rw [if_pos rfl]
/-- but for one block all is as it was -/
structure But (b : Nat) (w w' : World) : Prop where
  size : w'.heap.size = w.heap.size
  block : ∀ k, k ≠ b → w'.heap[k]? = w.heap[k]?
  os : w'.os = w.os
  tape : w'.tape = w.tape
  output : w'.output = w.output
theorem But.cell {b : Nat} {w w' : World} (h : But b w w') {k : Nat} (hk : k ≠ b) (o : Nat) : w'.cell? ⟨k, o, none⟩ = w.cell? ⟨k, o, none⟩ := World.cell?_of_block (a := ⟨k, o, none⟩) (h.block k hk)
theorem But.frozen {b : Nat} {w w' : World} (h : But b w w') {k : Nat} (hk : k ≠ b) (o : Nat) : w'.frozen? ⟨k, o, none⟩ = w.frozen? ⟨k, o, none⟩ := World.frozen?_of_block (a := ⟨k, o, none⟩) (h.block k hk)
theorem But.below {b base : Nat} {w w' : World} (h : But b w w') (hb : base ≤ b) : w.heap.size = base → Below base w w' := fun e =>
  ⟨h.os, h.tape, h.output, by rw [h.size]; omega, fun k hk => h.block k (by omega)⟩
theorem RowAt.but {b : Nat} {w w' : World} {A : Option Addr} {L : List Value} (hr : RowAt w A L) (h : But b w w') (hA : ∀ p, A = some p → p.block ≠ b) : RowAt w' A L := by
  rcases hr with hr | ⟨k, o, rfl, hlt, hc⟩
  · exact .inl hr
  · exact .inr ⟨k, o, rfl, by rw [h.size]; exact hlt, fun j v hj => (h.cell (hA _ rfl) _).trans (hc j v hj)⟩
/-- one number behind a slice with room -/
theorem wpList_app_room (w : World) {ops : Array Oper} {rest : List Oper} {o : Oper} {a : Act} {Q : Exit → Act → World → Prop}
    (hg : o.guard = none) (s x : Operand) (hop : o.op = Op.call { callee := Callee.builtin Builtin.append, args := #[s, x], argTypes := #[23, 23] })
    (b n c : Nat) (g : Nat → Int) (hs : a.eval s = .slice (some ⟨b, 0, none⟩) n c) (hI : IntsAt w (some ⟨b, 0, none⟩) n g) (hnc : n < c) (hc1 : (w.cell? ⟨b, n, none⟩).isSome = true) (hf1 : w.frozen? ⟨b, n, none⟩ = false) (ad : Addr) (v : Int) (hx : a.eval x = .slice (some ad) 1 1) (hc : w.cell? ad = some (.int .i64 v)) (hn : n ≤ 1000000)
    (hlt : b < w.heap.size) (hK : ∀ w', But b w w' → IntsAt w' (some ⟨b, 0, none⟩) (n + 1) (snocF g n v) → wpList Tryd.prog ops Q rest (a.put o.dst (.slice (some ⟨b, 0, none⟩) (n + 1) c)) w') :
    wpList Tryd.prog ops Q (o :: rest) a w := by
  obtain ⟨i0, hi, iz0, iz1, iz2⟩ := info_parts infoInt
  refine wpList_append_arg w hg s x 23 hop 3 i0 (.int .i64 0) 1 8 Tryd.underlying23 hi iz0 iz1 iz2 rfl (by decide) b 0 n c (intL g n) hs (by rw [intL_len]; omega) (fun j u h => ?_) ad 1 1 [.int .i64 v] hx rfl ?_ ?_ (fun _ j hj => ?_) (by unfold maxLen; omega) (by omega) (fun _ => ?_) (fun h => by omega)
  · have := intL_read hI _ rfl j u h
    rwa [show (⟨b, 0, none⟩ : Addr).add j = ⟨b, 0 + j, none⟩ from by unfold Addr.add; split <;> simp_all] at this
  · intro j u hj
    match j, hj with
    | 0, hj => simp at hj; subst hj; rw [show ad.add 0 = ad from by unfold Addr.add; split <;> simp_all]; exact hc
  · intro u hu; simp at hu; subst hu; rfl
  · simp at hj
    subst hj
    simp only [Nat.zero_add, Nat.mul_one, Nat.add_zero]
    exact ⟨hc1, hf1⟩
  · simp only [Nat.zero_add, Nat.mul_one, World.setCells]
    exact hK _ ⟨by simp [World.setCell], fun k hk => Below.heap_setCell w _ _ k hk, rfl, rfl, rfl⟩ (hI.snoc hlt hc1 v)
theorem more_given {base base' : Nat} {w2 w3 w' : World} {S : Sh} {r : Int} {Ar : Option Addr} {b : Nat} {cr cf : Nat} (hr : RocksAt w2 Ar S.nr S.rock) (hi : IntsAt w3 (some ⟨b, 0, none⟩) (S.nf + 1) (snocF S.foot S.nf r)) (h1 : ∀ q, Ar = some q → base ≤ q.block) (h2 : base' ≤ b) (hc : S.nf + 1 ≤ cf) (hc2 : cf ≤ 9223372036854775807) (ha : Above base w2 w') (hb : Above base' w3 w') :
    Given w' (S.more r) (.returned (.agg #[.slice Ar S.nr cr, .slice (some ⟨b, 0, none⟩) (S.nf + 1) cf, .int .i64 S.deep, .int .i64 S.haul, .int .i64 S.rest])) :=
  ⟨Ar, ⟨b, 0, none⟩, cr, cf, rfl, ⟨rocksAt_row.2 ((rocksAt_row.1 hr).above ha h1), intsAt_row.2 ((intsAt_row.1 hi).above hb (fun q e => by injection e with e; subst e; exact h2))⟩, hc, hc2⟩
theorem more_given2 {base : Nat} {w3 w' : World} {S : Sh} {r : Int} {Ar : Option Addr} {b : Nat} {cr cf : Nat} (hr : RocksAt w3 Ar S.nr S.rock) (hi : IntsAt w3 (some ⟨b, 0, none⟩) (S.nf + 1) (snocF S.foot S.nf r)) (h1 : ∀ q, Ar = some q → base ≤ q.block) (h2 : base ≤ b) (hc : S.nf + 1 ≤ cf) (hc2 : cf ≤ 9223372036854775807) (ha : Above base w3 w') :
    Given w' (S.more r) (.returned (.agg #[.slice Ar S.nr cr, .slice (some ⟨b, 0, none⟩) (S.nf + 1) cf, .int .i64 S.deep, .int .i64 S.haul, .int .i64 S.rest])) :=
  more_given hr hi h1 h2 hc hc2 ha ha
set_option maxHeartbeats 1000000 in
set_option maxRecDepth 100000 in
theorem More_any (Ar Af : Option Addr) (cr cf : Nat) (S : Sh) (r : Int) (w : World) (hr : S.nr ≤ 1000) (hf : S.nf ≤ 1000) (hS : ShAt w Ar Af S) :
    Calls Tryd.prog 49 #[.agg #[.slice Ar S.nr cr, .slice Af S.nf cf, .int .i64 S.deep, .int .i64 S.haul, .int .i64 S.rest], .int .i64 r] w fun e w' => Given w' (S.more r) e ∧ Below w.heap.size w w' := by
  have hb0 := bAlloc (bAlloc (Below.refl w.heap.size w) (.cells #[.slice Ar S.nr cr, .slice Af S.nf cf, .int .i64 S.deep, .int .i64 S.haul, .int .i64 S.rest] 25)) (.cells #[.slice none 0 0, .slice none 0 0, .int .i64 0, .int .i64 0, .int .i64 0] 25)
  have HS := Lib.hid (hS.mono hb0)
  have HB := Lib.hid hb0
  clear hS hb0
  go_enter Tryd.func49, Tryd.ntmps49
  go_wp2_with fail
  refine (Copy_own _ _ _ _ S _ hr hf HS.out).mono ?_
  rintro e w2 ⟨⟨A2, F2, c2, d2, rfl, hS2, hFr, hFf, hP1, hP2⟩, hb2⟩
  obtain ⟨u1, u2, ⟨p, rfl, hp⟩, u4⟩ := id hFf
  have HS2 := Lib.hid hS2
  have HF1 := Lib.hid hFr
  have HF2 := Lib.hid hFf
  have HP1 := Lib.hid hP1
  have HP2 := Lib.hid hP2
  have HB2 := Lib.hid hb2
  obtain ⟨bc2, bf2⟩ := bcell hb2
  have hz2 := hb2.size
  simp only [World.size_alloc] at hz2
  have hy2 : w.heap.size < w2.heap.size := by omega
  have hx2 : w.heap.size + 1 < w2.heap.size := by omega
  clear hb2 hS2 hFr hFf hP1 hP2
  by_cases hfull : d2 = S.nf
  · have HFU := Lib.hid hfull
    clear u4
    subst hfull
    go_wp2_with (at_builtin; refine wpList_app_full _ rfl _ _ rfl (some p) S.nf S.foot rfl (fun h => by cases h) ((HS2.out.feet.alloc _).alloc _) ⟨w2.heap.size + 1, 0, none⟩ r rfl (by go_simp) (by omega) ?_)
    intro b3 c3 w3 hI3 hb3 hc3 hc4 hp3
    have hb3 : Below _ _ w3 := hb3
    have hb3' := bTrans (bAlloc (bAlloc (Below.refl w2.heap.size w2) _) _) hb3
    have HI3 := Lib.hid hI3
    have HB3 := Lib.hid hb3'
    obtain ⟨bc3, bf3⟩ := bcell (bTrans (bAlloc (Below.refl (w2.alloc (.cells #[.slice A2 S.nr c2, .slice (some p) S.nf S.nf, .int .i64 S.deep, .int .i64 S.haul, .int .i64 S.rest] 25)).heap.size (w2.alloc (.cells #[.slice A2 S.nr c2, .slice (some p) S.nf S.nf, .int .i64 S.deep, .int .i64 S.haul, .int .i64 S.rest] 25))) _) hb3)
    have hz3 := hb3.size
    simp only [World.size_alloc] at hz3
    have hy3 : w.heap.size < w3.heap.size := by omega
    have hx3 : w.heap.size + 1 < w3.heap.size := by omega
    have hv3 : w2.heap.size < w3.heap.size := by omega
    clear hI3 hb3 hb3'
    go_wp2_with fail
    refine bodyPost_ret (v := .agg #[.slice A2 S.nr c2, .slice (some ⟨b3, 0, none⟩) (S.nf + 1) c3, .int .i64 S.deep, .int .i64 S.haul, .int .i64 S.rest]) (by simp [results, Tryd.results49, go_sem, *]) rfl ?_
    have hbb := HB.out
    have hb2 := HB2.out
    have hb3 := HB3.out
    refine ⟨more_given (base' := w2.heap.size + 1) HS2.out.rocks HI3.out HF1.out.at_ (by omega) hc3 hc4 ?_ ?_, by (repeat (first | (with_reducible exact Below.refl _ _) | (with_reducible refine bAlloc ?_ _) | (with_reducible refine bDrew ?_) | (with_reducible refine bGrow ?_ _ _) | (with_reducible refine bSet ?_ ?_ _; (first | exact Nat.le_refl _ | exact Nat.le_add_right _ _ | (simp; omega))) | (with_reducible refine bTrans ?_ (by assumption))))⟩
    · (repeat (first | (with_reducible exact Above.refl _ _) | ((with_reducible refine Above.setCell ?_ ?_ _); (focus (simp; done))) | ((with_reducible refine Above.setCell ?_ ?_ _); (focus (simp; omega))) | ((with_reducible refine Above.setNew ?_ ?_ _); (focus (simp; done))) | ((with_reducible refine Above.setNew ?_ ?_ _); (focus (simp; omega))) | (with_reducible refine Above.alloc ?_ _) | (with_reducible refine Above.drew ?_)))
      exact (Above.refl _ _).below hb3
    · (repeat (first | (with_reducible exact Above.refl _ _) | ((with_reducible refine Above.setCell ?_ ?_ _); (focus (simp; done))) | ((with_reducible refine Above.setCell ?_ ?_ _); (focus (simp; omega))) | ((with_reducible refine Above.setNew ?_ ?_ _); (focus (simp; done))) | ((with_reducible refine Above.setNew ?_ ?_ _); (focus (simp; omega))) | (with_reducible refine Above.alloc ?_ _) | (with_reducible refine Above.drew ?_)))
  · have hn : 0 < S.nf := by
      rcases Nat.eq_zero_or_pos S.nf with h0 | h0
      · have := HP2.out.1 h0; omega
      · exact h0
    obtain ⟨b, e, hlt, hfz⟩ := u4 hn
    injection e with e
    subst e
    have hnc : S.nf < d2 := by omega
    have HFZ := Lib.hid hfz
    have hp : w.heap.size + 2 ≤ b := by simpa using hp
    clear hfz hfull
    go_wp2_with (at_builtin; refine wpList_app_room _ rfl _ _ rfl b S.nf d2 S.foot rfl ((HS2.out.feet.alloc _).alloc _) hnc ((HP2.out.mono (bAlloc (bAlloc (Below.refl _ _) _) _)).cell hn hnc) (((bAlloc (bAlloc (Below.refl w2.heap.size w2) _) _).frozen (p := ⟨b, S.nf, none⟩) hlt).trans (HFZ.out _)) ⟨w2.heap.size + 1, 0, none⟩ r rfl (by go_simp) (by omega) (by simp; omega) ?_)
    intro w3 hbut hI3
    have HBT := Lib.hid hbut
    have HI3 := Lib.hid hI3
    have bc3 : ∀ k o, k ≠ b → w3.cell? ⟨k, o, none⟩ = ((w2.alloc (.cells #[.slice A2 S.nr c2, .slice (some ⟨b, 0, none⟩) S.nf d2, .int .i64 S.deep, .int .i64 S.haul, .int .i64 S.rest] 25)).alloc (.cells #[.int .i64 r] 3)).cell? ⟨k, o, none⟩ := fun k o hk => hbut.cell hk o
    have bf3 : ∀ k o, k ≠ b → w3.frozen? ⟨k, o, none⟩ = ((w2.alloc (.cells #[.slice A2 S.nr c2, .slice (some ⟨b, 0, none⟩) S.nf d2, .int .i64 S.deep, .int .i64 S.haul, .int .i64 S.rest] 25)).alloc (.cells #[.int .i64 r] 3)).frozen? ⟨k, o, none⟩ := fun k o hk => hbut.frozen hk o
    have ne1 : w2.heap.size ≠ b := by omega
    have ne2 : w.heap.size + 1 ≠ b := by omega
    have ne3 : w.heap.size ≠ b := by omega
    clear hbut hI3
    go_wp2_with fail
    refine bodyPost_ret (v := .agg #[.slice A2 S.nr c2, .slice (some ⟨b, 0, none⟩) (S.nf + 1) d2, .int .i64 S.deep, .int .i64 S.haul, .int .i64 S.rest]) (by simp [results, Tryd.results49, go_sem, *]) rfl ?_
    have hAb : ∀ (k : Nat) (B : Option Addr), 0 < S.nr → B = A2 → (∀ b1, A2 = some ⟨b1, 0, none⟩ → b1 ≠ k) → ∀ q, A2 = some q → q.block ≠ k := fun k B h0 _ h q e => by
      obtain ⟨b1, e1, _, _⟩ := HF1.out.2.2.2 h0
      rw [e] at e1
      injection e1 with e1
      subst e1
      exact h b1 e
    have hlen : S.nr = 0 → rockL S.rock S.nr = [] := fun h => by rw [h]; rfl
    have hr2 := rocksAt_row.1 ((HS2.out.rocks.mono (bAlloc (bAlloc (Below.refl _ _) (.cells #[.slice A2 S.nr c2, .slice (some ⟨b, 0, none⟩) S.nf d2, .int .i64 S.deep, .int .i64 S.haul, .int .i64 S.rest] 25)) (.cells #[.int .i64 r] 3))))
    have hr3 : RowAt w3 A2 (rockL S.rock S.nr) := by
      rcases Nat.eq_zero_or_pos S.nr with h0 | h0
      · exact .inl (hlen h0)
      · exact hr2.but HBT.out (hAb b A2 h0 rfl fun b1 e => by
          have h1 := HP1.out
          rw [e] at h1
          exact h1.apart HP2.out h0 hn (by decide))
    have bt4 : But w2.heap.size w3 (w3.setCell ⟨w2.heap.size, 1, none⟩ (.slice (some ⟨b, 0, none⟩) (S.nf + 1) d2)) := ⟨by simp [World.setCell], fun k hk => Below.heap_setCell _ _ _ k hk, rfl, rfl, rfl⟩
    have hr4 : RowAt (w3.setCell ⟨w2.heap.size, 1, none⟩ (.slice (some ⟨b, 0, none⟩) (S.nf + 1) d2)) A2 (rockL S.rock S.nr) := by
      rcases Nat.eq_zero_or_pos S.nr with h0 | h0
      · exact .inl (hlen h0)
      · exact hr3.but bt4 (hAb _ A2 h0 rfl fun b1 e => by
          obtain ⟨b2, e2, hlt2, _⟩ := HF1.out.2.2.2 h0
          rw [e] at e2
          injection e2 with e2
          injection e2 with e2
          omega)
    have hi4 := (intsAt_row.1 HI3.out).but bt4 (fun q e => by injection e with e; subst e; simp; omega)
    have hb2 := HB2.out
    have hbw : Below w.heap.size w w3 := by
      have h1 : Below w.heap.size w ((w2.alloc (.cells #[.slice A2 S.nr c2, .slice (some ⟨b, 0, none⟩) S.nf d2, .int .i64 S.deep, .int .i64 S.haul, .int .i64 S.rest] 25)).alloc (.cells #[.int .i64 r] 3)) := bTrans HB.out (bTrans hb2 (bAlloc (bAlloc (Below.refl _ _) _) _))
      have h2 := HBT.out
      exact ⟨h2.os.trans h1.os, h2.tape.trans h1.tape, h2.output.trans h1.output, by rw [h2.size]; exact h1.size, fun k hk => (h2.block k (by omega)).trans (h1.block k hk)⟩
    refine ⟨more_given2 (base := w.heap.size + 2) (rocksAt_row.2 hr4) (intsAt_row.2 hi4) (fun q e => by have := HF1.out.at_ q e; simpa using this) hp (by omega) u2 ?_, by (repeat (first | (with_reducible exact Below.refl _ _) | (with_reducible refine bAlloc ?_ _) | (with_reducible refine bDrew ?_) | (with_reducible refine bGrow ?_ _ _) | (with_reducible refine bSet ?_ ?_ _; (first | exact Nat.le_refl _ | exact Nat.le_add_right _ _ | (simp; omega))) | (with_reducible refine bTrans ?_ (by assumption))))⟩
    (repeat (first | (with_reducible exact Above.refl _ _) | ((with_reducible refine Above.setCell ?_ ?_ _); (focus (simp; done))) | ((with_reducible refine Above.setCell ?_ ?_ _); (focus (simp; omega))) | ((with_reducible refine Above.setNew ?_ ?_ _); (focus (simp; done))) | ((with_reducible refine Above.setNew ?_ ?_ _); (focus (simp; omega))) | (with_reducible refine Above.alloc ?_ _) | (with_reducible refine Above.drew ?_)))
end Go.Proofs.YtbbnpneabmldnaaDoor
