/- Parts joined: what all claims of this seat need. -/
import Derived.Test.YthnojgdckkdcgaaGreatDoorNSF
import Derived.Test.YthnojgdckkdcgaaGreatDoorNSA
import Derived.Deep.RegionHeld3
import Derived.Test.YthnojgdckkdcgaaGreatDoorNSD
import Derived.OwnWalk
import Derived.Laws.AppendOwn
import Derived.Laws.OwnMore
import Derived.Laws.IdiomCopy
import Derived.Deep.RegionLaw
import Derived.Lib.SliceRun
set_option linter.unusedSimpArgs false
set_option linter.unusedVariables false
namespace Go.Proofs.YthnojgdckkdcgaaGreatDoor
open Go.RowKit Go.Sort

set_option maxHeartbeats 1000000 in
theorem falls_any (Ar Af : Option Addr) (cr cf : Nat) (S : Sh) (w : World) (ok : S.Ok) (hS : ShAt w Ar Af S) (a : Nat) (ha : a ≤ S.nf) :
    Calls Tryz.prog 205 #[.agg #[.slice Ar S.nr cr, .slice Af S.nf cf, .int .i64 S.deep, .int .i64 S.haul, .int .i64 S.rest], .int .i64 a] w fun e w' => e = .returned (.int .i64 (S.falls a)) ∧ Below w.heap.size w w' := by
  have hb0 := bAlloc (Below.refl w.heap.size w) (.cells #[.slice Ar S.nr cr, .slice Af S.nf cf, .int .i64 S.deep, .int .i64 S.haul, .int .i64 S.rest] 150)
  have HS := Lib.hid (hS.mono hb0)
  have HB := Lib.hid hb0
  clear hS hb0
  have hnf := ok.nf
  go_enter Tryz.func205, Tryz.ntmps205
  go_wp2_with fail
  go_loopw [5, 6] (fun s i wr => ∃ m : Nat, a + m ≤ S.nf ∧ i = .int .i64 (a + m : Nat) ∧ s = .int .i64 (S.minSt a m) ∧ (∀ j, a ≤ j → j < a + m → S.fallsAt a j = false) ∧ Below (w.alloc (.cells #[.slice Ar S.nr cr, .slice Af S.nf cf, .int .i64 S.deep, .int .i64 S.haul, .int .i64 S.rest] 150)).heap.size (w.alloc (.cells #[.slice Ar S.nr cr, .slice Af S.nf cf, .int .i64 S.deep, .int .i64 S.haul, .int .i64 S.rest] 150)) wr) (fun _ i _ => S.nf - (intOf i).toNat)
  case atStart => exact ⟨0, ha, rfl, rfl, fun j h1 h2 => by omega, Below.refl _ _⟩
  case round =>
    obtain ⟨m, hm, rfl, rfl, hno, hbel⟩ := hrel
    have HN := Lib.hid hno
    clear hno
    obtain ⟨bc, bf⟩ := bcell hbel
    have hz := hbel.size
    simp only [World.size_alloc] at hz
    have hy : w.heap.size < wr.heap.size := hz
    by_cases hlt : a + m < S.nf
    · have hif : (if (S.rk (a + m)).stand < S.minSt a m then (S.rk (a + m)).stand else S.minSt a m) = S.minSt a (m + 1) := by
        simp only [Sh.minSt]; split <;> omega
      obtain ⟨b0, b1⟩ := Sh.minSt_bd ok a m hm
      have r0 := (ok.rk hlt).s0
      have r1 := (ok.rk hlt).s1
      have e1 : a + m + 1 - a = m + 1 := by omega
      by_cases hfall : S.minSt a (m + 1) < (a : Int) + m - a + 1
      · have HF := Lib.hid (show S.fallsAt a (a + m) = true by unfold Sh.fallsAt; rw [e1]; simp only [decide_eq_true_eq]; omega)
        clear e1
        go_wp2_with (go_at_call 195; refine (rock_any _ _ _ _ S _ ok (HS.out.mono hbel) _ (a + m) (by omega) hlt).mono ?_; rintro e w1 ⟨rfl, hb1⟩)
        go_ret
        exact ⟨ret_int (by rw [show S.falls a = a + m from firstFrom_eq _ _ _ _ (by omega) (by omega) HN.out fun _ => HF.out]; omega), bTrans (bTrans HB.out hbel) hb1⟩
      · have HF := Lib.hid (show S.fallsAt a (a + m) = false by unfold Sh.fallsAt; rw [e1]; simp only [decide_eq_false_iff_not]; omega)
        clear e1
        go_wp2_with (go_at_call 195; refine (rock_any _ _ _ _ S _ ok (HS.out.mono hbel) _ (a + m) (by omega) hlt).mono ?_; rintro e w1 ⟨rfl, hb1⟩)
        go_roundw
        case rel => exact ⟨m + 1, by omega, by go_num, rfl, fun j h1 h2 => by (rcases Nat.lt_or_ge j (a + m) with h | h); exact HN.out j h1 h; (obtain rfl : j = a + m := by omega); exact HF.out, bTrans hbel hb1⟩
        case measure => simp [intOf]; omega
    · go_wp2_with fail
      go_ret
      exact ⟨ret_int (by rw [show S.falls a = a + m from firstFrom_eq _ _ _ _ (by omega) (by omega) HN.out fun _ => by omega]; omega), bTrans HB.out hbel⟩

end Go.Proofs.YthnojgdckkdcgaaGreatDoor


namespace Go.Proofs.YthnojgdckkdcgaaGreatDoor
open Go.RowKit Go.Sort

end Go.Proofs.YthnojgdckkdcgaaGreatDoor


namespace Go.Proofs.YthnojgdckkdcgaaGreatDoor
open Go.RowKit Go.Sort
end Go.Proofs.YthnojgdckkdcgaaGreatDoor


namespace Go.Proofs.YthnojgdckkdcgaaGreatDoor
open Go.RowKit Go.Sort

/-- what open hands back where the shaft is valid and the question is one -/
theorem open_yes (Ar Af : Option Addr) (cr cf : Nat) (S : Sh) (w : World) (ok : S.Ok) (hS : ShAt w Ar Af S) :
    Calls Tryz.prog 94 #[.agg #[.slice Ar S.nr cr, .slice Af S.nf cf, .int .i64 S.deep, .int .i64 S.haul, .int .i64 S.rest], .bool true] w fun e w' => e = .returned (.tuple #[.agg #[.slice Ar S.nr cr, .slice Af S.nf cf, .int .i64 S.deep, .int .i64 S.haul, .int .i64 S.rest], .int .i64 0]) ∧ Below w.heap.size w w' := by
  have hb0 := bAlloc (bAlloc (Below.refl w.heap.size w) (.cells #[.slice Ar S.nr cr, .slice Af S.nf cf, .int .i64 S.deep, .int .i64 S.haul, .int .i64 S.rest] 68)) (.cells #[.slice none 0 0, .slice none 0 0, .int .i64 0, .int .i64 0, .int .i64 0] 150)
  have HS := Lib.hid (hS.mono hb0)
  have HB := Lib.hid hb0
  have hr : S.nr ≤ 9223372036854775807 := by have := ok.nr; omega
  have hf : S.nf ≤ 9223372036854775807 := by have := ok.nf; omega
  have he := Sh.err_ok ok
  clear hS hb0
  go_enter Tryz.func94, Tryz.ntmps94
  go_wp2_with (go_at_call 138; refine (check_any _ _ _ _ S _ hr hf HS.out).mono ?_; rintro e w1 ⟨rfl, hb1⟩; obtain ⟨bc, bf⟩ := bcell hb1; have hz := hb1.size; simp only [World.size_alloc] at hz; have hy : w.heap.size < w1.heap.size := (by omega); have hy2 : w.heap.size + 1 < w1.heap.size := (by omega))
  exact bodyPost_ret (v := .tuple #[.agg #[.slice Ar S.nr cr, .slice Af S.nf cf, .int .i64 S.deep, .int .i64 S.haul, .int .i64 S.rest], .int .i64 0]) (by simp [results, Tryz.results94, go_sem, *]) rfl ⟨rfl, by (repeat (first | (with_reducible exact Below.refl _ _) | (with_reducible refine bAlloc ?_ _) | (with_reducible refine bDrew ?_) | (with_reducible refine bGrow ?_ _ _) | (with_reducible refine bSet ?_ ?_ _; (first | exact Nat.le_refl _ | exact Nat.le_add_right _ _ | (simp; omega))) | (with_reducible refine bTrans ?_ (by assumption))))⟩
/-- what open hands back else -/
theorem open_no (Ar Af : Option Addr) (cr cf : Nat) (S : Sh) (is : Bool) (w : World) (hr : S.nr ≤ 9223372036854775807) (hf : S.nf ≤ 9223372036854775807) (hS : ShAt w Ar Af S) (E : Int) (hE : (¬ S.Ok ∧ E = 20) ∨ (S.Ok ∧ is = false ∧ E = 1)) :
    Calls Tryz.prog 94 #[.agg #[.slice Ar S.nr cr, .slice Af S.nf cf, .int .i64 S.deep, .int .i64 S.haul, .int .i64 S.rest], .bool is] w fun e w' => e = .returned (.tuple #[.agg #[.slice none 0 0, .slice none 0 0, .int .i64 0, .int .i64 0, .int .i64 0], .int .i64 E]) ∧ Below w.heap.size w w' := by
  have hb0 := bAlloc (bAlloc (Below.refl w.heap.size w) (.cells #[.slice Ar S.nr cr, .slice Af S.nf cf, .int .i64 S.deep, .int .i64 S.haul, .int .i64 S.rest] 68)) (.cells #[.slice none 0 0, .slice none 0 0, .int .i64 0, .int .i64 0, .int .i64 0] 150)
  have HS := Lib.hid (hS.mono hb0)
  have HB := Lib.hid hb0
  clear hS hb0
  rcases hE with ⟨ok, rfl⟩ | ⟨ok, rfl, rfl⟩
  · have he := Sh.err_bad ok
    go_enter Tryz.func94, Tryz.ntmps94
    go_wp2_with (go_at_call 138; refine (check_any _ _ _ _ S _ hr hf HS.out).mono ?_; rintro e w1 ⟨rfl, hb1⟩; obtain ⟨bc, bf⟩ := bcell hb1; have hz := hb1.size; simp only [World.size_alloc] at hz; have hy : w.heap.size < w1.heap.size := (by omega); have hy2 : w.heap.size + 1 < w1.heap.size := (by omega))
    exact bodyPost_ret (v := .tuple #[.agg #[.slice none 0 0, .slice none 0 0, .int .i64 0, .int .i64 0, .int .i64 0], .int .i64 20]) (by simp [results, Tryz.results94, go_sem, *]) rfl ⟨rfl, by (repeat (first | (with_reducible exact Below.refl _ _) | (with_reducible refine bAlloc ?_ _) | (with_reducible refine bDrew ?_) | (with_reducible refine bGrow ?_ _ _) | (with_reducible refine bSet ?_ ?_ _; (first | exact Nat.le_refl _ | exact Nat.le_add_right _ _ | (simp; omega))) | (with_reducible refine bTrans ?_ (by assumption))))⟩
  · have he := Sh.err_ok ok
    go_enter Tryz.func94, Tryz.ntmps94
    go_wp2_with (go_at_call 138; refine (check_any _ _ _ _ S _ hr hf HS.out).mono ?_; rintro e w1 ⟨rfl, hb1⟩; obtain ⟨bc, bf⟩ := bcell hb1; have hz := hb1.size; simp only [World.size_alloc] at hz; have hy : w.heap.size < w1.heap.size := (by omega); have hy2 : w.heap.size + 1 < w1.heap.size := (by omega))
    exact bodyPost_ret (v := .tuple #[.agg #[.slice none 0 0, .slice none 0 0, .int .i64 0, .int .i64 0, .int .i64 0], .int .i64 1]) (by simp [results, Tryz.results94, go_sem, *]) rfl ⟨rfl, by (repeat (first | (with_reducible exact Below.refl _ _) | (with_reducible refine bAlloc ?_ _) | (with_reducible refine bDrew ?_) | (with_reducible refine bGrow ?_ _ _) | (with_reducible refine bSet ?_ ?_ _; (first | exact Nat.le_refl _ | exact Nat.le_add_right _ _ | (simp; omega))) | (with_reducible refine bTrans ?_ (by assumption))))⟩
end Go.Proofs.YthnojgdckkdcgaaGreatDoor


namespace Go.Proofs.YthnojgdckkdcgaaGreatDoor
open Go.RowKit Go.Sort

section
variable {P : Program} {ops : Array Oper} {md : Region.Mode}

/-! ### The frame behind some of the operations -/
/-! ### Operations that are calm: one value in every world that is the first one with new blocks; what they leave is that with new blocks -/
attribute [go_sem] Oper.calm Oper.calmAt Oper.calmUpon
/-! ### Whoever looks at a slot, and whoever writes it, wait for each other -/
end
end Go.Proofs.YthnojgdckkdcgaaGreatDoor


namespace Go.Proofs.YthnojgdckkdcgaaGreatDoor
open Go.RowKit Go.Sort
section
variable {P : Program} {ops : Array Oper} {md : Region.Mode}
theorem frameOf_wrote {V : Nat → Value} {L : Nat → Bool} {a : Act} {p n : Nat} {d : Tmp} (hp : p < n) (hL : L p = true) (hd : dstOf ops p = some d) (ho : ∀ k, k ≠ p → dstOf ops k ≠ some d) (hs : d < a.tmps.size) : (frameOf ops V L a n).tmps[d]? = some (V p) := by
  rw [frameOf_slot_up (i := p + 1) (fun k hk _ => ho k (by omega)) n hp]
  rw [show frameOf ops V L a (p + 1) = if L p then (frameOf ops V L a p).put (dstOf ops p) (V p) else frameOf ops V L a p from rfl, if_pos hL, hd]
  simp [Act.put, frameOf_size, hs]
theorem frameOf_idle {V V' : Nat → Value} {L M : Nat → Bool} {a : Act} : ∀ k, (∀ j, j < k → (L j = M j ∧ (L j = true → V j = V' j)) ∨ dstOf ops j = none) → frameOf ops V L a k = frameOf ops V' M a k
  | 0, _ => rfl
  | k + 1, h => by
    have ih := frameOf_idle (a := a) k (fun j hj => h j (by omega))
    unfold frameOf
    rw [ih]
    rcases h k (by omega) with ⟨h1, h2⟩ | h1
    · rw [← h1]
      split
      · rename_i h3; rw [h2 h3]
      · rfl
    · rw [h1]; simp [Act.put]
theorem bSetRow {w x : World} (h : Below w.heap.size w x) {b : Nat} (hb : w.heap.size ≤ b) (cs : Array Value) : Below w.heap.size w (x.setRow b cs) :=
  ⟨h.os, h.tape, h.output, by simpa [World.setRow] using h.size, fun k hk => (setRow_other x b k cs (by omega)).trans (h.block k hk)⟩
def newB (md : Region.Mode) (ops : Array Oper) (p q : Nat) (d tx : Tmp) : Bool :=
  orderedB md ops && decide (p < ops.size) && decide (q < ops.size) && dstOf ops p == some d && dstOf ops q == none && waits md ops q p && !(tx == d) && !(p == q) &&
  ((List.range ops.size).all fun i => (i == q || !looksB ops i d) && (i == p || !(dstOf ops i == some d)) && (!(dstOf ops i == some tx) || waits md ops q i))
theorem wp_region_new {rid : Nat} {Q : Exit → Act → World → Prop} {a : Act} {w : World} {l : List Oper} (p q : Nat) (d tx : Tmp) (T : TypeId) (z : Array Value) (hm : P.follows .mixedOrders = true) (hB : newB .any l.toArray p q d tx = true)
    {op oq : Oper} (hop : l[p]? = some op) (hop2 : op.op = .alloc T) (hop3 : op.guard = none) (hoq : l[q]? = some oq) (hoq2 : oq.op = .store T (.tmp d) (.tmp tx)) (hoq3 : oq.guard = none)
    (hz : ∀ w, (zeroValue T).run P w = .ok (.agg z) w) (hi : (P.info? T).map (·.size) = some z.size) (hd : d < a.tmps.size)
    (h : wpCalm P l.toArray w (fun k => k == p || k == q) (fun a' => ∃ cs : Array Value, a'.eval (.tmp tx) = .agg cs ∧ cs.size = z.size ∧ cs.all (·.oneCell') = true ∧ ∀ b w', Below w.heap.size w w' → w.heap.size ≤ b → b < w'.heap.size → w'.heap[b]? = some (.cells cs T (0, 0)) →
      Q .normal (a'.put (some d) (.pointer (some ⟨b, 0, none⟩))) w') 0 l a) : (Code.region rid l.toArray true).wp P Q a w := by
  unfold newB at hB
  simp only [Bool.and_eq_true, decide_eq_true_eq, List.all_eq_true, List.mem_range, beq_iff_eq, Bool.not_eq_true', beq_eq_false_iff_ne, Bool.or_eq_true] at hB
  obtain ⟨⟨⟨⟨⟨⟨⟨⟨hord, hpn⟩, hqn⟩, hdp⟩, hdq⟩, hqp⟩, htd⟩, hpq⟩, hall⟩ := hB
  have H := ordered_of hord
  have hop' : l.toArray[p]? = some op := by simpa using hop
  have hoq' : l.toArray[q]? = some oq := by simpa using hoq
  have hopd : op.dst = some d := by simpa [dstOf, hop'] using hdp
  have hoqd : oq.dst = none := by simpa [dstOf, hoq'] using hdq
  have honly : ∀ k, k ≠ p → dstOf l.toArray k ≠ some d := fun k hk hd' => by
    have hkn : k < l.toArray.size := by
      simp only [dstOf] at hd'
      rcases Nat.lt_or_ge k l.toArray.size with h' | h'
      · exact h'
      · simp [Array.getElem?_eq_none h'] at hd'
    rcases (hall k hkn).1.2 with h1 | h1
    · exact hk h1
    · exact h1 hd'
  obtain ⟨V, _, hval, cs, hcs1, hcs2, hcs3, hQ⟩ := wpCalm_values a l 0 (fun _ => undef) (fun j => by simp) h
  have hlen : 0 + l.length = l.toArray.size := by simp
  rw [hlen] at hcs1 hQ
  let W : Nat → Nat → Value := fun b k => if k = p then .pointer (some ⟨b, 0, none⟩) else V k
  have hWV : ∀ b k, k ≠ p → W b k = V k := fun b k hk => if_neg hk
  have hWp : ∀ b, W b p = .pointer (some ⟨b, 0, none⟩) := fun b => if_pos rfl
  refine wp_region_any hm ?_
  refine wpAny_inv (fun listed a' w' => ∃ b, a' = frameOf l.toArray (W b) (fun k => listed.getD k false) a l.toArray.size ∧ Below w.heap.size w w' ∧
    (listed.getD p false = true → w.heap.size ≤ b ∧ w'.heap[b]? = some (.cells (if listed.getD q false then cs else z) T (0, 0)))) ?_ ?_ _ _ _ _ (left_le _ _) Shut.none ⟨0, ?_, (Below.refl _ _).drew, fun hn => ?_⟩
  · intro listed a' w' i hs ⟨b, he, hb, hblk⟩ hr
    subst he
    obtain ⟨hun, oi, hoi, _⟩ := mem_ready.1 hr
    have hi' : i < l.toArray.size := (Array.getElem?_eq_some_iff.1 hoi).1
    have hil : i < listed.size := by rw [hs.size]; exact hi'
    have hunf := listed_both hun
    by_cases hip : i = p
    · subst hip
      obtain rfl : op = oi := Option.some.inj (hop'.symm.trans hoi)
      have hq0 : listed.getD q false = false := by
        cases e : listed.getD q false with
        | false => rfl
        | true => have := hs.shut q i e hqp; rw [hunf] at this; cases this
      unfold Go.wpOp
      simp only [hoi, Region.wanted, hop3, if_true]
      refine .inl ?_
      unfold Oper.wp execOp
      simp only [hop2, Instr.alloc, Sem.run_bind, hz, Result.andThen_ok]
      refine ⟨w'.heap.size, ?_, bAlloc hb (.cells z T), fun _ => ⟨hb.size, ?_⟩⟩
      · rw [H.frame_put hs hi' hun, hdp, hWp, hopd]
        rw [show frameOf l.toArray (W w'.heap.size) (fun k => listed.getD k false) a l.toArray.size = frameOf l.toArray (W b) (fun k => listed.getD k false) a l.toArray.size from
          frameOf_congr _ (fun j _ => ⟨rfl, fun hj => by rw [hWV _ j (fun e => by subst e; rw [hunf] at hj; cases hj), hWV _ j (fun e => by subst e; rw [hunf] at hj; cases hj)]⟩)]
      · rw [getD_set_ne false hpq, hq0]
        exact heap_alloc_new w' _
    · have hsetp : (listed.setIfInBounds i true).getD p false = listed.getD p false := getD_set_ne false hip
      by_cases hiq : i = q
      · subst hiq
        obtain rfl : oq = oi := Option.some.inj (hoq'.symm.trans hoi)
        have hpl : listed.getD p false = true := waits_listed hr hqp
        obtain ⟨hbb, hblk⟩ := hblk hpl
        rw [hunf] at hblk
        have e1 : (frameOf l.toArray (W b) (fun k => listed.getD k false) a l.toArray.size).eval (.tmp d) = .pointer (some ⟨b, 0, none⟩) := by
          have := frameOf_wrote (V := W b) (L := fun k => listed.getD k false) (a := a) hpn hpl hdp honly hd
          rw [hWp] at this
          show Array.getD _ d undef = _
          rw [Array.getD_eq_getD_getElem?, this]; rfl
        have e2 : (frameOf l.toArray (W b) (fun k => listed.getD k false) a l.toArray.size).eval (.tmp tx) = .agg cs := by
          rw [← hcs1]
          refine eval_of_slots fun t ht => ?_
          obtain rfl : tx = t := by injection ht
          refine frameOf_slot (i := l.toArray.size) (fun k hk hdk => ?_) _ (Nat.le_refl _)
          have hw : waits .any l.toArray i k = true := by
            rcases (hall k hk).2 with h1 | h1
            · exact absurd hdk h1
            · exact h1
          have hkp : k ≠ p := fun e => by subst e; rw [hdp] at hdk; exact htd (Option.some.inj hdk).symm
          have hkq : k ≠ i := fun e => by subst e; rw [hdq] at hdk; cases hdk
          exact ⟨waits_listed hr hw, by simp [hkp, hkq], hWV b k hkp⟩
        unfold Go.wpOp
        simp only [hoi, Region.wanted, hoq3, if_true]
        refine .inl (wp_store_row T (.tmp d) (.tmp tx) hoq2 b cs e1 e2 T z hblk (by rw [hcs2]; exact hi) hcs2.symm hcs3 ?_)
        refine ⟨b, ?_, bSetRow hb hbb cs, fun _ => ⟨hbb, ?_⟩⟩
        · rw [H.frame_put hs hi' hun, hdq, hoqd]; rfl
        · rw [set_same hil]
          exact setRow_heap w' b z cs T _ hblk
      · have hsk : (i == p || i == q) = false := by simp [hip, hiq]
        have hsetq : (listed.setIfInBounds i true).getD q false = listed.getD q false := getD_set_ne false hiq
        refine CalmAt.wpOp hoi (fun cs b => Region.noSelect_spec H.sel i oi cs b hoi) (hval i oi (Nat.zero_le _) (by simpa using hi') hoi hsk) hb (H.sees hs hoi hr (fun k hk hk2 d' hd' => ?_) (fun k hk => hWV b k (fun e => by subst e; simp at hk))) (fun w'' hb' => ⟨b, ?_, bTrans hb hb', fun hpl => ?_⟩)
        · have hk2' : k = p ∨ k = q := by
            simp only [Bool.not_eq_false', Bool.or_eq_true, beq_iff_eq] at hk2; exact hk2
          rcases hk2' with rfl | rfl
          · obtain rfl : d = d' := Option.some.inj (hdp.symm.trans hd')
            rcases (hall i hi').1.1 with h1 | h1
            · exact absurd h1 hiq
            · exact h1
          · rw [hdq] at hd'; cases hd'
        · have e1 : dstOf l.toArray i = oi.dst := by simp [dstOf, hoi]
          rw [H.frame_put hs hi' hun, e1, hWV b i hip]
        · rw [hsetp] at hpl
          obtain ⟨hbb, hblk⟩ := hblk hpl
          rw [hsetq]
          exact ⟨hbb, (hb'.block b (Array.getElem?_eq_some_iff.1 hblk).1).trans hblk⟩
  · intro listed a' w' hs ⟨b, he, hb, hblk⟩ hr
    have hall' := H.all hs hr
    obtain ⟨hbb, hblk⟩ := hblk (hall' p hpn)
    rw [hall' q hqn, if_pos rfl] at hblk
    have := hQ b w' hb hbb (Array.getElem?_eq_some_iff.1 hblk).1 hblk
    rw [he]
    refine Eq.mp ?_ this
    congr 1
    rw [show frameOf l.toArray (W b) (fun k => listed.getD k false) a l.toArray.size = frameOf l.toArray (W b) (fun _ => true) a l.toArray.size from frameOf_congr _ (fun j hj => ⟨hall' j hj, fun _ => rfl⟩)]
    rw [frameOf_put (L := fun k => !(k == p)) (M := fun _ => true) (i := p) hpn (by simp) rfl (fun k hk => by simp [hk]) (fun k d' hk _ hd' => by
      obtain rfl : d = d' := Option.some.inj (hdp.symm.trans hd')
      exact honly k (by omega)), hdp, hWp]
    congr 1
    refine frameOf_idle _ (fun j hj => ?_)
    by_cases hjq : j = q
    · subst hjq; exact .inr hdq
    · refine .inl ⟨by simp [hjq], fun hj' => (hWV b j (fun e => by subst e; simp at hj')).symm⟩
  · symm
    have : ∀ k, frameOf l.toArray (W 0) (fun k => (Array.replicate l.toArray.size false).getD k false) a k = a := fun k => by
      induction k with
      | zero => rfl
      | succ k ih => rw [frameOf, ih, if_neg]; rcases Nat.lt_or_ge k l.length with h' | h' <;> simp [h']
    exact this _
  · have hpn' : p < l.length := by simpa using hpn
    simp [hpn'] at hn
end
end Go.Proofs.YthnojgdckkdcgaaGreatDoor


namespace Go.Proofs.YthnojgdckkdcgaaGreatDoor
open Go.RowKit Go.Sort
set_option maxHeartbeats 1000000 in
theorem ring_any (Ar Af : Option Addr) (cr cf : Nat) (S : Sh) (w : World) (ok : S.Ok) (hS : ShAt w Ar Af S) (n : Int) (d : Nat) (hn : n = d) (h1 : 1 ≤ d) (hd : d ≤ S.nf) :
    Calls Tryz.prog 207 #[.agg #[.slice Ar S.nr cr, .slice Af S.nf cf, .int .i64 S.deep, .int .i64 S.haul, .int .i64 S.rest], .int .i64 n] w fun e w' => e = .returned (.agg #[.int .i64 (S.ringc d), .int .i64 S.rest]) ∧ Below w.heap.size w w' := by
  subst hn
  have hb0 := bAlloc (bAlloc (Below.refl w.heap.size w) (.cells #[.slice Ar S.nr cr, .slice Af S.nf cf, .int .i64 S.deep, .int .i64 S.haul, .int .i64 S.rest] 150)) (.cells #[.int .i64 0, .int .i64 0] 203)
  have HS := Lib.hid (hS.mono hb0)
  have HB := Lib.hid hb0
  clear hS hb0
  have hi : d - 1 < S.nf := by omega
  have hr := ok.rk hi
  have hp0 := hr.t0
  have hp1 := hr.t1
  have hnf := ok.nf
  obtain ⟨m0, m1⟩ := sh_mul_bd (a := d) (b := S.haul) (by omega) (by omega) ok.l0 ok.l1
  go_enter Tryz.func207, Tryz.ntmps207
  go_wp2_with fail
  have e1 : IntKind.i64.wrap ((d : Int) - 1) = (d : Int) - 1 := IntWalk.i64_in _ (by omega)
  have e2 : IntKind.i64.wrap ((d : Int) * S.haul) = (d : Int) * S.haul := IntWalk.i64_in _ (by omega)
  have e3 : IntKind.i64.wrap ((S.rk (d - 1)).seat + (d : Int) * S.haul) = (S.rk (d - 1)).seat + (d : Int) * S.haul := IntWalk.i64_in _ (by omega)
  have hdd : (d : Int) - 1 = (d - 1 : Nat) := by omega
  have HD := Lib.hid hdd
  clear hdd
  refine wp_region_last 15 (by kernel_rfl) (by kernel_rfl) rfl ?_
  repeat (first | (refine wpCalm_skip rfl ?_) | (refine wpCalm_step rfl (fun K hK => ?_); go_simp; (first | (refine hK _ ?_; clear hK K) | (apply Exists.intro; refine ⟨fun _ => ?_, hK _ ?_⟩; (go_at_call 195; exact (rock_any _ _ _ _ S _ ok (HS.out.mono (below_regrown _ _ _)) _ (d - 1) HD.out hi)); clear hK K))))
  refine wpCalm_nil ?_
  clear e1 e2 e3
  intro w1 hb1
  obtain ⟨bc, bf⟩ := bcell hb1
  have hz := hb1.size
  simp only [World.size_alloc] at hz
  have hy2 : w.heap.size + 1 < w1.heap.size := hz
  have hy : w.heap.size < w1.heap.size := by omega
  go_wp2_with fail
  exact bodyPost_ret (v := .agg #[.int .i64 (S.ringc d), .int .i64 S.rest]) (by simp [results, Tryz.results207, go_sem, *]; rfl) rfl ⟨rfl, by (repeat (first | (with_reducible exact Below.refl _ _) | (with_reducible refine bAlloc ?_ _) | (with_reducible refine bDrew ?_) | (with_reducible refine bGrow ?_ _ _) | (with_reducible refine bSet ?_ ?_ _; (first | exact Nat.le_refl _ | exact Nat.le_add_right _ _ | (simp; omega))) | (with_reducible refine bTrans ?_ (by assumption))))⟩
theorem price_bd {S : Sh} (ok : S.Ok) {i : Nat} (hi : i < S.nf) : 0 ≤ S.price i ∧ S.price i ≤ 207 := by
  have hr := ok.rk hi
  have h1 := hr.p0
  have h2 := hr.p1
  have hnf := ok.nf
  obtain ⟨m0, m1⟩ := sh_mul_bd (a := i) (b := S.deep) (by omega) (by omega) ok.d0 ok.d1
  unfold Sh.price; omega
theorem digs_bd {S : Sh} (ok : S.Ok) {k : Nat} (hk : k ≤ S.nf) : 0 ≤ sumTo S.price k ∧ sumTo S.price k ≤ 2484 ∧ 0 ≤ sumTo S.hour k ∧ sumTo S.hour k ≤ 108 := by
  have h1 := sumTo_bd (f := S.price) (n := k) (lo := 0) (hi := 207) fun i hi => price_bd ok (by omega)
  have h2 := sumTo_bd (f := S.hour) (n := k) (lo := 0) (hi := 9) fun i hi => ⟨(ok.rk (by omega)).h0, (ok.rk (by omega)).h1⟩
  have hnf := ok.nf
  omega
set_option maxHeartbeats 1000000 in
theorem dig_any (Ar Af : Option Addr) (cr cf : Nat) (S : Sh) (w : World) (ok : S.Ok) (hS : ShAt w Ar Af S) (i : Nat) (hi : i < S.nf) :
    Calls Tryz.prog 169 #[.agg #[.slice Ar S.nr cr, .slice Af S.nf cf, .int .i64 S.deep, .int .i64 S.haul, .int .i64 S.rest], .int .i64 i] w fun e w' => e = .returned (.agg #[.int .i64 (S.price i), .int .i64 (S.hour i)]) ∧ Below w.heap.size w w' := by
  have hb0 := bAlloc (bAlloc (Below.refl w.heap.size w) (.cells #[.slice Ar S.nr cr, .slice Af S.nf cf, .int .i64 S.deep, .int .i64 S.haul, .int .i64 S.rest] 150)) (.cells #[.int .i64 0, .int .i64 0] 203)
  have HS := Lib.hid (hS.mono hb0)
  have HB := Lib.hid hb0
  clear hS hb0
  have hr := ok.rk hi
  have hp0 := hr.p0
  have hp1 := hr.p1
  have hnf := ok.nf
  obtain ⟨m0, m1⟩ := sh_mul_bd (a := i) (b := S.deep) (by omega) (by omega) ok.d0 ok.d1
  go_enter Tryz.func169, Tryz.ntmps169
  go_wp2_with (go_at_call 195; refine (rock_any _ _ _ _ S _ ok HS.out _ i rfl hi).mono ?_; rintro e w1 ⟨rfl, hb1⟩; obtain ⟨bc, bf⟩ := bcell hb1; have hz := hb1.size; simp only [World.size_alloc] at hz; have hy2 : w.heap.size + 1 < w1.heap.size := hz; have hy : w.heap.size < w1.heap.size := (by omega))
  exact bodyPost_ret (v := .agg #[.int .i64 (S.price i), .int .i64 (S.hour i)]) (by simp [results, Tryz.results169, go_sem, *]; exact ⟨rfl, rfl⟩) rfl ⟨rfl, by (repeat (first | (with_reducible exact Below.refl _ _) | (with_reducible refine bAlloc ?_ _) | (with_reducible refine bDrew ?_) | (with_reducible refine bGrow ?_ _ _) | (with_reducible refine bSet ?_ ?_ _; (first | exact Nat.le_refl _ | exact Nat.le_add_right _ _ | (simp; omega))) | (with_reducible refine bTrans ?_ (by assumption))))⟩
end Go.Proofs.YthnojgdckkdcgaaGreatDoor


namespace Go.Proofs.YthnojgdckkdcgaaGreatDoor
open Go.RowKit Go.Sort
set_option maxHeartbeats 2000000 in
theorem digging_any (Ar Af : Option Addr) (cr cf : Nat) (S : Sh) (w : World) (ok : S.Ok) (hS : ShAt w Ar Af S) :
    Calls Tryz.prog 137 #[.agg #[.slice Ar S.nr cr, .slice Af S.nf cf, .int .i64 S.deep, .int .i64 S.haul, .int .i64 S.rest]] w fun e w' => e = .returned (.agg #[.int .i64 (sumTo S.price S.nf), .int .i64 (sumTo S.hour S.nf)]) ∧ Below w.heap.size w w' := by
  have hb0 := bAlloc (Below.refl w.heap.size w) (.cells #[.slice Ar S.nr cr, .slice Af S.nf cf, .int .i64 S.deep, .int .i64 S.haul, .int .i64 S.rest] 150)
  have HS := Lib.hid (hS.mono hb0)
  have HB := Lib.hid hb0
  clear hS hb0
  have hnf := ok.nf
  go_enter Tryz.func137, Tryz.ntmps137
  go_wp2_with fail
  go_loopw [8] (fun i wr => ∃ k : Nat, k ≤ S.nf ∧ i = .int .i64 k ∧ Below (w.alloc (.cells #[.slice Ar S.nr cr, .slice Af S.nf cf, .int .i64 S.deep, .int .i64 S.haul, .int .i64 S.rest] 150)).heap.size (w.alloc (.cells #[.slice Ar S.nr cr, .slice Af S.nf cf, .int .i64 S.deep, .int .i64 S.haul, .int .i64 S.rest] 150)) wr ∧ w.heap.size + 1 < wr.heap.size ∧
    wr.cell? ⟨w.heap.size + 1, 0, none⟩ = some (.int .i64 (sumTo S.price k)) ∧ wr.cell? ⟨w.heap.size + 1, 1, none⟩ = some (.int .i64 (sumTo S.hour k)) ∧ wr.frozen? ⟨w.heap.size + 1, 0, none⟩ = false ∧ wr.frozen? ⟨w.heap.size + 1, 1, none⟩ = false) (fun i _ => S.nf - (intOf i).toNat)
  case atStart => exact ⟨0, Nat.zero_le _, rfl, (Below.refl _ _).alloc (Nat.le_refl _) _, by simp, by simp [go_sem, sumTo], by simp [go_sem, sumTo], by simp [go_sem], by simp [go_sem]⟩
  case round =>
    obtain ⟨k, hk, rfl, hbel, hsz, c0, c1, f0, f1⟩ := hrel
    obtain ⟨bc, bf⟩ := bcell hbel
    have hz := hbel.size
    simp only [World.size_alloc] at hz
    have hy : w.heap.size < wr.heap.size := hz
    obtain ⟨d0, d1, d2, d3⟩ := digs_bd ok hk
    have HS1 := Lib.hid (HS.out.mono hbel)
    by_cases hlt : k < S.nf
    · obtain ⟨p0, p1⟩ := price_bd ok hlt
      have q0 := (ok.rk hlt).h0
      have q1 := (ok.rk hlt).h1
      have hhr : S.hour k = (S.rk k).hours := rfl
      rw [← hhr] at q0 q1
      clear hhr
      go_wp2_with fail
      refine wp_region_last 5 (by kernel_rfl) (by kernel_rfl) rfl ?_
      repeat (first | (refine wpCalm_skip rfl ?_) | (refine wpCalm_step rfl (fun K hK => ?_); go_simp; (first | (refine hK _ ?_; clear hK K) | (apply Exists.intro; refine ⟨fun _ => ?_, hK _ ?_⟩; ((first | (go_at_call 169; exact (dig_any _ _ _ _ S _ ok (HS1.out.mono (below_regrown _ _ _)) k hlt)) | (go_at_call 168; exact plus_any _ _ _ _ _ (by omega)))); clear hK K))))
      refine wpCalm_nil ?_
      intro w1 hb1
      obtain ⟨bc1, bf1⟩ := bcell hb1
      have hz1 := hb1.size
      have hy1 : w.heap.size + 1 < w1.heap.size := by omega
      go_wp2_with fail
      go_roundw
      case rel => exact ⟨k + 1, by omega, by go_num, (((hbel.trans (hb1.mono hbel.size)).setCell (by simp) _).setCell (by simp) _), by simp [World.setCell]; omega, by simp [go_sem, *, sumTo], by simp [go_sem, *, sumTo], by simp [go_sem, *], by simp [go_sem, *]⟩
      case measure => simp [intOf]; omega
    · obtain rfl : k = S.nf := by omega
      go_wp2_with fail
      exact bodyPost_ret (v := .agg #[.int .i64 (sumTo S.price S.nf), .int .i64 (sumTo S.hour S.nf)]) (by simp [results, Tryz.results137, go_sem, *]) rfl ⟨rfl, by (repeat (first | (with_reducible exact Below.refl _ _) | (with_reducible refine bAlloc ?_ _) | (with_reducible refine bDrew ?_) | (with_reducible refine bGrow ?_ _ _) | (with_reducible refine bSet ?_ ?_ _; (first | exact Nat.le_refl _ | exact Nat.le_add_right _ _ | (simp; omega))) | (with_reducible refine bTrans ?_ (by assumption))))⟩
end Go.Proofs.YthnojgdckkdcgaaGreatDoor


namespace Go.Proofs.YthnojgdckkdcgaaGreatDoor
open Go.RowKit Go.Sort
theorem ringc_bd {S : Sh} (ok : S.Ok) {d : Nat} (h1 : 1 ≤ d) (hd : d ≤ S.nf) : -1 ≤ S.ringc d ∧ S.ringc d ≤ 207 := by
  have hr := ok.rk (i := d - 1) (by omega)
  have h1 := hr.t0
  have h2 := hr.t1
  have hnf := ok.nf
  obtain ⟨m0, m1⟩ := sh_mul_bd (a := d) (b := S.haul) (by omega) (by omega) ok.l0 ok.l1
  unfold Sh.ringc; omega
end Go.Proofs.YthnojgdckkdcgaaGreatDoor


namespace Go.Proofs.YthnojgdckkdcgaaGreatDoor
open Go.RowKit Go.Sort
end Go.Proofs.YthnojgdckkdcgaaGreatDoor


namespace Go.Proofs.YthnojgdckkdcgaaGreatDoor
open Go.RowKit Go.Sort
end Go.Proofs.YthnojgdckkdcgaaGreatDoor


namespace Go.Proofs.YthnojgdckkdcgaaGreatDoor
open Go.RowKit Go.Sort
end Go.Proofs.YthnojgdckkdcgaaGreatDoor


namespace Go.Proofs.YthnojgdckkdcgaaGreatDoor
open Go.RowKit Go.Sort
end Go.Proofs.YthnojgdckkdcgaaGreatDoor


namespace Go.Proofs.YthnojgdckkdcgaaGreatDoor
open Go.RowKit Go.Sort
theorem ring_nn {S : Sh} (ok : S.Ok) {d : Nat} (h1 : 1 ≤ d) (hd : d ≤ S.nf) (hr : S.restsB d = true) : 0 ≤ S.ringc d ∧ S.ringc d ≤ 207 := by
  obtain ⟨b0, b1⟩ := ringc_bd ok h1 hd
  have h2 := (ok.rk (i := d - 1) (by omega)).t0
  have hnf := ok.nf
  obtain ⟨m0, m1⟩ := sh_mul_bd (a := d) (b := S.haul) (by omega) (by omega) ok.l0 ok.l1
  have h3 : (S.rk (d - 1)).seat ≠ -1 := by
    unfold Sh.restsB at hr; simpa using hr
  unfold Sh.ringc at *
  omega
end Go.Proofs.YthnojgdckkdcgaaGreatDoor


namespace Go.Proofs.YthnojgdckkdcgaaGreatDoor
open Go.RowKit Go.Sort
def noWay : Way := ⟨-1, 0, 0⟩
def Way.vals (x : Way) : List Value := [.int .i64 x.rings, .int .i64 x.pence, .int .i64 x.next]
def wayL (f : Nat → Way) : Nat → List Value
  | 0 => []
  | n + 1 => wayL f n ++ (f n).vals
theorem wayL_len (f : Nat → Way) (n : Nat) : (wayL f n).length = n * 3 := by
  induction n with
  | zero => rfl
  | succ n ih => simp only [wayL, List.length_append, ih, Way.vals, List.length_cons, List.length_nil]; omega
theorem wayL_get (f : Nat → Way) {n i : Nat} (h : i < n) : (wayL f n)[i * 3]? = some (.int .i64 (f i).rings) ∧ (wayL f n)[i * 3 + 1]? = some (.int .i64 (f i).pence) ∧ (wayL f n)[i * 3 + 2]? = some (.int .i64 (f i).next) := by
  induction n with
  | zero => omega
  | succ n ih =>
    have hl := wayL_len f n
    rcases Nat.lt_or_ge i n with h1 | h1
    · obtain ⟨a, b, c⟩ := ih h1
      simp only [wayL]
      refine ⟨?_, ?_, ?_⟩ <;> rw [List.getElem?_append_left (by omega)] <;> assumption
    · obtain rfl : i = n := by omega
      simp only [wayL]
      refine ⟨?_, ?_, ?_⟩ <;> rw [List.getElem?_append_right (by omega), hl] <;> simp [Way.vals]
theorem wayL_inv (f : Nat → Way) {n j : Nat} {v : Value} (h : (wayL f n)[j]? = some v) : ∃ i, i < n ∧ ((j = i * 3 ∧ v = .int .i64 (f i).rings) ∨ (j = i * 3 + 1 ∧ v = .int .i64 (f i).pence) ∨ (j = i * 3 + 2 ∧ v = .int .i64 (f i).next)) := by
  have hj : j < n * 3 := by
    have := (List.getElem?_eq_some_iff.1 h).1
    rwa [wayL_len] at this
  obtain ⟨a, b, c⟩ := wayL_get f (n := n) (i := j / 3) (by omega)
  refine ⟨j / 3, by omega, ?_⟩
  rcases (by omega : j = j / 3 * 3 ∨ j = j / 3 * 3 + 1 ∨ j = j / 3 * 3 + 2) with e | e | e
  · rw [← e, h] at a; exact .inl ⟨e, by simpa using a⟩
  · rw [← e, h] at b; exact .inr (.inl ⟨e, by simpa using b⟩)
  · rw [← e, h] at c; exact .inr (.inr ⟨e, by simpa using c⟩)
theorem wayL_one (f : Nat → Way) (n : Nat) : ∀ v ∈ wayL f n, v.oneCell' = true := by
  intro v hv
  obtain ⟨j, hj, e⟩ := List.getElem_of_mem hv
  obtain ⟨i, _, h⟩ := wayL_inv f (n := n) (j := j) (v := v) (by rw [List.getElem?_eq_getElem hj, e])
  rcases h with ⟨_, rfl⟩ | ⟨_, rfl⟩ | ⟨_, rfl⟩ <;> rfl
theorem WaysAt.read {w : World} {g n : Nat} {f : Nat → Way} (h : WaysAt w g n f) {o k : Nat} (hk : o + k ≤ n) : ∀ j v, (wayL (fun i => f (o + i)) k)[j]? = some v → w.cell? ((⟨g, o * 3, none⟩ : Addr).add j) = some v := by
  intro j v hv
  have hadd : (⟨g, o * 3, none⟩ : Addr).add j = ⟨g, o * 3 + j, none⟩ := by unfold Addr.add; split <;> simp_all
  rw [hadd]
  obtain ⟨i, hi, e⟩ := wayL_inv _ hv
  rcases e with ⟨rfl, rfl⟩ | ⟨rfl, rfl⟩ | ⟨rfl, rfl⟩
  · rw [← h.c0 (o + i) (by omega)]; congr 2; omega
  · rw [← h.c1 (o + i) (by omega)]; congr 2; omega
  · rw [← h.c2 (o + i) (by omega)]; congr 2; omega
/-- other memory stays, and the cells of the row too: what is not written reads as before -/
theorem WaysAt.other {w : World} {g n : Nat} {f : Nat → Way} (h : WaysAt w g n f) {p : Addr} (hp : p.block ≠ g) (v : Value) : WaysAt (w.setCell p v) g n f := by
  have hc : ∀ j, (w.setCell p v).cell? ⟨g, j, none⟩ = w.cell? ⟨g, j, none⟩ := fun j => World.cell?_setCell_other _ _ _ _ (fun e => hp (by rw [e]))
  exact ⟨by simpa [World.setCell] using h.lt, fun i hi => (hc _).trans (h.c0 i hi), fun i hi => (hc _).trans (h.c1 i hi), fun i hi => (hc _).trans (h.c2 i hi), fun j => by rw [World.frozen?_setCell]; exact h.fr j⟩
theorem WaysAt.set {w : World} {g n : Nat} {f : Nat → Way} (h : WaysAt w g n f) {d : Nat} (hd : d < n) (x : Way) :
    WaysAt (((w.setCell ⟨g, d * 3, none⟩ (.int .i64 x.rings)).setCell ⟨g, d * 3 + 1, none⟩ (.int .i64 x.pence)).setCell ⟨g, d * 3 + 2, none⟩ (.int .i64 x.next)) g n (fun i => if i = d then x else f i) := by
  have k0 := h.c0 d hd
  have k1 := h.c1 d hd
  have k2 := h.c2 d hd
  have other : ∀ j, j ≠ d * 3 → j ≠ d * 3 + 1 → j ≠ d * 3 + 2 → (((w.setCell ⟨g, d * 3, none⟩ (.int .i64 x.rings)).setCell ⟨g, d * 3 + 1, none⟩ (.int .i64 x.pence)).setCell ⟨g, d * 3 + 2, none⟩ (.int .i64 x.next)).cell? ⟨g, j, none⟩ = w.cell? ⟨g, j, none⟩ := fun j h0 h1 h2 => by
    rw [World.cell?_setCell_other _ _ _ _ (fun e => by injection e with _ e; omega), World.cell?_setCell_other _ _ _ _ (fun e => by injection e with _ e; omega), World.cell?_setCell_other _ _ _ _ (fun e => by injection e with _ e; omega)]
  refine ⟨by simpa [World.setCell] using h.lt, fun i hi => ?_, fun i hi => ?_, fun i hi => ?_, fun j => by rw [World.frozen?_setCell, World.frozen?_setCell, World.frozen?_setCell]; exact h.fr j⟩
  all_goals
    by_cases e : i = d
    · subst e
      simp only [if_true]
      simp [World.cell?_setCell_other, World.cell?_setCell_same _ _ _ k0, k1, k2, go_sem]
    · simp only [if_neg e]
      rw [other _ (by omega) (by omega) (by omega)]
      first | exact h.c0 i hi | exact h.c1 i hi | exact h.c2 i hi
theorem WaysAt.setCells {w : World} {g n : Nat} {f : Nat → Way} (h : WaysAt w g n f) {o k : Nat} (hk : o + k ≤ n) (f' : Nat → Way) :
    WaysAt (w.setCells g (o * 3) (wayL f' k)) g n (fun i => if o ≤ i ∧ i < o + k then f' (i - o) else f i) := by
  have hl := wayL_len f' k
  have hex : ∀ j, j < n * 3 → (w.cell? ⟨g, j, none⟩).isSome = true := fun j hj => by
    rcases (by omega : j = j / 3 * 3 ∨ j = j / 3 * 3 + 1 ∨ j = j / 3 * 3 + 2) with e | e | e
    · rw [e, h.c0 (j / 3) (by omega)]; rfl
    · rw [e, h.c1 (j / 3) (by omega)]; rfl
    · rw [e, h.c2 (j / 3) (by omega)]; rfl
  have hin : ∀ j v, (wayL f' k)[j]? = some v → (w.setCells g (o * 3) (wayL f' k)).cell? ⟨g, o * 3 + j, none⟩ = some v := fun j v hv => by
    obtain ⟨hj, e⟩ := List.getElem?_eq_some_iff.1 hv
    rw [World.cell?_setCells_in g (wayL f' k) (o * 3) w (fun j hj => hex _ (by omega)) j hj, e]
  have hout : ∀ j, (j < o * 3 ∨ o * 3 + k * 3 ≤ j) → (w.setCells g (o * 3) (wayL f' k)).cell? ⟨g, j, none⟩ = w.cell? ⟨g, j, none⟩ := fun j hj =>
    World.cell?_setCells_out g _ _ _ _ (fun _ _ => by rw [hl]; exact hj)
  have hsz : (w.setCells g (o * 3) (wayL f' k)).heap.size = w.heap.size := by
    have : ∀ (vs : List Value) (p : Nat) (w : World), (w.setCells g p vs).heap.size = w.heap.size := by
      intro vs
      induction vs with
      | nil => intro p w; rfl
      | cons v r ih => intro p w; rw [World.setCells, ih]; simp [World.setCell]
    exact this _ _ _
  refine ⟨by rw [hsz]; exact h.lt, fun i hi => ?_, fun i hi => ?_, fun i hi => ?_, fun j => by rw [World.frozen?_setCells]; exact h.fr j⟩
  all_goals
    by_cases e : o ≤ i ∧ i < o + k
    · rw [if_pos e]
      obtain ⟨a, b, c⟩ := wayL_get f' (n := k) (i := i - o) (by omega)
      first
        | (rw [← hin _ _ a]; congr 2; omega)
        | (rw [← hin _ _ b]; congr 2; omega)
        | (rw [← hin _ _ c]; congr 2; omega)
    · rw [if_neg e, hout _ (by omega)]
      first | exact h.c0 i hi | exact h.c1 i hi | exact h.c2 i hi
theorem waysAt_own {w : World} {base g n cap : Nat} {e : TypeId} {f : Nat → Way} (h : w.ownsRow base e 3 (.slice (some ⟨g, 0, none⟩) n cap) n (wayL f n)) : base ≤ g ∧ WaysAt w g n f := by
  have hlt := h.lt g rfl
  have hc : ∀ j u, (wayL f n)[j]? = some u → w.cell? ⟨g, j, none⟩ = some u := fun j u hu => by
    have := h.cells (g := g) rfl j u hu
    rwa [show (⟨g, 0, none⟩ : Addr).add j = ⟨g, j, none⟩ from by unfold Addr.add; split <;> simp_all] at this
  exact ⟨hlt.1, hlt.2, fun i hi => hc _ _ (wayL_get f hi).1, fun i hi => hc _ _ (wayL_get f hi).2.1, fun i hi => hc _ _ (wayL_get f hi).2.2, fun j => h.frozenAt j⟩
end Go.Proofs.YthnojgdckkdcgaaGreatDoor


namespace Go.Proofs.YthnojgdckkdcgaaGreatDoor
open Go.RowKit Go.Sort
theorem infoWay : (Tryz.prog.info? 198).map (fun i => (i.zero, i.size, i.bytes)) = some (some (.agg #[.int .i64 0, .int .i64 0, .int .i64 0]), 3, 24) := by kernel_rfl
theorem cheaper_any (x y : Way) (w : World) :
    Calls Tryz.prog 136 #[.agg #[.int .i64 x.rings, .int .i64 x.pence, .int .i64 x.next], .agg #[.int .i64 y.rings, .int .i64 y.pence, .int .i64 y.next]] w fun e w' => e = .returned (.bool (decide (x.pence < y.pence))) ∧ Below w.heap.size w w' := by
  have hb0 := bAlloc (bAlloc (Below.refl w.heap.size w) (.cells #[.int .i64 x.rings, .int .i64 x.pence, .int .i64 x.next] 198)) (.cells #[.int .i64 y.rings, .int .i64 y.pence, .int .i64 y.next] 198)
  have HB := Lib.hid hb0
  clear hb0
  by_cases h : x.pence < y.pence
  all_goals
    go_enter Tryz.func136, Tryz.ntmps136
    go_wp2_with fail
    go_ret
    exact ⟨ret_bool (by simp [h]), HB.out⟩
/-- what Clone hands back: a new row with the same ways -/
def Cloned (w w' : World) (n : Nat) (f : Nat → Way) (e : Ending) : Prop :=
  ∃ g' c', e = .returned (.slice (some ⟨g', 0, none⟩) n c') ∧ w.heap.size ≤ g' ∧ WaysAt w' g' n f ∧ Below w.heap.size w w'
set_option maxHeartbeats 2000000 in
set_option maxRecDepth 100000 in
theorem clone_any (g n c : Nat) (f : Nat → Way) (w : World) (h0 : 0 < n) (hn : n ≤ 13) (h : WaysAt w g n f) :
    Calls Tryz.prog 204 #[.slice (some ⟨g, 0, none⟩) n c] w fun e w' => Cloned w w' n f e := by
  have HW := Lib.hid h
  clear h
  obtain ⟨i0, hi, hz0, hz1, hz2⟩ := info_parts infoWay
  have q : ∀ (w : World) (a : Option Addr) (n c n' c' : Nat), (binOp .eql 252 (.slice a n c) (.slice none n' c')).run Tryz.prog w = .ok (.bool a.isNone) w := fun w a n c n' c' => Lib.run_eql_slice_nil w _ _ a n c n' c' Tryz.underlying252
  go_enter Tryz.func204, Tryz.ntmps204
  go_wp2_with (at_builtin; refine wpList_append_own _ rfl _ _ 252 rfl w.heap.size 198 i0 (.agg #[.int .i64 0, .int .i64 0, .int .i64 0]) 3 24 Tryz.underlying252 hi hz0 hz1 hz2 rfl (by decide) _ _ _ rfl (World.ownsRow_made w #[] 0 (Nat.le_refl _) (Nat.zero_le _) rfl) ⟨g, 0, none⟩ n c (wayL f n) rfl (wayL_len f n) ?qc2 (wayL_one f n) ?qc4 ?qc5 ?qc6 ?_)
  case qc2 =>
    have := (HW.out.mono (bAlloc (Below.refl _ w) (.cells #[] 198))).read (o := 0) (k := n) (by omega)
    simpa using this
  case qc4 => unfold maxLen; omega
  case qc5 => omega
  case qc6 => simp
  intro v' w1 hown hgrow hnil
  go_wp2
  obtain ⟨hlen, hor⟩ := id hown
  rcases hor with ⟨_, h1⟩ | ⟨g', cap, cur, rfl, hb, _⟩
  · omega
  go_ret
  refine ⟨g', cap, by simp, hb, (waysAt_own hown).2, ?_⟩
  exact ((Below.refl _ w).alloc (Nat.le_refl _) _).grown hgrow (by simp) (by intro k hk; simp [Value.ownBlock] at hk; omega)
theorem to13 {n : Nat} (h0 : 0 < n) (hn : n ≤ 13) : n = 1 ∨ n = 2 ∨ n = 3 ∨ n = 4 ∨ n = 5 ∨ n = 6 ∨ n = 7 ∨ n = 8 ∨ n = 9 ∨ n = 10 ∨ n = 11 ∨ n = 12 ∨ n = 13 := by omega
theorem mul64_any (n : Nat) (w : World) (h0 : 0 < n) (hn : n ≤ 13) :
    Calls Tryz.prog 212 #[.int .u64 1, .int .u64 n] w fun e w' => e = .returned (.tuple #[.int .u64 0, .int .u64 n]) ∧ w = w' := by
  rcases to13 h0 hn with rfl | rfl | rfl | rfl | rfl | rfl | rfl | rfl | rfl | rfl | rfl | rfl | rfl
  all_goals
    go_enter Tryz.func212, Tryz.ntmps212
    go_wp2
    go_ret2
    exact ⟨rfl, rfl⟩
theorem mul_any (n : Nat) (w : World) (h0 : 0 < n) (hn : n ≤ 13) :
    Calls Tryz.prog 210 #[.int .u64 1, .int .u64 n] w fun e w' => e = .returned (.tuple #[.int .u64 0, .int .u64 n]) ∧ w = w' := by
  go_enter Tryz.func210, Tryz.ntmps210
  go_wp2_with (go_at_call 212; refine (mul64_any n _ h0 hn).mono ?_; rintro e w1 ⟨rfl, rfl⟩)
  go_ret2
  exact ⟨rfl, rfl⟩
/-- copy between two rows of ways: all is read before anything is written -/
theorem run_copy_ways {P : Program} (w : World) (dT sT ty elem : TypeId) (g o dLen dCap : Nat) (g2 o2 sLen sCap n n2 k : Nat) (f f2 : Nat → Way)
    (hu : P.underlying dT = some (.slice elem)) (hs : (P.info? elem).map (·.size) = some 3) (hk : k = Nat.min sLen dLen)
    (h : WaysAt w g n f) (h2 : WaysAt w g2 n2 f2) (hd : o + k ≤ n) (hd2 : o2 + k ≤ n2) :
    (Builtin.copy_ #[dT, sT] ty #[.slice (some ⟨g, o * 3, none⟩) dLen dCap, .slice (some ⟨g2, o2 * 3, none⟩) sLen sCap]).run P w = .ok (goInt k) (w.setCells g (o * 3) (wayL (fun i => f2 (o2 + i)) k)) := by
  have hl := run_loadCells_list (P := P) w ⟨g2, o2 * 3, none⟩ (wayL (fun i => f2 (o2 + i)) k) (h2.read hd2)
  rw [wayL_len] at hl
  have hex : ∀ j, j < n * 3 → (w.cell? ⟨g, j, none⟩).isSome = true := fun j hj => by
    rcases (by omega : j = j / 3 * 3 ∨ j = j / 3 * 3 + 1 ∨ j = j / 3 * 3 + 2) with e | e | e
    · rw [e, h.c0 (j / 3) (by omega)]; rfl
    · rw [e, h.c1 (j / 3) (by omega)]; rfl
    · rw [e, h.c2 (j / 3) (by omega)]; rfl
  have hst := run_storeCells_cells (P := P) g (o * 3) (wayL (fun i => f2 (o2 + i)) k) 0 w (fun j hj => by rw [wayL_len] at hj; exact hex _ (by omega)) (fun j _ => h.fr _) (wayL_one _ _)
  cases hq : P.info? elem with
  | none => simp [hq] at hs
  | some i =>
    have hi : i.size = 3 := by simpa [hq] using hs
    simp [Builtin.copy_, run_underlying hu, Builtin.lenOf, Builtin.firstCells, sizeOf, typeInfo, hq, hi, ← hk, hl, hst]
end Go.Proofs.YthnojgdckkdcgaaGreatDoor


namespace Go.Proofs.YthnojgdckkdcgaaGreatDoor
open Go.RowKit Go.Sort
theorem below_setCells {b : Nat} : ∀ (vs : List Value) (o : Nat) {w x : World}, Below w.heap.size w x → w.heap.size ≤ b → Below w.heap.size w (x.setCells b o vs)
  | [], _, _, _, h, _ => h
  | v :: r, o, w, x, h, hb => below_setCells r (o + 1) (h.setCell (by simpa using hb) v) hb
theorem wpList_copy_ways {P : Program} {w : World} {ops : Array Oper} {rest : List Oper} {o : Oper} {a : Act} {Q : Exit → Act → World → Prop} (hgd : o.guard = none) (d s : Operand) (dT sT : TypeId)
    (ho : o.op = .call { callee := .builtin .copy, args := #[d, s], argTypes := #[dT, sT] }) (elem : TypeId) (hu : P.underlying dT = some (.slice elem)) (hsz : (P.info? elem).map (·.size) = some 3)
    (g p dLen dCap g2 p2 sLen sCap n n2 q q2 k : Nat) (f f2 : Nat → Way) (hd : a.eval d = .slice (some ⟨g, p, none⟩) dLen dCap) (hs : a.eval s = .slice (some ⟨g2, p2, none⟩) sLen sCap)
    (hp : p = q * 3) (hp2 : p2 = q2 * 3) (hk : k = Nat.min sLen dLen) (h1 : WaysAt w g n f) (h2 : WaysAt w g2 n2 f2) (hf : q + k ≤ n) (hf2 : q2 + k ≤ n2) (w0 : World) (hb : Below w0.heap.size w0 w) (hg : w0.heap.size ≤ g)
    (h : ∀ w', WaysAt w' g n (fun i => if q ≤ i ∧ i < q + k then f2 (q2 + (i - q)) else f i) → Below w0.heap.size w0 w' → wpList P ops Q rest (a.put o.dst (goInt k)) w') : wpList P ops Q (o :: rest) a w := by
  subst hp hp2
  refine wpList_plain hgd fun K hK => ?_
  have hrun := run_copy_ways (P := P) w dT sT o.type elem g q dLen dCap g2 q2 sLen sCap n n2 k f f2 hu hsz hk h1 h2 hf hf2
  unfold Oper.wp
  simp [execOp, ho, resolve, invoke, builtin, hd, hs, hrun, Result.andThen]
  exact hK _ _ (h _ (h1.setCells hf _) (below_setCells _ _ hb hg))
theorem step_copy_ways {P : Program} {ops : Array Oper} {o : Oper} {a : Act} {w : World} {K : Act → World → Prop} {Q : Exit → Act → World → Prop} {E : Prop} (hgd : o.guard = none) (d s : Operand) (dT sT : TypeId)
    (ho : o.op = .call { callee := .builtin .copy, args := #[d, s], argTypes := #[dT, sT] }) (elem : TypeId) (hu : P.underlying dT = some (.slice elem)) (hsz : (P.info? elem).map (·.size) = some 3)
    (g p dLen dCap g2 p2 sLen sCap n n2 q q2 k : Nat) (f f2 : Nat → Way) (hd : a.eval d = .slice (some ⟨g, p, none⟩) dLen dCap) (hs : a.eval s = .slice (some ⟨g2, p2, none⟩) sLen sCap)
    (hp : p = q * 3) (hp2 : p2 = q2 * 3) (hk : k = Nat.min sLen dLen) (h1 : WaysAt w g n f) (h2 : WaysAt w g2 n2 f2) (hf : q + k ≤ n) (hf2 : q2 + k ≤ n2) (w0 : World) (hb : Below w0.heap.size w0 w) (hg : w0.heap.size ≤ g)
    (h : ∀ w', Hid (WaysAt w' g n (fun i => if q ≤ i ∧ i < q + k then f2 (q2 + (i - q)) else f i)) → Hid (Below w0.heap.size w0 w') → K (a.put o.dst (goInt k)) w') :
    if Region.wanted o (yielded ops a.tmps) = true then Oper.wp P o a w K Q else E := by
  have hw : Region.wanted o (yielded ops a.tmps) = true := by simp [Region.wanted, hgd]
  rw [if_pos hw]
  subst hp hp2
  have hrun := run_copy_ways (P := P) w dT sT o.type elem g q dLen dCap g2 q2 sLen sCap n n2 k f f2 hu hsz hk h1 h2 hf hf2
  unfold Oper.wp
  simp [execOp, ho, resolve, invoke, builtin, hd, hs, hrun, Result.andThen]
  exact h _ (show _ from h1.setCells hf _) (show _ from below_setCells _ _ hb hg)
theorem sizeWay : (Tryz.prog.info? 198).map (·.size) = some 3 := by kernel_rfl
theorem waysAt_zero (n : Nat) : (madeCells (Value.agg #[.int .i64 0, .int .i64 0, .int .i64 0]).cells (n * 3)).toList = wayL (fun _ => ⟨0, 0, 0⟩) n := by
  apply List.ext_getElem?
  intro j
  by_cases hj : j < n * 3
  · obtain ⟨a, b, c⟩ := wayL_get (fun _ => ⟨0, 0, 0⟩) (n := n) (i := j / 3) (by omega)
    rcases (by omega : j = j / 3 * 3 ∨ j = j / 3 * 3 + 1 ∨ j = j / 3 * 3 + 2) with e | e | e
    · have h1 : j / 3 * 3 < n * 3 := by omega
      have h2 : (j / 3 * 3) % 3 = 0 := by omega
      rw [e, a]; simp [madeCells, Value.cells, h1, h2]
    · have h1 : j / 3 * 3 + 1 < n * 3 := by omega
      have h2 : (j / 3 * 3 + 1) % 3 = 1 := by omega
      rw [e, b]; simp [madeCells, Value.cells, h1, h2]
    · have h1 : j / 3 * 3 + 2 < n * 3 := by omega
      have h2 : (j / 3 * 3 + 2) % 3 = 2 := by omega
      rw [e, c]; simp [madeCells, Value.cells, h1, h2]
  · rw [List.getElem?_eq_none (by simp [madeCells]; omega), List.getElem?_eq_none (by rw [wayL_len]; omega)]
/-- what is there in Repeat's loop: a row of N ways, the first k of which are those that there are not -/
structure Filled (w wr : World) (N k : Nat) : Prop where
  at_ : ∃ f, WaysAt wr w.heap.size N f ∧ ∀ j, j < k → f j = noWay
  below : Below w.heap.size w wr
theorem filled_go {w w2 : World} {N k m : Nat} {f : Nat → Way} (h : ∀ j, j < k → f j = noWay) (hm : m ≤ k) (h2 : WaysAt w2 w.heap.size N (fun i => if k ≤ i ∧ i < k + m then f (0 + (i - k)) else f i)) (hb : Below w.heap.size w w2) : Filled w w2 N (k + m) :=
  ⟨⟨_, h2, fun j hj => by
    by_cases e : k ≤ j ∧ j < k + m
    · simp only [if_pos e]; exact h _ (by omega)
    · simp only [if_neg e]; exact h _ (by omega)⟩, hb⟩
set_option maxHeartbeats 2000000 in
set_option maxRecDepth 100000 in
theorem repeat_any (g c N : Nat) (K : Int) (hK : K = N) (w : World) (h0 : 0 < N) (hN : N ≤ 13) (h : WaysAt w g 1 (fun _ => noWay)) :
    Calls Tryz.prog 203 #[.slice (some ⟨g, 0, none⟩) 1 c, .int .i64 K] w fun e w' => Cloned w w' N (fun _ => noWay) e := by
  subst hK
  have HW := Lib.hid h
  clear h
  obtain ⟨i0, hi, hz0, hz1, hz2⟩ := info_parts infoWay
  go_enter Tryz.func203, Tryz.ntmps203
  go_wp2_with (first | (go_at_call 210; refine (mul_any N _ h0 hN).mono ?_; rintro e w1 ⟨rfl, rfl⟩) | (at_make; refine wpList_make_full _ rfl _ _ 252 rfl w.heap.size 198 i0 (.agg #[.int .i64 0, .int .i64 0, .int .i64 0]) 3 Tryz.underlying252 hi hz0 hz1 .i64 .i64 _ _ N rfl rfl (by omega) (by omega) (by rw [hz2]; omega) (by unfold maxLen; omega) (Nat.le_refl _) ?_; intro w1 hown hgrow; rw [waysAt_zero] at hown; have HN := Lib.hid (waysAt_own hown).2; have HB := Lib.hid (below_grownBy hgrow (Nat.le_refl _) (fun _ e => nomatch e)); clear hown hgrow) | ((with_reducible show wpList _ _ _ _ _ _); refine wpList_copy_ways (o := ⟨some 33, _, _, _, _, _⟩) rfl (.tmp 31) (.tmp 32) 252 252 rfl 198 Tryz.underlying252 sizeWay w.heap.size 0 N N g 0 1 c N 1 0 0 1 (fun _ => ⟨0, 0, 0⟩) (fun _ => noWay) rfl rfl rfl rfl (by show 1 = min 1 N; omega) HN.out (HW.out.mono HB.out) (by omega) (by omega) w HB.out (Nat.le_refl _) ?_; intro w2 h2 hb2; have HF := Lib.hid (Filled.mk (k := 1) ⟨_, h2, fun j hj => (by obtain rfl : j = 0 := (by omega); simp)⟩ hb2); clear h2 hb2))
  go_loopw [8] (fun i wr => ∃ k : Nat, 1 ≤ k ∧ k ≤ N ∧ i = .int .i64 k ∧ Filled w wr N k) (fun i _ => N - (intOf i).toNat)
  case atStart => exact ⟨1, Nat.le_refl _, by omega, rfl, HF.out⟩
  case round =>
    obtain ⟨k, hk1, hk, rfl, hrel⟩ := hrel
    obtain ⟨⟨f, hW, hF⟩, hB⟩ := hrel
    have HW1 := Lib.hid hW
    have HF1 := Lib.hid hF
    have HB1 := Lib.hid hB
    clear hW hF hB
    by_cases hlt : k < N
    · have hne : ¬ N = k := by omega
      go_wp2_with fail
      go_region_law (refine step_copy_ways rfl (.tmp 41) (.tmp 44) 252 252 rfl 198 Tryz.underlying252 sizeWay w.heap.size (k * 3) (N - k) (N - k) w.heap.size 0 k N N N k 0 (min k (N - k)) f f (by simp [Act.eval, Act.put]) (by simp [Act.eval, Act.put]) rfl rfl rfl (HW1.out.mono (bDrew (Below.refl _ _))) (HW1.out.mono (bDrew (Below.refl _ _))) (by omega) (by omega) w (bDrew HB1.out) (Nat.le_refl _) ?_; intro w2 h2 hb2)
      have e1 : IntKind.i64.wrap ((k : Int) + ((min k (N - k) : Nat) : Int)) = ((k + min k (N - k) : Nat) : Int) := (IntWalk.i64_in _ (by omega)).trans (by omega)
      simp only [e1]
      go_simp
      go_roundw
      case rel => refine ⟨_, _, _, _, _, _, _, _, _, _, _, _, _, _, ?_, rfl⟩; exact ⟨k + min k (N - k), by omega, by omega, by go_num, filled_go HF1.out (Nat.min_le_left _ _) h2.out hb2.out⟩
      case measure => simp [intOf]; omega
    · obtain rfl : k = N := by omega
      go_wp2_with fail
      go_ret
      exact ⟨w.heap.size, k, rfl, Nat.le_refl _, HW1.out.congr HF1.out, HB1.out⟩
end Go.Proofs.YthnojgdckkdcgaaGreatDoor


namespace Go.Proofs.YthnojgdckkdcgaaGreatDoor
open Go.RowKit Go.Sort
/-- one ring at the depth d, ahead of a way -/
def Sh.wayTo (S : Sh) (x : Way) (d : Nat) : Way := ⟨x.rings + 1, x.pence + S.ringc d, d⟩
/-- a place for the next ring looked at -/
def Sh.look (S : Sh) (lt : Way → Way → Bool) (prev : Nat → Way) (cur : Way) (d : Nat) : Way :=
  if prev d = noWay ∨ S.restsB d = false then cur else if cur = noWay ∨ lt (S.wayTo (prev d) d) cur = true then S.wayTo (prev d) d else cur
/-- m places looked at from d + 1 on -/
def Sh.lookTo (S : Sh) (lt : Way → Way → Bool) (prev : Nat → Way) (d : Nat) : Nat → Way
  | 0 => prev d
  | m + 1 => S.look lt prev (S.lookTo lt prev d m) (d + 1 + m)
def Sh.moreWays (S : Sh) (lt : Way → Way → Bool) (prev : Nat → Way) (d : Nat) : Way := if d < S.nf then S.lookTo lt prev d (S.falls d - d) else prev d
def Sh.waysOf (S : Sh) (lt : Way → Way → Bool) : Nat → Nat → Way
  | 0 => fun d => if d = S.nf then ⟨0, 0, 0⟩ else noWay
  | k + 1 => S.moreWays lt (S.waysOf lt k)
structure Way.In (x : Way) (k : Int) : Prop where
  r0 : -1 ≤ x.rings
  r1 : x.rings ≤ k
  p0 : 0 ≤ x.pence
  p1 : x.pence ≤ 207 * k
  n0 : 0 ≤ x.next
  n1 : x.next ≤ 12
theorem Way.In.up {x : Way} {k l : Int} (h : x.In k) (hl : k ≤ l) : x.In l := ⟨h.r0, by have := h.r1; omega, h.p0, by have := h.p1; omega, h.n0, h.n1⟩
theorem noWay_in {k : Int} (h : 0 ≤ k) : noWay.In k := ⟨by simp [noWay], by simp [noWay]; omega, by simp [noWay], by simp [noWay]; omega, by simp [noWay], by simp [noWay]⟩
theorem Way.In.to {S : Sh} {x : Way} {k : Int} (h : x.In k) {d : Nat} (hd : d ≤ 12) (h0 : 0 ≤ S.ringc d) (h1 : S.ringc d ≤ 207) : (S.wayTo x d).In (k + 1) := by
  obtain ⟨r0, r1, p0, p1, n0, n1⟩ := h
  refine ⟨?_, ?_, ?_, ?_, ?_, ?_⟩ <;> simp only [Sh.wayTo] <;> omega
theorem look_in {S : Sh} {lt : Way → Way → Bool} {prev : Nat → Way} {cur : Way} {d : Nat} {k : Int} (hc : cur.In (k + 1)) (hp : (prev d).In k) (hd : d ≤ 12) (hr : S.restsB d = true → 0 ≤ S.ringc d ∧ S.ringc d ≤ 207) : (S.look lt prev cur d).In (k + 1) := by
  unfold Sh.look
  split
  · exact hc
  · rename_i h
    have hr' : S.restsB d = true := by
      cases e : S.restsB d
      · exact absurd (.inr e) h
      · rfl
    split
    · exact hp.to hd (hr hr').1 (hr hr').2
    · exact hc
end Go.Proofs.YthnojgdckkdcgaaGreatDoor


namespace Go.Proofs.YthnojgdckkdcgaaGreatDoor
open Go.RowKit Go.Sort
theorem ring_of_rests {S : Sh} (ok : S.Ok) {d : Nat} (h1 : 1 ≤ d) (hd : d ≤ S.nf) : S.restsB d = true → 0 ≤ S.ringc d ∧ S.ringc d ≤ 207 := fun h => ring_nn ok h1 hd h
theorem lookTo_in {S : Sh} (ok : S.Ok) {lt : Way → Way → Bool} {prev : Nat → Way} {k : Int} (hp : ∀ d, d ≤ S.nf → (prev d).In k) {d : Nat} : ∀ m, d + m ≤ S.nf → (S.lookTo lt prev d m).In (k + 1)
  | 0, h => (hp d (by omega)).up (by omega)
  | m + 1, h => by
    have hnf := ok.nf
    exact look_in (lookTo_in ok hp m (by omega)) (hp _ (by omega)) (by omega) (ring_of_rests ok (by omega) (by omega))
theorem moreWays_in {S : Sh} (ok : S.Ok) {lt : Way → Way → Bool} {prev : Nat → Way} {k : Int} (hp : ∀ d, d ≤ S.nf → (prev d).In k) : ∀ d, d ≤ S.nf → (S.moreWays lt prev d).In (k + 1) := by
  intro d hd
  have := S.falls_bd hd
  unfold Sh.moreWays
  split
  · exact lookTo_in ok hp _ (by omega)
  · exact (hp d hd).up (by omega)
theorem waysOf_in {S : Sh} (ok : S.Ok) (lt : Way → Way → Bool) : ∀ k d, d ≤ S.nf → (S.waysOf lt k d).In k
  | 0, d, hd => by
    unfold Sh.waysOf
    split
    · exact ⟨by simp, by simp, by simp, by simp, by simp, by simp⟩
    · exact noWay_in (by simp)
  | k + 1, d, hd => by
    have := moreWays_in ok (lt := lt) (waysOf_in ok lt k) d hd
    simpa [Sh.waysOf] using this
/-- what ways hands back -/
def Wayed (w w' : World) (n : Nat) (f : Nat → Way) (e : Ending) : Prop :=
  ∃ g' c', e = .returned (.slice (some ⟨g', 0, none⟩) n c') ∧ w.heap.size ≤ g' ∧ WaysAt w' g' n f ∧ Below w.heap.size w w'
/-- whether two ways are equal, number by number -/
def sameWay (a b c a' b' c' : Int) : Bool := decide (a = a' ∧ b = b' ∧ c = c')
theorem sameWay_t (X : Way) (h : X = noWay) : sameWay X.rings X.pence X.next (-1) 0 0 = true := by subst h; rfl
theorem sameWay_f (X : Way) (h : X ≠ noWay) : sameWay X.rings X.pence X.next (-1) 0 0 = false := by
  unfold sameWay
  rw [decide_eq_false_iff_not]
  rintro ⟨h1, h2, h3⟩
  refine h ?_
  cases X
  simp only at h1 h2 h3
  subst h1 h2 h3
  rfl
theorem eqlWay (w : World) (a b c a' b' c' : Int) : (binOp .eql 198 (.agg #[.int .i64 a, .int .i64 b, .int .i64 c]) (.agg #[.int .i64 a', .int .i64 b', .int .i64 c'])).run Tryz.prog w = .ok (.bool (sameWay a b c a' b' c')) w := by
  by_cases h1 : a = a'
  · by_cases h2 : b = b'
    · by_cases h3 : c = c'
      · subst h1 h2 h3; simp [go_sem, sameWay]
      · subst h1 h2; have : (c == c') = false := by simp [h3]
        simp [go_sem, sameWay, h3, this]
    · subst h1; have : (b == b') = false := by simp [h2]
      simp [go_sem, sameWay, h2, this]
  · have : (a == a') = false := by simp [h1]
    simp [go_sem, sameWay, h1, this]
attribute [go_sem ↓] eqlWay
theorem look_skip {S : Sh} {lt : Way → Way → Bool} {prev : Nat → Way} {cur : Way} {d : Nat} (h : prev d = noWay ∨ S.restsB d = false) : S.look lt prev cur d = cur := by unfold Sh.look; rw [if_pos h]
end Go.Proofs.YthnojgdckkdcgaaGreatDoor


