/- A region that draws its order and in which, beside calm operations, a new variable is made and filled. -/
import Derived.Test.YtbbnpneabmldnaaDoorRegion
namespace Go.Proofs.YtbbnpneabmldnaaDoor
open Go.RowKit Go.Sort
section
variable {P : Program} {ops : Array Oper} {md : Region.Mode}
theorem frameOf_wrote {V : Nat → Value} {L : Nat → Bool} {a : Act} {p n : Nat} {d : Tmp} (hp : p < n) (hL : L p = true) (hd : dstOf ops p = some d) (ho : ∀ k, k ≠ p → dstOf ops k ≠ some d) (hs : d < a.tmps.size) : (frameOf ops V L a n).tmps[d]? = some (V p) := by
  rw [frameOf_slot_up (i := p + 1) (fun k hk _ => ho k (by omega)) n hp]
  rw [show frameOf ops V L a (p + 1) = if L p then (frameOf ops V L a p).put (dstOf ops p) (V p) else frameOf ops V L a p from rfl, if_pos hL, hd]
  simp [Act.put, frameOf_size, hs]
theorem frameOf_idle {V V' : Nat → Value} {L M : Nat → Bool} {a : Act} : ∀ k, (∀ j, j < k → (L j = M j ∧ (L j = true → V j = V' j)) ∨ dstOf ops j = none) → frameOf ops V L a k = frameOf ops V' M a k
  | 0, _ => rfl
  | k + 1, h => by
    have ih := frameOf_idle (a := a) k (fun j hj => h j (by omega))
    unfold frameOf
    rw [ih]
    rcases h k (by omega) with ⟨h1, h2⟩ | h1
    · rw [← h1]
      split
      · rename_i h3; rw [h2 h3]
      · rfl
    · rw [h1]; simp [Act.put]
theorem bSetRow {w x : World} (h : Below w.heap.size w x) {b : Nat} (hb : w.heap.size ≤ b) (cs : Array Value) : Below w.heap.size w (x.setRow b cs) :=
  ⟨h.os, h.tape, h.output, by simpa [World.setRow] using h.size, fun k hk => (setRow_other x b k cs (by omega)).trans (h.block k hk)⟩
def newB (md : Region.Mode) (ops : Array Oper) (p q : Nat) (d tx : Tmp) : Bool :=
  orderedB md ops && decide (p < ops.size) && decide (q < ops.size) && dstOf ops p == some d && dstOf ops q == none && waits md ops q p && !(tx == d) && !(p == q) &&
  ((List.range ops.size).all fun i => (i == q || !looksB ops i d) && (i == p || !(dstOf ops i == some d)) && (!(dstOf ops i == some tx) || waits md ops q i))
theorem wp_region_new {rid : Nat} {Q : Exit → Act → World → Prop} {a : Act} {w : World} {l : List Oper} (p q : Nat) (d tx : Tmp) (T : TypeId) (z : Array Value) (hm : P.follows .mixedOrders = true) (hB : newB .any l.toArray p q d tx = true)
    {op oq : Oper} (hop : l[p]? = some op) (hop2 : op.op = .alloc T) (hop3 : op.guard = none) (hoq : l[q]? = some oq) (hoq2 : oq.op = .store T (.tmp d) (.tmp tx)) (hoq3 : oq.guard = none)
    (hz : ∀ w, (zeroValue T).run P w = .ok (.agg z) w) (hi : (P.info? T).map (·.size) = some z.size) (hd : d < a.tmps.size)
    (h : wpCalm P l.toArray w (fun k => k == p || k == q) (fun a' => ∃ cs : Array Value, a'.eval (.tmp tx) = .agg cs ∧ cs.size = z.size ∧ cs.all (·.oneCell') = true ∧ ∀ b w', Below w.heap.size w w' → w.heap.size ≤ b → b < w'.heap.size → w'.heap[b]? = some (.cells cs T (0, 0)) →
      Q .normal (a'.put (some d) (.pointer (some ⟨b, 0, none⟩))) w') 0 l a) : (Code.region rid l.toArray true).wp P Q a w := by
  unfold newB at hB
  simp only [Bool.and_eq_true, decide_eq_true_eq, List.all_eq_true, List.mem_range, beq_iff_eq, Bool.not_eq_true', beq_eq_false_iff_ne, Bool.or_eq_true] at hB
  obtain ⟨⟨⟨⟨⟨⟨⟨⟨hord, hpn⟩, hqn⟩, hdp⟩, hdq⟩, hqp⟩, htd⟩, hpq⟩, hall⟩ := hB
  have H := ordered_of hord
  have hop' : l.toArray[p]? = some op := by simpa using hop
  have hoq' : l.toArray[q]? = some oq := by simpa using hoq
  have hopd : op.dst = some d := by simpa [dstOf, hop'] using hdp
  have hoqd : oq.dst = none := by simpa [dstOf, hoq'] using hdq
  have honly : ∀ k, k ≠ p → dstOf l.toArray k ≠ some d := fun k hk hd' => by
    have hkn : k < l.toArray.size := by
      simp only [dstOf] at hd'
      rcases Nat.lt_or_ge k l.toArray.size with h' | h'
      · exact h'
      · simp [Array.getElem?_eq_none h'] at hd'
    rcases (hall k hkn).1.2 with h1 | h1
    · exact hk h1
    · exact h1 hd'
  obtain ⟨V, _, hval, cs, hcs1, hcs2, hcs3, hQ⟩ := wpCalm_values a l 0 (fun _ => undef) (fun j => by simp) h
  have hlen : 0 + l.length = l.toArray.size := by simp
  rw [hlen] at hcs1 hQ
  let W : Nat → Nat → Value := fun b k => if k = p then .pointer (some ⟨b, 0, none⟩) else V k
  have hWV : ∀ b k, k ≠ p → W b k = V k := fun b k hk => if_neg hk
  have hWp : ∀ b, W b p = .pointer (some ⟨b, 0, none⟩) := fun b => if_pos rfl
  refine wp_region_any hm ?_
  refine wpAny_inv (fun listed a' w' => ∃ b, a' = frameOf l.toArray (W b) (fun k => listed.getD k false) a l.toArray.size ∧ Below w.heap.size w w' ∧
    (listed.getD p false = true → w.heap.size ≤ b ∧ w'.heap[b]? = some (.cells (if listed.getD q false then cs else z) T (0, 0)))) ?_ ?_ _ _ _ _ (left_le _ _) Shut.none ⟨0, ?_, (Below.refl _ _).drew, fun hn => ?_⟩
  · intro listed a' w' i hs ⟨b, he, hb, hblk⟩ hr
    subst he
    obtain ⟨hun, oi, hoi, _⟩ := mem_ready.1 hr
    have hi' : i < l.toArray.size := (Array.getElem?_eq_some_iff.1 hoi).1
    have hil : i < listed.size := by rw [hs.size]; exact hi'
    have hunf := listed_both hun
    by_cases hip : i = p
    · subst hip
      obtain rfl : op = oi := Option.some.inj (hop'.symm.trans hoi)
      have hq0 : listed.getD q false = false := by
        cases e : listed.getD q false with
        | false => rfl
        | true => have := hs.shut q i e hqp; rw [hunf] at this; cases this
      unfold Go.wpOp
      simp only [hoi, Region.wanted, hop3, if_true]
      refine .inl ?_
      unfold Oper.wp execOp
      simp only [hop2, Instr.alloc, Sem.run_bind, hz, Result.andThen_ok]
      refine ⟨w'.heap.size, ?_, bAlloc hb (.cells z T), fun _ => ⟨hb.size, ?_⟩⟩
      · rw [H.frame_put hs hi' hun, hdp, hWp, hopd]
        rw [show frameOf l.toArray (W w'.heap.size) (fun k => listed.getD k false) a l.toArray.size = frameOf l.toArray (W b) (fun k => listed.getD k false) a l.toArray.size from
          frameOf_congr _ (fun j _ => ⟨rfl, fun hj => by rw [hWV _ j (fun e => by subst e; rw [hunf] at hj; cases hj), hWV _ j (fun e => by subst e; rw [hunf] at hj; cases hj)]⟩)]
      · rw [getD_set_ne false hpq, hq0]
        exact heap_alloc_new w' _
    · have hsetp : (listed.setIfInBounds i true).getD p false = listed.getD p false := getD_set_ne false hip
      by_cases hiq : i = q
      · subst hiq
        obtain rfl : oq = oi := Option.some.inj (hoq'.symm.trans hoi)
        have hpl : listed.getD p false = true := waits_listed hr hqp
        obtain ⟨hbb, hblk⟩ := hblk hpl
        rw [hunf] at hblk
        have e1 : (frameOf l.toArray (W b) (fun k => listed.getD k false) a l.toArray.size).eval (.tmp d) = .pointer (some ⟨b, 0, none⟩) := by
          have := frameOf_wrote (V := W b) (L := fun k => listed.getD k false) (a := a) hpn hpl hdp honly hd
          rw [hWp] at this
          show Array.getD _ d undef = _
          rw [Array.getD_eq_getD_getElem?, this]; rfl
        have e2 : (frameOf l.toArray (W b) (fun k => listed.getD k false) a l.toArray.size).eval (.tmp tx) = .agg cs := by
          rw [← hcs1]
          refine eval_of_slots fun t ht => ?_
          obtain rfl : tx = t := by injection ht
          refine frameOf_slot (i := l.toArray.size) (fun k hk hdk => ?_) _ (Nat.le_refl _)
          have hw : waits .any l.toArray i k = true := by
            rcases (hall k hk).2 with h1 | h1
            · exact absurd hdk h1
            · exact h1
          have hkp : k ≠ p := fun e => by subst e; rw [hdp] at hdk; exact htd (Option.some.inj hdk).symm
          have hkq : k ≠ i := fun e => by subst e; rw [hdq] at hdk; cases hdk
          exact ⟨waits_listed hr hw, by simp [hkp, hkq], hWV b k hkp⟩
        unfold Go.wpOp
        simp only [hoi, Region.wanted, hoq3, if_true]
        refine .inl (wp_store_row T (.tmp d) (.tmp tx) hoq2 b cs e1 e2 T z hblk (by rw [hcs2]; exact hi) hcs2.symm hcs3 ?_)
        refine ⟨b, ?_, bSetRow hb hbb cs, fun _ => ⟨hbb, ?_⟩⟩
        · rw [H.frame_put hs hi' hun, hdq, hoqd]; rfl
        · rw [set_same hil]
          exact setRow_heap w' b z cs T _ hblk
      · have hsk : (i == p || i == q) = false := by simp [hip, hiq]
        have hsetq : (listed.setIfInBounds i true).getD q false = listed.getD q false := getD_set_ne false hiq
        refine CalmAt.wpOp hoi (fun cs b => Region.noSelect_spec H.sel i oi cs b hoi) (hval i oi (Nat.zero_le _) (by simpa using hi') hoi hsk) hb (H.sees hs hoi hr (fun k hk hk2 d' hd' => ?_) (fun k hk => hWV b k (fun e => by subst e; simp at hk))) (fun w'' hb' => ⟨b, ?_, bTrans hb hb', fun hpl => ?_⟩)
        · have hk2' : k = p ∨ k = q := by
            simp only [Bool.not_eq_false', Bool.or_eq_true, beq_iff_eq] at hk2; exact hk2
          rcases hk2' with rfl | rfl
          · obtain rfl : d = d' := Option.some.inj (hdp.symm.trans hd')
            rcases (hall i hi').1.1 with h1 | h1
            · exact absurd h1 hiq
            · exact h1
          · rw [hdq] at hd'; cases hd'
        · have e1 : dstOf l.toArray i = oi.dst := by simp [dstOf, hoi]
          rw [H.frame_put hs hi' hun, e1, hWV b i hip]
        · rw [hsetp] at hpl
          obtain ⟨hbb, hblk⟩ := hblk hpl
          rw [hsetq]
          exact ⟨hbb, (hb'.block b (Array.getElem?_eq_some_iff.1 hblk).1).trans hblk⟩
  · intro listed a' w' hs ⟨b, he, hb, hblk⟩ hr
    have hall' := H.all hs hr
    obtain ⟨hbb, hblk⟩ := hblk (hall' p hpn)
    rw [hall' q hqn, if_pos rfl] at hblk
    have := hQ b w' hb hbb (Array.getElem?_eq_some_iff.1 hblk).1 hblk
    rw [he]
    refine Eq.mp ?_ this
    congr 1
    rw [show frameOf l.toArray (W b) (fun k => listed.getD k false) a l.toArray.size = frameOf l.toArray (W b) (fun _ => true) a l.toArray.size from frameOf_congr _ (fun j hj => ⟨hall' j hj, fun _ => rfl⟩)]
    rw [frameOf_put (L := fun k => !(k == p)) (M := fun _ => true) (i := p) hpn (by simp) rfl (fun k hk => by simp [hk]) (fun k d' hk _ hd' => by
      obtain rfl : d = d' := Option.some.inj (hdp.symm.trans hd')
      exact honly k (by omega)), hdp, hWp]
    congr 1
    refine frameOf_idle _ (fun j hj => ?_)
    by_cases hjq : j = q
    · subst hjq; exact .inr hdq
    · refine .inl ⟨by simp [hjq], fun hj' => (hWV b j (fun e => by subst e; simp at hj')).symm⟩
  · symm
    have : ∀ k, frameOf l.toArray (W 0) (fun k => (Array.replicate l.toArray.size false).getD k false) a k = a := fun k => by
      induction k with
      | zero => rfl
      | succ k ih => rw [frameOf, ih, if_neg]; rcases Nat.lt_or_ge k l.length with h' | h' <;> simp [h']
    exact this _
  · have hpn' : p < l.length := by simpa using hpn
    simp [hpn'] at hn
end
end Go.Proofs.YtbbnpneabmldnaaDoor
