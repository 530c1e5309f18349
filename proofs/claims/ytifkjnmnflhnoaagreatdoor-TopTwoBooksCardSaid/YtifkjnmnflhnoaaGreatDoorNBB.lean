/- Parts joined: what all claims of this seat need. -/
import Derived.Test.YtifkjnmnflhnoaaGreatDoorNBA
set_option linter.unusedSimpArgs false
set_option linter.unusedVariables false
namespace Go.Proofs.YtifkjnmnflhnoaaGreatDoor
open Go.RowKit Go.Sort
section
variable {P : Program} {ops : Array Oper} {md : Region.Mode}
/-- n operations told by shapes; one (n) that waits for all of these; then some, up to m, that look at nothing of the region's; what comes behind waits for all -/
def pinB (md : Region.Mode) (ops : Array Oper) (n m : Nat) : Bool :=
  orderedB md ops && decide (n < m) && decide (m ≤ ops.size) && (List.range ops.size).all fun i =>
    decide (i < n) || (i == n && (List.range n).all fun j => reach md ops 6 n j) || (decide (n < i) && decide (i < m) && (List.range i).all fun k => match dstOf ops k with | some d => !looksB ops i d | none => true) || (decide (m ≤ i) && (List.range i).all fun j => reach md ops 6 i j)
def putF : List Oper → List Value → Act → Act
  | _, [], a => a
  | [], _ :: _, a => a
  | o :: l, c :: cs, a => putF l cs (a.put o.dst c)
theorem frameOf_putF {V : Nat → Value} {a : Act} : ∀ (fs : List Value) (l : List Oper) (k : Nat), (∀ j, l[j]? = ops[k + j]?) → (∀ j c, fs[j]? = some c → V (k + j) = c) → k + fs.length ≤ ops.size → frameOf ops V (fun _ => true) a (k + fs.length) = putF l fs (frameOf ops V (fun _ => true) a k)
  | [], l, k, _, _, _ => by cases l <;> rfl
  | c :: fs, [], k, hl, _, hk => by
    have h1 := hl 0
    simp only [List.length_cons] at hk
    have : k < ops.size := by omega
    simp [this] at h1
  | c :: fs, o :: l, k, hl, hV, hk => by
    have h0 : ops[k]? = some o := by simpa using (hl 0).symm
    have hc : V k = c := by simpa using hV 0 c rfl
    have e1 : frameOf ops V (fun _ => true) a (k + 1) = (frameOf ops V (fun _ => true) a k).put o.dst c := by
      rw [frameOf, if_pos rfl, hc]; simp [dstOf, h0]
    have ih := frameOf_putF (V := V) (a := a) fs l (k + 1) (fun j => by have := hl (j + 1); simpa [Nat.add_assoc, Nat.add_comm 1 j] using this) (fun j c h => by have := hV (j + 1) c (by simpa using h); simpa [Nat.add_assoc, Nat.add_comm 1 j] using this) (by simp only [List.length_cons] at hk; omega)
    rw [e1] at ih
    rw [show k + (c :: fs).length = k + 1 + fs.length by simp only [List.length_cons]; omega]
    exact ih
theorem frameOf_no {V : Nat → Value} {a : Act} : ∀ k, frameOf ops V (fun _ => false) a k = a
  | 0 => rfl
  | k + 1 => by rw [frameOf, if_neg (by decide)]; exact frameOf_no k
/-- **THE LAW.** -/
theorem wp_region_pin {rid : Nat} {Q : Exit → Act → World → Prop} {a : Act} {w : World} {l : List Oper} (n : Nat) (hs : List Stir) (fs : List Value) {on : Oper} (hm : P.follows .mixedOrders = true) (hB : pinB .any l.toArray n (n + 1 + fs.length) = true) (hn : hs.length = n) (hg : goodAllS hs) (hx : crossAll .any l.toArray w.heap.size hs)
    (hon : l[n]? = some on) (hong : on.guard = none) (hf : ∀ j c, fs[j]? = some c → ∃ o, l[n + 1 + j]? = some o ∧ o.guard = none ∧ ∀ w', (execOp a.eval o).run P w' = .ok (.value c) w')
    (h : wpStir P .any l.toArray w (fun a' w' => Oper.stirAt P on a' w' (fun _ _ => True) (fun w'' v => wpList P l.toArray Q (l.drop (n + 1 + fs.length)) (putF (l.drop (n + 1)) fs (a'.put on.dst v)) w'')) 0 l hs a []) : (Code.region rid l.toArray true).wp P Q a w := by
  obtain ⟨m, hmm⟩ : ∃ m, n + 1 + fs.length = m := ⟨_, rfl⟩
  rw [hmm] at hB h
  unfold pinB at hB
  simp only [Bool.and_eq_true, decide_eq_true_eq, List.all_eq_true, List.mem_range, Bool.or_eq_true, beq_iff_eq] at hB
  obtain ⟨⟨⟨hord, hnm⟩, hml⟩, htail⟩ := hB
  have H := ordered_of hord
  have hsz : l.toArray.size = l.length := by simp
  have honA : l.toArray[n]? = some on := by simpa using hon
  have hpin : ∀ j, j < n → reach .any l.toArray 6 n j = true := fun j hj => by
    rcases htail n (by omega) with ((h1 | h1) | h1) | h1
    · omega
    · exact h1.2 j hj
    · omega
    · omega
  have hflo : ∀ i, n < i → i < m → ∀ k, k < i → ∀ d, dstOf l.toArray k = some d → looksB l.toArray i d = false := fun i h1 h2 k hk d hd => by
    rcases htail i (by omega) with ((h3 | h3) | h3) | h3
    · omega
    · omega
    · have := h3.2 k hk
      rw [hd] at this
      simpa using this
    · omega
  have htl : ∀ i, i < l.toArray.size → m ≤ i → ∀ j, j < i → reach .any l.toArray 6 i j = true := fun i hi h1 j hj => by
    rcases htail i hi with ((h3 | h3) | h3) | h3
    · omega
    · omega
    · omega
    · exact h3.2 j hj
  let VOk : (Nat → Value) → Prop := fun V => (∀ (k : Nat) (h : Stir), hs[k]? = some h → h.sh (V k)) ∧ ∀ j c, fs[j]? = some c → V (n + 1 + j) = c
  have key : ∀ V : Nat → Value, VOk V → _ := fun V hV =>
    wpStir_at (P := P) (md := .any) (ops := l.toArray) (W := w) (Q := fun a' w' => Oper.stirAt P on a' w' (fun _ _ => True) (fun w'' v => wpList P l.toArray Q (l.drop m) (putF (l.drop (n + 1)) fs (a'.put on.dst v)) w'')) (a0 := a) hV.1 hs 0 l (fun j => by simp) (fun j => by simp) (by omega) h
  have hwit : ∃ V : Nat → Value, VOk V := by
    have hx : ∀ k : Nat, ∃ v : Value, (∀ h : Stir, hs[k]? = some h → h.sh v) ∧ ∀ j c, k = n + 1 + j → fs[j]? = some c → v = c := fun k => by
      cases e : hs[k]? with
      | none =>
        by_cases hk : n + 1 ≤ k
        · cases e2 : fs[k - (n + 1)]? with
          | none => exact ⟨undef, (fun h hh => by cases hh), fun j c hj hc => by subst hj; rw [Nat.add_sub_cancel_left] at e2; rw [e2] at hc; cases hc⟩
          | some c => exact ⟨c, (fun h hh => by cases hh), fun j c' hj hc => by subst hj; rw [Nat.add_sub_cancel_left] at e2; rw [e2] at hc; exact Option.some.inj hc⟩
        · exact ⟨undef, (fun h hh => by cases hh), fun j c hj _ => by omega⟩
      | some h =>
        obtain ⟨v, hv⟩ := Stir.some (goodAllS_at hg e)
        have := (List.getElem?_eq_some_iff.1 e).1
        exact ⟨v, (fun h' hh => by injection hh with hh; subst hh; exact hv), fun j c hj _ => by omega⟩
    exact ⟨fun k => (hx k).choose, fun k => (hx k).choose_spec.1, fun j c hc => (hx (n + 1 + j)).choose_spec.2 j c rfl hc⟩
  let IA : Array Bool → Act → World → Prop := fun listed a' w' => (listed.getD n false = false ∧ ∀ j, m ≤ j → listed.getD j false = false) ∧ ∃ V : Nat → Value, VOk V ∧ a' = frameOf l.toArray V (fun k => listed.getD k false) a l.toArray.size ∧ Below w.heap.size w w' ∧ ∀ (j : Nat) (h : Stir), hs[j]? = some h → listed.getD j false = true → h.r w' (V j)
  let IB : Array Bool → Act → World → Prop := fun listed a' w' => ((∀ j, j ≤ n → listed.getD j false = true) ∧ ∀ j, m ≤ j → listed.getD j false = false) ∧ ∃ V : Nat → Value, (∀ j c, fs[j]? = some c → V (n + 1 + j) = c) ∧ a' = frameOf l.toArray V (fun k => listed.getD k false) a l.toArray.size ∧ wpList P l.toArray Q (l.drop m) (frameOf l.toArray V (fun _ => true) a m) w'
  let IC : Array Bool → Act → World → Prop := fun listed a' w' => ∃ q, m ≤ q ∧ (∀ j, j < q → listed.getD j false = true) ∧ (∀ j, q ≤ j → listed.getD j false = false) ∧ wpList P l.toArray Q (l.drop q) a' w'
  have frameM : ∀ (V : Nat → Value) (listed : Array Bool), (∀ j, j < m → listed.getD j false = true) → (∀ j, m ≤ j → listed.getD j false = false) → frameOf l.toArray V (fun k => listed.getD k false) a l.toArray.size = frameOf l.toArray V (fun _ => true) a m := by
    intro V listed hall hno
    have e1 : frameOf l.toArray V (fun k => listed.getD k false) a m = frameOf l.toArray V (fun _ => true) a m := frameOf_congr m fun j hj => ⟨hall j hj, fun _ => rfl⟩
    have e2 : ∀ q, m ≤ q → frameOf l.toArray V (fun k => listed.getD k false) a q = frameOf l.toArray V (fun k => listed.getD k false) a m := by
      intro q
      induction q with
      | zero => intro hm'; obtain rfl : m = 0 := by omega
                rfl
      | succ q ih =>
        intro hm'
        rcases Nat.eq_or_lt_of_le hm' with e | e
        · rw [e]
        · rw [frameOf, ih (by omega), if_neg]; rw [hno q (by omega)]; exact Bool.false_ne_true
    rw [e2 _ hml, e1]
  refine wp_region_any hm ?_
  refine wpAny_inv (fun listed a' w' => IA listed a' w' ∨ IB listed a' w' ∨ IC listed a' w') ?_ ?_ _ _ _ _ (left_le _ _) Shut.none (.inl ⟨⟨?_, fun j _ => ?_⟩, ?_⟩)
  · intro listed a' w' i hsh hI hr
    obtain ⟨hun, oi, hoi, _⟩ := mem_ready.1 hr
    have hi : i < l.toArray.size := (Array.getElem?_eq_some_iff.1 hoi).1
    have hil : i < listed.size := by rw [hsh.size]; exact hi
    have hunf := listed_both hun
    have hset : (listed.setIfInBounds i true).getD i false = true := set_same hil false
    have hold : ∀ j, j ≠ i → (listed.setIfInBounds i true).getD j false = listed.getD j false := fun j hj => getD_set_ne false (by omega)
    have hdst : dstOf l.toArray i = oi.dst := by simp [dstOf, hoi]
    have hput : ∀ (V : Nat → Value) v, (frameOf l.toArray V (fun k => listed.getD k false) a l.toArray.size).put oi.dst v = frameOf l.toArray (fun k => if k = i then v else V k) (fun k => (listed.setIfInBounds i true).getD k false) a l.toArray.size := fun V v => by
      rw [H.frame_put hsh hi hun, hdst, if_pos rfl]
      congr 1
      exact frameOf_congr _ fun j _ => ⟨rfl, fun hj => by rw [if_neg (fun e => by subst e; rw [hunf] at hj; cases hj)]⟩
    -- a copy of what stood
    have hcopy : ∀ (V : Nat → Value) (K : Act → World → Prop), n < i → i < m → (∀ j c, fs[j]? = some c → V (n + 1 + j) = c) → a' = frameOf l.toArray V (fun k => listed.getD k false) a l.toArray.size → K (frameOf l.toArray V (fun k => (listed.setIfInBounds i true).getD k false) a l.toArray.size) w' → wpOp P l.toArray Q i K a' w' := by
      intro V K h1 h2 hV ha hK
      obtain ⟨c, hc⟩ : ∃ c, fs[i - (n + 1)]? = some c := ⟨_, List.getElem?_eq_getElem (by omega)⟩
      obtain ⟨o, ho, hog, hrun⟩ := hf _ c hc
      have hVi := hV _ c hc
      rw [show n + 1 + (i - (n + 1)) = i by omega] at ho hVi
      obtain rfl : oi = o := Option.some.inj (hoi.symm.trans (by simpa using ho))
      have hsee := H.sees (V := V) (V' := V) (M := fun _ => false) (a := a) hsh hoi hr (fun k hk _ d hd => hflo i h1 h2 k hk d hd) (fun _ h => by cases h)
      rw [frameOf_no] at hsee
      unfold Go.wpOp
      simp only [hoi]
      unfold Region.wanted
      rw [hog, if_pos rfl]
      refine .inl ?_
      unfold Oper.wp
      rw [ha, exec_of_slots (ops := l.toArray) (fun cs b => Region.noSelect_spec H.sel i oi cs b hoi) hsee, hrun w']
      simp only [Oper.upon]
      have e := hput V c
      rw [show (fun k => if k = i then c else V k) = V from funext fun k => by split <;> simp_all] at e
      rw [e]
      exact hK
    have tailstep : ∀ q, m ≤ q → (∀ j, j < q → listed.getD j false = true) → (∀ j, q ≤ j → listed.getD j false = false) → m ≤ i → wpList P l.toArray Q (l.drop q) a' w' →
        wpOp P l.toArray Q i (fun a'' w'' => IA (listed.setIfInBounds i true) a'' w'' ∨ IB (listed.setIfInBounds i true) a'' w'' ∨ IC (listed.setIfInBounds i true) a'' w'') a' w' := by
      intro q hnq hall hno hni hw
      have him : i = q := by
        rcases Nat.lt_trichotomy i q with h' | h' | h'
        · rw [hall i h'] at hunf; cases hunf
        · exact h'
        · have h1 := htl i hi hni q h'
          have h2 := reach_listed hsh 6 i q (fun k hk => waits_listed hr hk) h1
          rw [hno q (Nat.le_refl _)] at h2; cases h2
      subst him
      have hli : l[i]? = some oi := by simpa using hoi
      have hdrop : l.drop i = oi :: l.drop (i + 1) := by
        have hlt : i < l.length := by omega
        rw [List.drop_eq_getElem_cons hlt]
        congr 1
        rw [List.getElem?_eq_getElem hlt] at hli
        exact Option.some.inj hli
      rw [hdrop] at hw
      simp only [wpList] at hw
      have hall' : ∀ j, j < i + 1 → (listed.setIfInBounds i true).getD j false = true := fun j hj => by
        rcases Nat.lt_or_ge j i with h' | h'
        · rw [hold j (by omega)]; exact hall j h'
        · obtain rfl : j = i := by omega
          exact hset
      have hno' : ∀ j, i + 1 ≤ j → (listed.setIfInBounds i true).getD j false = false := fun j hj => by
        rw [hold j (by omega)]; exact hno j (by omega)
      unfold Go.wpOp
      simp only [hoi]
      split
      · rename_i hwt
        rw [if_pos hwt] at hw
        exact hw.imp (Oper.wp_mono fun a'' w'' h'' => .inr (.inr ⟨i + 1, by omega, hall', hno', h''⟩)) (fun h => h)
      · rename_i hwt
        rw [if_neg hwt] at hw
        exact .inr (.inr ⟨i + 1, by omega, hall', hno', hw⟩)
    rcases hI with ⟨⟨hnn, hno⟩, V, hV, rfl, hb, hrr⟩ | ⟨⟨hall, hno⟩, V, hV, rfl, hw⟩ | ⟨q, hnq, hall, hno, hw⟩
    · rcases Nat.lt_trichotomy i n with hin | hin | hin
      · -- an operation of the first part
        have hx' : ∃ h, hs[i]? = some h := ⟨hs[i]'(by omega), by simp⟩
        obtain ⟨hh, hhi⟩ := hx'
        obtain ⟨o', ho', hask⟩ := (key V hV).1 i hh (Nat.zero_le _) hhi
        obtain rfl : oi = o' := Option.some.inj (hoi.symm.trans ho')
        have hsee := H.sees (V := V) (V' := V) (M := fun _ => true) (a := a) hsh hoi hr (fun k _ hk => by cases hk) (fun _ _ => rfl)
        have hnext : ∀ v w'', Below w.heap.size w' w'' → (∀ (j : Nat) (h : Stir), hs[j]? = some h → j ≠ i → listed.getD j false = true → h.r w' (V j) → h.r w'' (V j)) → hh.r w'' v → IA (listed.setIfInBounds i true) ((frameOf l.toArray V (fun k => listed.getD k false) a l.toArray.size).put oi.dst v) w'' := by
          intro v w'' hb' hkeep hrv
          refine ⟨⟨by rw [hold n (by omega)]; exact hnn, fun j hj => by rw [hold j (by omega)]; exact hno j hj⟩, fun k => if k = i then v else V k, ⟨fun k h hk => ?_, fun j c hc => ?_⟩, hput V v, hb.trans hb', fun j h hjh hj => ?_⟩
          · by_cases e : k = i
            · subst e
              obtain rfl : hh = h := Option.some.inj (hhi.symm.trans hk)
              simp only [if_true]
              exact Stir.r_sh hrv
            · simp only [if_neg e]; exact hV.1 k h hk
          · simp only [if_neg (show ¬ n + 1 + j = i by omega)]
            exact hV.2 j c hc
          · by_cases e : j = i
            · subst e
              obtain rfl : hh = h := Option.some.inj (hhi.symm.trans hjh)
              simp only [if_true]
              exact hrv
            · simp only [if_neg e]
              rw [hold j e] at hj
              exact hkeep j h hjh e hj (hrr j h hjh hj)
        unfold Go.wpOp
        simp only [hoi]
        rw [wanted_of_slots hsee]
        unfold Oper.stirAsk at hask
        by_cases hwt : Region.wanted oi (yielded l.toArray (frameOf l.toArray V (fun _ => true) a i).tmps) = true
        · rw [if_pos hwt] at hask
          rw [if_pos hwt]
          obtain ⟨p, rfl⟩ := regrown_of_below hb
          have h1 := hask p (depsS_all _ fun j h hj hjh hw => hrr j h hjh (waits_listed hr hw))
          have hst : ∀ v w'', hh.K (grow (redrawn w p.d) p.os) w'' → hh.r w'' v → _ := fun v w'' hk hrv => hnext v w'' (by
            cases hh with
            | const c => exact (show Below _ _ _ from hk).mono hb.size
            | held s r => exact (show Below _ _ _ from hk).mono hb.size
            | stir s r K => exact (hx i s r K hhi).1 _ _ hb.size hk) (fun j h hjh hji hj hr1 => by
            cases hh with
            | const c => exact Stir.r_mono (goodAllS_at hg hjh) hk hr1
            | held s r => exact Stir.r_mono (goodAllS_at hg hjh) hk hr1
            | stir s r K =>
              rcases (hx i s r K hhi).2 j h hjh hji with h1 | h1
              · have h2 := reach_listed2 hsh 6 j i hj h1
                rw [hunf] at h2
                cases h2
              · exact h1 _ _ _ hk hr1) hrv
          refine .inl (Oper.wp_of_stir ?_ fun v w'' hb' hrv => .inl (hst v w'' hb' hrv))
          unfold Oper.stirAt at h1 ⊢
          rwa [exec_of_slots (ops := l.toArray) (fun cs b => Region.noSelect_spec H.sel i oi cs b hoi) hsee]
        · rw [if_neg hwt] at hask
          rw [if_neg hwt]
          exact .inl (hnext undef w' (Below.refl _ _) (fun j h _ _ _ h1 => h1) (hask _))
      · -- the one
        subst hin
        obtain rfl : oi = on := Option.some.inj (hoi.symm.trans honA)
        have hall : ∀ j, j < i → listed.getD j false = true := fun j hj => reach_listed hsh 6 i j (fun k hk => waits_listed hr hk) (hpin j hj)
        have hsee := H.sees (V := V) (V' := V) (M := fun _ => true) (a := a) hsh hoi hr (fun k _ hk => by cases hk) (fun _ _ => rfl)
        obtain ⟨p, rfl⟩ := regrown_of_below hb
        have h1 := (key V hV).2 p (allS_all _ fun j h hj hjh => hrr j h hjh (hall j (by omega)))
        rw [hn] at h1
        unfold Go.wpOp
        simp only [hoi]
        unfold Region.wanted
        rw [hong, if_pos rfl]
        refine .inl (Oper.wp_of_stir (S := fun _ _ => True) (r := fun w'' v => wpList P l.toArray Q (l.drop m) (putF (l.drop (i + 1)) fs ((frameOf l.toArray V (fun _ => true) a i).put oi.dst v)) w'') ?_ fun v w'' _ hrv => .inr (.inl ?_))
        · unfold Oper.stirAt at h1 ⊢
          rwa [exec_of_slots (ops := l.toArray) (fun cs b => Region.noSelect_spec H.sel i oi cs b hoi) hsee]
        · refine ⟨⟨fun j hj => ?_, fun j hj => by rw [hold j (by omega)]; exact hno j hj⟩, fun k => if k = i then v else V k, fun j c hc => ?_, hput V v, ?_⟩
          · rcases Nat.lt_or_ge j i with h' | h'
            · rw [hold j (by omega)]; exact hall j h'
            · obtain rfl : j = i := by omega
              exact hset
          · simp only [if_neg (show ¬ i + 1 + j = i by omega)]
            exact hV.2 j c hc
          · have e1 : frameOf l.toArray (fun k => if k = i then v else V k) (fun _ => true) a (i + 1) = (frameOf l.toArray V (fun _ => true) a i).put oi.dst v := by
              rw [frameOf, if_pos rfl, if_pos rfl, hdst]
              congr 1
              exact frameOf_congr i fun j hj => ⟨rfl, fun _ => if_neg (by omega)⟩
            have e2 := frameOf_putF (ops := l.toArray) (V := fun k => if k = i then v else V k) (a := a) fs (l.drop (i + 1)) (i + 1) (fun j => by simp) (fun j c hc => by
              simp only [if_neg (show ¬ i + 1 + j = i by omega)]
              exact hV.2 j c hc) (by omega)
            rw [hmm, e1] at e2
            rw [e2]
            exact hrv
      · rcases Nat.lt_or_ge i m with h2 | h2
        · refine hcopy V _ hin h2 hV.2 rfl (.inl ⟨⟨by rw [hold n (by omega)]; exact hnn, fun j hj => by rw [hold j (by omega)]; exact hno j hj⟩, V, hV, rfl, hb, fun j h hjh hj => ?_⟩)
          have hjn := (List.getElem?_eq_some_iff.1 hjh).1
          rw [hold j (by omega)] at hj
          exact hrr j h hjh hj
        · have h3 := reach_listed hsh 6 i n (fun k hk => waits_listed hr hk) (htl i hi h2 n (by omega))
          rw [hnn] at h3
          cases h3
    · rcases Nat.lt_or_ge n i with hin | hin
      · rcases Nat.lt_or_ge i m with h2 | h2
        · refine hcopy V _ hin h2 hV rfl (.inr (.inl ⟨⟨fun j hj => by rw [hold j (by omega)]; exact hall j hj, fun j hj => by rw [hold j (by omega)]; exact hno j hj⟩, V, hV, rfl, hw⟩))
        · have hall2 : ∀ j, j < m → listed.getD j false = true := fun j hj => reach_listed hsh 6 i j (fun k hk => waits_listed hr hk) (htl i hi h2 j (by omega))
          rw [← frameM V listed hall2 hno] at hw
          exact tailstep m (Nat.le_refl _) hall2 hno h2 hw
      · rw [hall i hin] at hunf
        cases hunf
    · have hni : m ≤ i := by
        rcases Nat.lt_or_ge i m with h' | h'
        · rw [hall i (by omega)] at hunf; cases hunf
        · exact h'
      exact tailstep q hnq hall hno hni hw
  · intro listed a' w' hsh hI hr
    have hall := H.all hsh hr
    rcases hI with ⟨⟨hnn, _⟩, _⟩ | ⟨⟨_, hno⟩, V, hV, rfl, hw⟩ | ⟨q, hnq, hall', hno, hw⟩
    · have := hall n (by omega)
      rw [hnn] at this
      cases this
    · have hmm2 : m = l.length := by
        rcases Nat.lt_or_ge m l.length with h' | h'
        · have := hall m (by omega); rw [hno m (Nat.le_refl _)] at this; cases this
        · omega
      rw [frameM V listed (fun j hj => hall j (by omega)) hno]
      rw [List.drop_eq_nil_of_le (by omega)] at hw
      exact hw
    · have hqq : l.length ≤ q := by
        rcases Nat.lt_or_ge q l.length with h' | h'
        · have := hall q (by omega); rw [hno q (Nat.le_refl _)] at this; cases this
        · exact h'
      rw [List.drop_eq_nil_of_le hqq] at hw
      exact hw
  · rcases Nat.lt_or_ge n l.length with h' | h' <;> simp [h']
  · rcases Nat.lt_or_ge j l.length with h' | h' <;> simp [h']
  · obtain ⟨V, hV⟩ := hwit
    refine ⟨V, hV, ?_, (Below.refl _ _).drew, fun j h _ hj => ?_⟩
    · symm
      have : ∀ k, frameOf l.toArray V (fun k => (Array.replicate l.toArray.size false).getD k false) a k = a := fun k => by
        induction k with
        | zero => rfl
        | succ k ih => rw [frameOf, ih, if_neg]; rcases Nat.lt_or_ge k l.length with h' | h' <;> simp [h']
      exact this _
    · rcases Nat.lt_or_ge j l.length with h' | h' <;> simp [h'] at hj
/-- n operations told by shapes; a store (n) that waits for all of these but perhaps one (i0), which looks at nothing of the region's; what comes behind waits for all -/
def tardB (md : Region.Mode) (ops : Array Oper) (n i0 : Nat) : Bool :=
  orderedB md ops && decide (n < ops.size) && decide (i0 < n) && ((List.range n).all fun j => (j == i0) || reach md ops 6 n j) && ((List.range ops.size).all fun k => match dstOf ops k with | some d => !looksB ops i0 d | none => true) && (List.range ops.size).all fun i => decide (i ≤ n) || (List.range i).all fun j => reach md ops 6 i j
theorem wp_region_tardy {rid : Nat} {Q : Exit → Act → World → Prop} {a : Act} {w : World} {l : List Oper} (n i0 : Nat) (hs : List Stir) (c0 : Value) {on o0 : Oper} (hm : P.follows .mixedOrders = true) (hB : tardB .any l.toArray n i0 = true) (hn : hs.length = n) (hg : goodAllS hs) (hx : crossAll .any l.toArray w.heap.size hs)
    (hon : l[n]? = some on) (hond : on.dst = none) (hong : on.guard = none) (ho0 : l[i0]? = some o0) (h0g : o0.guard = none) (hc0 : hs[i0]? = some (.const c0))
    (h : wpStir P .any l.toArray w (fun a' w' => ∃ w'', (execOp a'.eval on).run P w' = .ok .skip w'' ∧ (execOp a.eval o0).run P w'' = .ok (.value c0) w'' ∧ wpList P l.toArray Q (l.drop (n + 1)) a' w'') 0 l hs a []) : (Code.region rid l.toArray true).wp P Q a w := by
  unfold tardB at hB
  simp only [Bool.and_eq_true, decide_eq_true_eq, List.all_eq_true, List.mem_range, Bool.or_eq_true, beq_iff_eq] at hB
  obtain ⟨⟨⟨⟨⟨hord, hnl⟩, hi0⟩, hpin⟩, hflo0⟩, htail⟩ := hB
  have H := ordered_of hord
  have hsz : l.toArray.size = l.length := by simp
  have honA : l.toArray[n]? = some on := by simpa using hon
  have ho0A : l.toArray[i0]? = some o0 := by simpa using ho0
  have hflo : ∀ k d, dstOf l.toArray k = some d → looksB l.toArray i0 d = false := fun k d hd => by
    have hk : k < l.toArray.size := by
      simp only [dstOf] at hd
      rcases Nat.lt_or_ge k l.toArray.size with h' | h'
      · exact h'
      · simp [Array.getElem?_eq_none h'] at hd
    have := hflo0 k hk
    rw [hd] at this
    simpa using this
  have htl : ∀ i, i < l.toArray.size → n + 1 ≤ i → ∀ j, j < i → reach .any l.toArray 6 i j = true := fun i hi h1 j hj => (htail i hi).resolve_left (by omega) j hj
  have key : ∀ V : Nat → Value, (∀ (k : Nat) (h : Stir), hs[k]? = some h → h.sh (V k)) → _ := fun V hV =>
    wpStir_at (P := P) (md := .any) (ops := l.toArray) (W := w) (Q := fun a' w' => ∃ w'', (execOp a'.eval on).run P w' = .ok .skip w'' ∧ (execOp a.eval o0).run P w'' = .ok (.value c0) w'' ∧ wpList P l.toArray Q (l.drop (n + 1)) a' w'') (a0 := a) hV hs 0 l (fun j => by simp) (fun j => by simp) (by omega) h
  have hwit : ∃ V : Nat → Value, ∀ (k : Nat) (h : Stir), hs[k]? = some h → h.sh (V k) := by
    have hx : ∀ k : Nat, ∃ v : Value, ∀ h : Stir, hs[k]? = some h → h.sh v := fun k => by
      cases e : hs[k]? with
      | none => exact ⟨undef, fun h hh => by cases hh⟩
      | some h =>
        obtain ⟨v, hv⟩ := Stir.some (goodAllS_at hg e)
        exact ⟨v, fun h' hh => by injection hh with hh; subst hh; exact hv⟩
    exact ⟨fun k => (hx k).choose, fun k => (hx k).choose_spec⟩
  have hdn : dstOf l.toArray n = none := by simp [dstOf, honA, hond]
  let IA : Array Bool → Act → World → Prop := fun listed a' w' => (∀ j, n ≤ j → listed.getD j false = false) ∧ ∃ V : Nat → Value, (∀ (k : Nat) (h : Stir), hs[k]? = some h → h.sh (V k)) ∧ a' = frameOf l.toArray V (fun k => listed.getD k false) a l.toArray.size ∧ Below w.heap.size w w' ∧ ∀ (j : Nat) (h : Stir), hs[j]? = some h → listed.getD j false = true → h.r w' (V j)
  let IB : Array Bool → Act → World → Prop := fun listed a' w' => ((∀ j, j ≤ n → j ≠ i0 → listed.getD j false = true) ∧ ∀ j, n + 1 ≤ j → listed.getD j false = false) ∧ ∃ V : Nat → Value, V i0 = c0 ∧ a' = frameOf l.toArray V (fun k => listed.getD k false) a l.toArray.size ∧ (execOp a.eval o0).run P w' = .ok (.value c0) w' ∧ wpList P l.toArray Q (l.drop (n + 1)) (frameOf l.toArray V (fun _ => true) a n) w'
  let IC : Array Bool → Act → World → Prop := fun listed a' w' => ∃ q, n + 1 ≤ q ∧ (∀ j, j < q → listed.getD j false = true) ∧ (∀ j, q ≤ j → listed.getD j false = false) ∧ wpList P l.toArray Q (l.drop q) a' w'
  have frameM : ∀ (V : Nat → Value) (listed : Array Bool), (∀ j, j ≤ n → listed.getD j false = true) → (∀ j, n + 1 ≤ j → listed.getD j false = false) → frameOf l.toArray V (fun k => listed.getD k false) a l.toArray.size = frameOf l.toArray V (fun _ => true) a n := by
    intro V listed hall hno
    have e1 : frameOf l.toArray V (fun k => listed.getD k false) a (n + 1) = frameOf l.toArray V (fun _ => true) a n := by
      rw [frameOf, hall n (Nat.le_refl _), if_pos rfl, hdn]
      show frameOf l.toArray V (fun k => listed.getD k false) a n = _
      exact frameOf_congr n fun j hj => ⟨hall j (by omega), fun _ => rfl⟩
    have e2 : ∀ q, n + 1 ≤ q → frameOf l.toArray V (fun k => listed.getD k false) a q = frameOf l.toArray V (fun k => listed.getD k false) a (n + 1) := by
      intro q
      induction q with
      | zero => intro hm'; omega
      | succ q ih =>
        intro hm'
        rcases Nat.eq_or_lt_of_le hm' with e | e
        · rw [e]
        · rw [frameOf, ih (by omega), if_neg]; rw [hno q (by omega)]; exact Bool.false_ne_true
    rw [e2 _ hnl, e1]
  refine wp_region_any hm ?_
  refine wpAny_inv (fun listed a' w' => IA listed a' w' ∨ IB listed a' w' ∨ IC listed a' w') ?_ ?_ _ _ _ _ (left_le _ _) Shut.none (.inl ⟨fun j _ => ?_, ?_⟩)
  · intro listed a' w' i hsh hI hr
    obtain ⟨hun, oi, hoi, _⟩ := mem_ready.1 hr
    have hi : i < l.toArray.size := (Array.getElem?_eq_some_iff.1 hoi).1
    have hil : i < listed.size := by rw [hsh.size]; exact hi
    have hunf := listed_both hun
    have hset : (listed.setIfInBounds i true).getD i false = true := set_same hil false
    have hold : ∀ j, j ≠ i → (listed.setIfInBounds i true).getD j false = listed.getD j false := fun j hj => getD_set_ne false (by omega)
    have hdst : dstOf l.toArray i = oi.dst := by simp [dstOf, hoi]
    have hput : ∀ (V : Nat → Value) v, (frameOf l.toArray V (fun k => listed.getD k false) a l.toArray.size).put oi.dst v = frameOf l.toArray (fun k => if k = i then v else V k) (fun k => (listed.setIfInBounds i true).getD k false) a l.toArray.size := fun V v => by
      rw [H.frame_put hsh hi hun, hdst, if_pos rfl]
      congr 1
      exact frameOf_congr _ fun j _ => ⟨rfl, fun hj => by rw [if_neg (fun e => by subst e; rw [hunf] at hj; cases hj)]⟩
    have tailstep : ∀ q, n + 1 ≤ q → (∀ j, j < q → listed.getD j false = true) → (∀ j, q ≤ j → listed.getD j false = false) → n + 1 ≤ i → wpList P l.toArray Q (l.drop q) a' w' →
        wpOp P l.toArray Q i (fun a'' w'' => IA (listed.setIfInBounds i true) a'' w'' ∨ IB (listed.setIfInBounds i true) a'' w'' ∨ IC (listed.setIfInBounds i true) a'' w'') a' w' := by
      intro q hnq hall hno hni hw
      have him : i = q := by
        rcases Nat.lt_trichotomy i q with h' | h' | h'
        · rw [hall i h'] at hunf; cases hunf
        · exact h'
        · have h1 := htl i hi hni q h'
          have h2 := reach_listed hsh 6 i q (fun k hk => waits_listed hr hk) h1
          rw [hno q (Nat.le_refl _)] at h2; cases h2
      subst him
      have hli : l[i]? = some oi := by simpa using hoi
      have hdrop : l.drop i = oi :: l.drop (i + 1) := by
        have hlt : i < l.length := by omega
        rw [List.drop_eq_getElem_cons hlt]
        congr 1
        rw [List.getElem?_eq_getElem hlt] at hli
        exact Option.some.inj hli
      rw [hdrop] at hw
      simp only [wpList] at hw
      have hall' : ∀ j, j < i + 1 → (listed.setIfInBounds i true).getD j false = true := fun j hj => by
        rcases Nat.lt_or_ge j i with h' | h'
        · rw [hold j (by omega)]; exact hall j h'
        · obtain rfl : j = i := by omega
          exact hset
      have hno' : ∀ j, i + 1 ≤ j → (listed.setIfInBounds i true).getD j false = false := fun j hj => by
        rw [hold j (by omega)]; exact hno j (by omega)
      unfold Go.wpOp
      simp only [hoi]
      split
      · rename_i hwt
        rw [if_pos hwt] at hw
        exact hw.imp (Oper.wp_mono fun a'' w'' h'' => .inr (.inr ⟨i + 1, by omega, hall', hno', h''⟩)) (fun h => h)
      · rename_i hwt
        rw [if_neg hwt] at hw
        exact .inr (.inr ⟨i + 1, by omega, hall', hno', hw⟩)
    rcases hI with ⟨hno, V, hV, rfl, hb, hrr⟩ | ⟨⟨hall, hno⟩, V, hV, rfl, hrun, hw⟩ | ⟨q, hnq, hall, hno, hw⟩
    · rcases Nat.lt_trichotomy i n with hin | hin | hin
      · -- an operation of the first part
        have hx' : ∃ h, hs[i]? = some h := ⟨hs[i]'(by omega), by simp⟩
        obtain ⟨hh, hhi⟩ := hx'
        obtain ⟨o', ho', hask⟩ := (key V hV).1 i hh (Nat.zero_le _) hhi
        obtain rfl : oi = o' := Option.some.inj (hoi.symm.trans ho')
        have hsee := H.sees (V := V) (V' := V) (M := fun _ => true) (a := a) hsh hoi hr (fun k _ hk => by cases hk) (fun _ _ => rfl)
        have hnext : ∀ v w'', Below w.heap.size w' w'' → (∀ (j : Nat) (h : Stir), hs[j]? = some h → j ≠ i → listed.getD j false = true → h.r w' (V j) → h.r w'' (V j)) → hh.r w'' v → IA (listed.setIfInBounds i true) ((frameOf l.toArray V (fun k => listed.getD k false) a l.toArray.size).put oi.dst v) w'' := by
          intro v w'' hb' hkeep hrv
          refine ⟨fun j hj => by rw [hold j (by omega)]; exact hno j hj, fun k => if k = i then v else V k, fun k h hk => ?_, hput V v, hb.trans hb', fun j h hjh hj => ?_⟩
          · by_cases e : k = i
            · subst e
              obtain rfl : hh = h := Option.some.inj (hhi.symm.trans hk)
              simp only [if_true]
              exact Stir.r_sh hrv
            · simp only [if_neg e]; exact hV k h hk
          · by_cases e : j = i
            · subst e
              obtain rfl : hh = h := Option.some.inj (hhi.symm.trans hjh)
              simp only [if_true]
              exact hrv
            · simp only [if_neg e]
              rw [hold j e] at hj
              exact hkeep j h hjh e hj (hrr j h hjh hj)
        unfold Go.wpOp
        simp only [hoi]
        rw [wanted_of_slots hsee]
        unfold Oper.stirAsk at hask
        by_cases hwt : Region.wanted oi (yielded l.toArray (frameOf l.toArray V (fun _ => true) a i).tmps) = true
        · rw [if_pos hwt] at hask
          rw [if_pos hwt]
          obtain ⟨p, rfl⟩ := regrown_of_below hb
          have h1 := hask p (depsS_all _ fun j h hj hjh hw => hrr j h hjh (waits_listed hr hw))
          have hst : ∀ v w'', hh.K (grow (redrawn w p.d) p.os) w'' → hh.r w'' v → _ := fun v w'' hk hrv => hnext v w'' (by
            cases hh with
            | const c => exact (show Below _ _ _ from hk).mono hb.size
            | held s r => exact (show Below _ _ _ from hk).mono hb.size
            | stir s r K => exact (hx i s r K hhi).1 _ _ hb.size hk) (fun j h hjh hji hj hr1 => by
            cases hh with
            | const c => exact Stir.r_mono (goodAllS_at hg hjh) hk hr1
            | held s r => exact Stir.r_mono (goodAllS_at hg hjh) hk hr1
            | stir s r K =>
              rcases (hx i s r K hhi).2 j h hjh hji with h1 | h1
              · have h2 := reach_listed2 hsh 6 j i hj h1
                rw [hunf] at h2
                cases h2
              · exact h1 _ _ _ hk hr1) hrv
          refine .inl (Oper.wp_of_stir ?_ fun v w'' hb' hrv => .inl (hst v w'' hb' hrv))
          unfold Oper.stirAt at h1 ⊢
          rwa [exec_of_slots (ops := l.toArray) (fun cs b => Region.noSelect_spec H.sel i oi cs b hoi) hsee]
        · rw [if_neg hwt] at hask
          rw [if_neg hwt]
          exact .inl (hnext undef w' (Below.refl _ _) (fun j h _ _ _ h1 => h1) (hask _))
      · -- the store
        subst hin
        obtain rfl : oi = on := Option.some.inj (hoi.symm.trans honA)
        have hall : ∀ j, j < i → j ≠ i0 → listed.getD j false = true := fun j hj hne => reach_listed hsh 6 i j (fun k hk => waits_listed hr hk) ((hpin j hj).resolve_left hne)
        have hsee := H.sees (V := V) (V' := V) (M := fun _ => true) (a := a) hsh hoi hr (fun k _ hk => by cases hk) (fun _ _ => rfl)
        have hV0 : V i0 = c0 := hV i0 _ hc0
        obtain ⟨p, rfl⟩ := regrown_of_below hb
        have h1 := (key V hV).2 p (allS_all _ fun j h hj hjh => by
          by_cases e : j = i0
          · subst e
            obtain rfl : h = .const c0 := Option.some.inj (hjh.symm.trans hc0)
            exact hV0
          · exact hrr j h hjh (hall j (by omega) e))
        rw [hn] at h1
        obtain ⟨w'', hrun1, hrun2, hw⟩ := h1
        unfold Go.wpOp
        simp only [hoi]
        unfold Region.wanted
        rw [hong, if_pos rfl]
        refine .inl ?_
        unfold Oper.wp
        rw [exec_of_slots (ops := l.toArray) (fun cs b => Region.noSelect_spec H.sel i oi cs b hoi) hsee, hrun1]
        simp only [Oper.upon]
        refine .inr (.inl ⟨⟨fun j hj hne => ?_, fun j hj => by rw [hold j (by omega)]; exact hno j (by omega)⟩, fun k => if k = i then undef else V k, ?_, hput V undef, hrun2, ?_⟩)
        · rcases Nat.lt_or_ge j i with h' | h'
          · rw [hold j (by omega)]; exact hall j h' hne
          · obtain rfl : j = i := by omega
            exact hset
        · simp only [if_neg (show ¬ i0 = i by omega)]
          exact hV0
        · rw [show frameOf l.toArray (fun k => if k = i then undef else V k) (fun _ => true) a i = frameOf l.toArray V (fun _ => true) a i from frameOf_congr i fun j hj => ⟨rfl, fun _ => if_neg (by omega)⟩]
          exact hw
      · have h3 := reach_listed hsh 6 i n (fun k hk => waits_listed hr hk) (htl i hi (by omega) n (by omega))
        rw [hno n (Nat.le_refl _)] at h3
        cases h3
    · by_cases hii : i = i0
      · subst hii
        obtain rfl : oi = o0 := Option.some.inj (hoi.symm.trans ho0A)
        have hsee := H.sees (V := V) (V' := V) (M := fun _ => false) (a := a) hsh hoi hr (fun k _ _ d hd => hflo k d hd) (fun _ h => by cases h)
        rw [frameOf_no] at hsee
        unfold Go.wpOp
        simp only [hoi]
        unfold Region.wanted
        rw [h0g, if_pos rfl]
        refine .inl ?_
        unfold Oper.wp
        rw [exec_of_slots (ops := l.toArray) (fun cs b => Region.noSelect_spec H.sel i oi cs b hoi) hsee, hrun]
        simp only [Oper.upon]
        have e := hput V c0
        rw [show (fun k => if k = i then c0 else V k) = V from funext fun k => by split <;> simp_all] at e
        rw [e]
        exact .inr (.inl ⟨⟨fun j hj hne => by rw [hold j hne]; exact hall j hj hne, fun j hj => by rw [hold j (by omega)]; exact hno j hj⟩, V, hV, rfl, hrun, hw⟩)
      · rcases Nat.lt_or_ge n i with hin | hin
        · have hall2 : ∀ j, j < n + 1 → listed.getD j false = true := fun j hj => reach_listed hsh 6 i j (fun k hk => waits_listed hr hk) (htl i hi hin j (by omega))
          rw [← frameM V listed (fun j hj => hall2 j (by omega)) hno] at hw
          exact tailstep (n + 1) (Nat.le_refl _) hall2 hno hin hw
        · rw [hall i hin hii] at hunf
          cases hunf
    · have hni : n + 1 ≤ i := by
        rcases Nat.lt_or_ge i (n + 1) with h' | h'
        · rw [hall i (by omega)] at hunf; cases hunf
        · exact h'
      exact tailstep q hnq hall hno hni hw
  · intro listed a' w' hsh hI hr
    have hall := H.all hsh hr
    rcases hI with ⟨hno, _⟩ | ⟨⟨_, hno⟩, V, hV, rfl, _, hw⟩ | ⟨q, hnq, hall', hno, hw⟩
    · have := hall n (by omega)
      rw [hno n (Nat.le_refl _)] at this
      cases this
    · have hmm2 : n + 1 = l.length := by
        rcases Nat.lt_or_ge (n + 1) l.length with h' | h'
        · have := hall (n + 1) (by omega); rw [hno (n + 1) (Nat.le_refl _)] at this; cases this
        · omega
      rw [frameM V listed (fun j hj => hall j (by omega)) hno]
      rw [List.drop_eq_nil_of_le (by omega)] at hw
      exact hw
    · have hqq : l.length ≤ q := by
        rcases Nat.lt_or_ge q l.length with h' | h'
        · have := hall q (by omega); rw [hno q (Nat.le_refl _)] at this; cases this
        · exact h'
      rw [List.drop_eq_nil_of_le hqq] at hw
      exact hw
  · rcases Nat.lt_or_ge j l.length with h' | h' <;> simp [h']
  · obtain ⟨V, hV⟩ := hwit
    refine ⟨V, hV, ?_, (Below.refl _ _).drew, fun j h _ hj => ?_⟩
    · symm
      have : ∀ k, frameOf l.toArray V (fun k => (Array.replicate l.toArray.size false).getD k false) a k = a := fun k => by
        induction k with
        | zero => rfl
        | succ k ih => rw [frameOf, ih, if_neg]; rcases Nat.lt_or_ge k l.length with h' | h' <;> simp [h']
      exact this _
    · rcases Nat.lt_or_ge j l.length with h' | h' <;> simp [h'] at hj
end
end Go.Proofs.YtifkjnmnflhnoaaGreatDoor

namespace Go.Proofs.YtifkjnmnflhnoaaGreatDoor
open Go.RowKit Go.Sort
structure Fact where
  (from_ many to_ low high : Int)
/-- a world: its rows, how long they are, their numbers -/
structure Wd where
  n : Nat
  len : Nat → Nat
  fall : Nat → Nat → Int
/-- a town of quarrels, as data -/
structure Qt where
  wells : Int
  nw : Nat
  world : Nat → Wd
  nf : Nat
  fact : Nat → Fact
structure Wd.Ok (m : Int) (x : Wd) : Prop where
  n : (x.n : Int) = m
  len : ∀ k, k < x.n → (x.len k : Int) = m
  fall : ∀ k, k < x.n → ∀ j, j < x.len k → 0 ≤ x.fall k j ∧ x.fall k j ≤ 9
structure Fact.Ok (m : Int) (f : Fact) : Prop where
  f0 : 0 ≤ f.from_
  f1 : f.from_ < m
  t0 : 0 ≤ f.to_
  t1 : f.to_ < m
  m0 : 1 ≤ f.many
  m1 : f.many ≤ 9
  l0 : 0 ≤ f.low
  l1 : f.low ≤ f.high
  h1 : f.high ≤ 99
structure Qt.Ok (t : Qt) : Prop where
  w0 : 0 ≤ t.wells
  w1 : t.wells ≤ 4
  nw : t.nw ≤ 6
  nf : t.nf ≤ 6
  world : ∀ i, i < t.nw → (t.world i).Ok t.wells
  fact : ∀ i, i < t.nf → (t.fact i).Ok t.wells
open Classical in
noncomputable def Wd.okB (m : Int) (x : Wd) : Bool := decide (x.Ok m)
theorem Wd.okB_t {m : Int} {x : Wd} (h : x.Ok m) : x.okB m = true := by unfold Wd.okB; simpa using h
theorem Wd.okB_f {m : Int} {x : Wd} (h : ¬ x.Ok m) : x.okB m = false := by unfold Wd.okB; simpa using h
theorem Wd.okB_iff {m : Int} {x : Wd} : x.okB m = true ↔ x.Ok m := by unfold Wd.okB; simp
open Classical in
noncomputable def Qt.err (t : Qt) : Int := if t.Ok then 0 else 50
theorem Qt.err_ok {t : Qt} (h : t.Ok) : t.err = 0 := if_pos h
theorem Qt.err_bad {t : Qt} (h : ¬ t.Ok) : t.err = 50 := if_neg h
/-! ### How they read in memory -/
def RowsAt (w : World) (A : Option Addr) (x : Wd) : Prop :=
  x.n = 0 ∨ ∃ b o, A = some ⟨b, o, none⟩ ∧ b < w.heap.size ∧ ∀ k, k < x.n → ∃ A' c', w.cell? ⟨b, o + k, none⟩ = some (.slice A' (x.len k) c') ∧ IntsAt w A' (x.len k) (x.fall k) ∧ x.len k ≤ 9223372036854775807
theorem RowsAt.mono {w w' : World} {A : Option Addr} {x : Wd} (h : RowsAt w A x) (hb : Below w.heap.size w w') : RowsAt w' A x := by
  rcases h with h | ⟨b, o, rfl, hlt, hc⟩
  · exact .inl h
  · refine .inr ⟨b, o, rfl, Nat.lt_of_lt_of_le hlt hb.size, fun k hk => ?_⟩
    obtain ⟨A', c', h1, h2, h3⟩ := hc k hk
    exact ⟨A', c', (hb.cell (p := ⟨b, _, none⟩) hlt).trans h1, h2.mono hb, h3⟩
def WorldsAt (w : World) (A : Option Addr) (n : Nat) (f : Nat → Wd) : Prop :=
  n = 0 ∨ ∃ b o, A = some ⟨b, o, none⟩ ∧ b < w.heap.size ∧ ∀ i, i < n → ∃ A' c', w.cell? ⟨b, o + i, none⟩ = some (.slice A' (f i).n c') ∧ RowsAt w A' (f i) ∧ (f i).n ≤ 9223372036854775807
theorem WorldsAt.mono {w w' : World} {A : Option Addr} {n : Nat} {f : Nat → Wd} (h : WorldsAt w A n f) (hb : Below w.heap.size w w') : WorldsAt w' A n f := by
  rcases h with h | ⟨b, o, rfl, hlt, hc⟩
  · exact .inl h
  · refine .inr ⟨b, o, rfl, Nat.lt_of_lt_of_le hlt hb.size, fun k hk => ?_⟩
    obtain ⟨A', c', h1, h2, h3⟩ := hc k hk
    exact ⟨A', c', (hb.cell (p := ⟨b, _, none⟩) hlt).trans h1, h2.mono hb, h3⟩
def FactsAt (w : World) (A : Option Addr) (n : Nat) (f : Nat → Fact) : Prop :=
  n = 0 ∨ ∃ b o, A = some ⟨b, o, none⟩ ∧ b < w.heap.size ∧ ∀ i, i < n → w.cell? ⟨b, o + i * 5, none⟩ = some (.int .i64 (f i).from_) ∧ w.cell? ⟨b, o + i * 5 + 1, none⟩ = some (.int .i64 (f i).many) ∧ w.cell? ⟨b, o + i * 5 + 2, none⟩ = some (.int .i64 (f i).to_) ∧ w.cell? ⟨b, o + i * 5 + 3, none⟩ = some (.int .i64 (f i).low) ∧ w.cell? ⟨b, o + i * 5 + 4, none⟩ = some (.int .i64 (f i).high)
theorem FactsAt.mono {w w' : World} {A : Option Addr} {n : Nat} {f : Nat → Fact} (h : FactsAt w A n f) (hb : Below w.heap.size w w') : FactsAt w' A n f := by
  rcases h with h | ⟨b, o, rfl, hlt, hc⟩
  · exact .inl h
  · exact .inr ⟨b, o, rfl, Nat.lt_of_lt_of_le hlt hb.size, fun i hi => ⟨(hb.cell (p := ⟨b, _, none⟩) hlt).trans (hc i hi).1, (hb.cell (p := ⟨b, _, none⟩) hlt).trans (hc i hi).2.1, (hb.cell (p := ⟨b, _, none⟩) hlt).trans (hc i hi).2.2.1, (hb.cell (p := ⟨b, _, none⟩) hlt).trans (hc i hi).2.2.2.1, (hb.cell (p := ⟨b, _, none⟩) hlt).trans (hc i hi).2.2.2.2⟩⟩
structure QAt (w : World) (Aw Af : Option Addr) (t : Qt) : Prop where
  worlds : WorldsAt w Aw t.nw t.world
  facts : FactsAt w Af t.nf t.fact
theorem QAt.mono {w w' : World} {Aw Af : Option Addr} {t : Qt} (h : QAt w Aw Af t) (hb : Below w.heap.size w w') : QAt w' Aw Af t := ⟨h.worlds.mono hb, h.facts.mono hb⟩
/-- one number of one world: where it stands -/
theorem WorldsAt.get {w : World} {A : Option Addr} {n : Nat} {f : Nat → Wd} (h : WorldsAt w A n f) {i k j : Nat} (hi : i < n) (hk : k < (f i).n) (hj : j < (f i).len k) :
    ∃ b o b' o' c' b'' o'' c'', A = some ⟨b, o, none⟩ ∧ b < w.heap.size ∧ w.cell? ⟨b, o + i, none⟩ = some (.slice (some ⟨b', o', none⟩) (f i).n c') ∧ b' < w.heap.size ∧ w.cell? ⟨b', o' + k, none⟩ = some (.slice (some ⟨b'', o'', none⟩) ((f i).len k) c'') ∧ b'' < w.heap.size ∧ w.cell? ⟨b'', o'' + j, none⟩ = some (.int .i64 ((f i).fall k j)) := by
  rcases h with h | ⟨b, o, rfl, hlt, hc⟩
  · omega
  · obtain ⟨A', c', h1, h2, _⟩ := hc i hi
    rcases h2 with h2 | ⟨b', o', rfl, hlt', hc'⟩
    · omega
    · obtain ⟨A'', c'', h3, h4, _⟩ := hc' k hk
      obtain ⟨b'', o'', rfl, hlt'', h5⟩ := h4.get hj
      exact ⟨b, o, b', o', c', b'', o'', c'', rfl, hlt, h1, hlt', h3, hlt'', h5⟩
/-! ### What is left -/
/-- whether a world agrees with a fact -/
def Wd.agrees (x : Wd) (f : Fact) : Bool := inR (x.fall f.from_.toNat f.to_.toNat * f.many) f.low f.high
/-- whether a world is left -/
def Qt.leftB (t : Qt) (i : Nat) : Bool := !anyB (fun j => !(t.world i).agrees (t.fact j)) t.nf
/-- the worlds that are left, of the first n -/
def Qt.leftTo (t : Qt) : Nat → List Int
  | 0 => []
  | n + 1 => if t.leftB n then t.leftTo n ++ [(n : Int)] else t.leftTo n
def Qt.leftL (t : Qt) : List Int := t.leftTo t.nw
theorem leftTo_len (t : Qt) : ∀ n, (t.leftTo n).length ≤ n
  | 0 => Nat.le_refl _
  | n + 1 => by
    have := leftTo_len t n
    unfold Qt.leftTo
    split
    · rw [List.length_append]; simp; omega
    · omega
theorem leftTo_mem (t : Qt) {x : Int} : ∀ n, x ∈ t.leftTo n ↔ ∃ i : Nat, i < n ∧ t.leftB i = true ∧ x = i
  | 0 => by simp [Qt.leftTo]
  | n + 1 => by
    have ih := leftTo_mem t (x := x) n
    unfold Qt.leftTo
    split
    · rename_i h
      rw [List.mem_append, ih]
      constructor
      · rintro (⟨i, h1, h2, h3⟩ | h1)
        · exact ⟨i, by omega, h2, h3⟩
        · exact ⟨n, by omega, h, by simpa using h1⟩
      · rintro ⟨i, h1, h2, h3⟩
        rcases Nat.lt_or_ge i n with h4 | h4
        · exact .inl ⟨i, h4, h2, h3⟩
        · obtain rfl : i = n := by omega
          exact .inr (by simpa using h3)
    · rename_i h
      rw [ih]
      constructor
      · rintro ⟨i, h1, h2, h3⟩
        exact ⟨i, by omega, h2, h3⟩
      · rintro ⟨i, h1, h2, h3⟩
        rcases Nat.lt_or_ge i n with h4 | h4
        · exact ⟨i, h4, h2, h3⟩
        · obtain rfl : i = n := by omega
          exact absurd h2 h
end Go.Proofs.YtifkjnmnflhnoaaGreatDoor

namespace Go.Proofs.YtifkjnmnflhnoaaGreatDoor
open Go.RowKit Go.Sort
theorem within5_b (n lo hi : Int) (b : Bool) (w : World) (h : inR n lo hi = b) : Calls Tryz.prog 20 #[.int .i64 n, .int .i64 lo, .int .i64 hi] w fun e w' => e = .returned (.bool b) ∧ w = w' := by
  have H := Lib.hid h
  clear h
  go_enter Tryz.func20, Tryz.ntmps20
  go_wp2_with fail
  refine (within_b _ _ _ _ _ H.out).mono ?_
  rintro e w' ⟨rfl, rfl⟩
  go_wp2_with fail
  go_ret
  exact ⟨rfl, rfl⟩
theorem within5_bb (n lo hi : Int) (b : Bool) (w : World) (h : inR n lo hi = b) : Calls Tryz.prog 20 #[.int .i64 n, .int .i64 lo, .int .i64 hi] w fun e w' => e = .returned (.bool b) ∧ Below w.heap.size w w' :=
  (within5_b n lo hi b w h).mono fun e w' ⟨he, hw⟩ => ⟨he, by rw [hw]; exact Below.refl _ _⟩
theorem isWell5_b (Aw Af : Option Addr) (cw cf : Nat) (t : Qt) (n : Int) (b : Bool) (w : World) (h0 : 0 ≤ t.wells) (h1 : t.wells ≤ 4) (h : inR n 0 (t.wells - 1) = b) :
    Calls Tryz.prog 8 #[.agg #[.int .i64 t.wells, .slice Aw t.nw cw, .slice Af t.nf cf], .int .i64 n] w fun e w' => e = .returned (.bool b) ∧ Below w.heap.size w w' := by
  have H := Lib.hid h
  clear h
  go_enter Tryz.func8, Tryz.ntmps8
  go_wp2_with fail
  refine (within5_b _ _ _ _ _ H.out).mono ?_
  rintro e w' ⟨rfl, rfl⟩
  go_wp2_with fail
  go_ret
  exact ⟨rfl, bAlloc (Below.refl _ _) _⟩
set_option maxHeartbeats 4000000 in
set_option maxRecDepth 100000 in
theorem isWorld_any (Aw Af A : Option Addr) (cw cf c : Nat) (t : Qt) (x : Wd) (w : World) (hn : x.n ≤ 9223372036854775807) (hX : RowsAt w A x) :
    Calls Tryz.prog 21 #[.agg #[.int .i64 t.wells, .slice Aw t.nw cw, .slice Af t.nf cf], .agg #[.slice A x.n c]] w fun e w' => e = .returned (.bool (x.okB t.wells)) ∧ Below w.heap.size w w' := by
  have hb0 := bAlloc (bAlloc (Below.refl w.heap.size w) (.cells #[.int .i64 t.wells, .slice Aw t.nw cw, .slice Af t.nf cf] 25)) (.cells #[.slice A x.n c] 63)
  have HX := Lib.hid (hX.mono hb0)
  have HB := Lib.hid hb0
  clear hX hb0
  by_cases hnw : (x.n : Int) = t.wells
  case neg =>
    have h1 : ((x.n : Int) != t.wells) = true := bne_iff_ne.2 hnw
    have HE := Lib.hid (Wd.okB_f fun h => hnw h.n)
    clear hnw
    go_enter Tryz.func21, Tryz.ntmps21
    go_wp2_with fail
    go_ret
    exact ⟨by rw [HE.out]; rfl, HB.out⟩
  have h1 : ((x.n : Int) != t.wells) = false := by rw [hnw]; simp
  have HNW := Lib.hid hnw
  clear hnw
  go_enter Tryz.func21, Tryz.ntmps21
  go_wp2_with fail
  clear h1
  go_loopw [5] (fun i wr => ∃ k : Nat, i = .int .i64 k ∧ k ≤ x.n ∧ (∀ j, j < k → (x.len j : Int) = t.wells ∧ ∀ m, m < x.len j → 0 ≤ x.fall j m ∧ x.fall j m ≤ 9) ∧ Below ((w.alloc (.cells #[.int .i64 t.wells, .slice Aw t.nw cw, .slice Af t.nf cf] 25)).alloc (.cells #[.slice A x.n c] 63)).heap.size ((w.alloc (.cells #[.int .i64 t.wells, .slice Aw t.nw cw, .slice Af t.nf cf] 25)).alloc (.cells #[.slice A x.n c] 63)) wr) (fun i _ => x.n - (intOf i).toNat)
  case atStart => exact ⟨0, rfl, Nat.zero_le _, fun j hj => absurd hj (Nat.not_lt_zero _), Below.refl _ _⟩
  case round =>
    obtain ⟨k, rfl, hk, hall, hbel⟩ := hrel
    have HALL := Lib.hid hall
    have HL3 := Lib.hid hbel
    obtain ⟨bc3, bf3⟩ := bcell hbel
    have hz3 := hbel.size
    simp only [World.size_alloc] at hz3
    have hy3 : w.heap.size < wr.heap.size := by omega
    have hv3 : w.heap.size + 1 < wr.heap.size := by omega
    clear hbel hall
    by_cases hlt : k < x.n
    · rcases HX.out.mono HL3.out with h0 | ⟨b, o, hA, hb, hcell⟩
      · omega
      obtain ⟨A', c', c0, hrow, hlen⟩ := hcell k hlt
      have HR := Lib.hid hrow
      have k1 : (k : Int) < (x.n : Int) := by omega
      have HK := Lib.hid hlt
      clear hcell hrow
      subst hA
      obtain ⟨m, hm⟩ : ∃ m, x.len k = m := ⟨_, rfl⟩
      rw [hm] at c0 hlen
      have HM := Lib.hid hm
      clear hm
      by_cases hlw : (m : Int) = t.wells
      case neg =>
        have h1 : ((m : Int) != t.wells) = true := bne_iff_ne.2 hlw
        have HE := Lib.hid (Wd.okB_f (m := t.wells) (x := x) fun h => hlw (by have := h.len k HK.out; rw [HM.out] at this; exact this))
        clear hlw
        go_wp2_with fail
        refine wp_region_quiet_below (by kernel_rfl) (by kernel_rfl) ?_
        repeat (go_big_quiet_step ((fail)))
        refine wpQuiet_nil ?_
        intro w9 hw9
        have HB9 := Lib.hid (below_of_regrown hw9)
        clear hw9
        go_wp2_with fail
        go_ret
        exact ⟨by rw [HE.out]; rfl, bTrans HB.out (bTrans HL3.out HB9.out)⟩
      have h1 : ((m : Int) != t.wells) = false := by rw [hlw]; simp
      have HLW := Lib.hid hlw
      clear hlw
      go_wp2_with fail
      refine wp_region_quiet_below (by kernel_rfl) (by kernel_rfl) ?_
      repeat (go_big_quiet_step ((fail)))
      refine wpQuiet_nil ?_
      intro w9 hw9
      have hb9 := below_of_regrown hw9
      have HL9 := Lib.hid (bTrans HL3.out hb9)
      obtain ⟨bc9, bf9⟩ := bcell HL9.out
      have hz9 := HL9.out.size
      simp only [World.size_alloc] at hz9
      have hy9 : w.heap.size < w9.heap.size := by omega
      have hv9 : w.heap.size + 1 < w9.heap.size := by omega
      have d0 := (hb9.cell (p := ⟨b, o + k, none⟩) hb).trans c0
      have hb' : b < w9.heap.size := Nat.lt_of_lt_of_le hb hb9.size
      have HR9 := Lib.hid (HR.out.mono hb9)
      clear hw9 hb9 h1 bc3 bf3 hz3 hy3 hv3 c0 hb
      rw [HM.out] at HR9
      go_wp2_with fail
      go_loopw [6] (fun i wr => ∃ q : Nat, i = .int .i64 q ∧ q ≤ m ∧ (∀ j, j < q → 0 ≤ x.fall k j ∧ x.fall k j ≤ 9) ∧ Below w9.heap.size w9 wr) (fun i _ => m - (intOf i).toNat)
      case atStart => exact ⟨0, rfl, Nat.zero_le _, fun j hj => absurd hj (Nat.not_lt_zero _), Below.refl _ _⟩
      case round =>
        obtain ⟨q, rfl, hq, hall, hbel⟩ := hrel
        have HQA := Lib.hid hall
        have HL4 := Lib.hid hbel
        obtain ⟨bc4, bf4⟩ := bcell hbel
        have hz4 := hbel.size
        have hy4 : w.heap.size < wr.heap.size := by omega
        have hv4 : w.heap.size + 1 < wr.heap.size := by omega
        have hb4 : b < wr.heap.size := by omega
        clear hbel hall
        by_cases hqm : q < m
        · obtain ⟨b5, o5, hA5, hl5, c5⟩ := (HR9.out.mono HL4.out).get hqm
          have q1 : (q : Int) < (m : Int) := by omega
          have HQ := Lib.hid hqm
          subst hA5
          cases hin : inR (x.fall k q) 0 9
          · have G1 := Lib.hid hin
            have HE := Lib.hid (Wd.okB_f (m := t.wells) (x := x) fun h => by
              have := h.fall k HK.out q (by rw [HM.out]; exact HQ.out)
              rw [inR_t this] at hin
              cases hin)
            clear hin
            go_wp2_with fail
            refine (within5_b _ _ _ _ _ G1.out).mono ?_
            rintro e w' ⟨rfl, rfl⟩
            go_wp2_with fail
            go_ret
            exact ⟨by rw [HE.out]; rfl, bTrans HB.out (bTrans HL9.out HL4.out)⟩
          · have G1 := Lib.hid hin
            clear hin
            have HQ2 := Lib.hid (show ∀ j, j < q + 1 → 0 ≤ x.fall k j ∧ x.fall k j ≤ 9 from fun j hj => by
              rcases Nat.lt_or_ge j q with h1 | h1
              · exact HQA.out j h1
              · obtain rfl : j = q := by omega
                exact inR_iff.1 G1.out)
            go_wp2_with fail
            refine (within5_b _ _ _ _ _ G1.out).mono ?_
            rintro e w' ⟨rfl, rfl⟩
            go_wp2_with fail
            go_roundw
            case rel =>
              first
              | exact ⟨q + 1, by go_num, by omega, HQ2.out, HL4.out⟩
              | ((repeat apply Exists.intro)
                 refine ⟨⟨q + 1, ?_, by omega, HQ2.out, HL4.out⟩, rfl⟩
                 go_num)
            case measure => simp [intOf]; omega
        · obtain rfl : q = m := by omega
          have HA2 := Lib.hid (show ∀ j, j < k + 1 → (x.len j : Int) = t.wells ∧ ∀ m, m < x.len j → 0 ≤ x.fall j m ∧ x.fall j m ≤ 9 from fun j hj => by
            rcases Nat.lt_or_ge j k with h1 | h1
            · exact HALL.out j h1
            · obtain rfl : j = k := by omega
              rw [HM.out]
              exact ⟨HLW.out, HQA.out⟩)
          have HL10 := Lib.hid (bTrans HL9.out HL4.out)
          go_wp2_with fail
          go_roundw
          case rel =>
            first
            | exact ⟨k + 1, by go_num, by omega, HA2.out, HL10.out⟩
            | ((repeat apply Exists.intro)
               refine ⟨⟨k + 1, ?_, by omega, HA2.out, HL10.out⟩, rfl⟩
               go_num)
          case measure => simp [intOf]; omega
    · obtain rfl : x.n = k := by omega
      have HE := Lib.hid (Wd.okB_t (m := t.wells) (x := x) ⟨HNW.out, fun j hj => (HALL.out j hj).1, fun j hj => (HALL.out j hj).2⟩)
      go_wp2_with fail
      go_ret
      exact ⟨by rw [HE.out]; rfl, bTrans HB.out HL3.out⟩
end Go.Proofs.YtifkjnmnflhnoaaGreatDoor

namespace Go.Proofs.YtifkjnmnflhnoaaGreatDoor
open Go.RowKit Go.Sort
theorem mul_bd {v m : Int} (v0 : 0 ≤ v) (v1 : v ≤ 9) (m0 : 0 ≤ m) (m1 : m ≤ 9) : 0 ≤ v * m ∧ v * m ≤ 81 :=
  ⟨Int.mul_nonneg v0 m0, Int.le_trans (Int.mul_le_mul v1 m1 m0 (by decide)) (by decide)⟩
/-- a fall of a valid town: where it stands, and its bounds -/
theorem Qt.Ok.at {w : World} {Aw Af : Option Addr} {t : Qt} (ok : t.Ok) (hT : QAt w Aw Af t) {i : Nat} (hi : i < t.nw) {p q : Int} (p0 : 0 ≤ p) (p1 : p < t.wells) (q0 : 0 ≤ q) (q1 : q < t.wells) :
    ∃ b o b' o' c' b'' o'' c'' n m v, Aw = some ⟨b, o, none⟩ ∧ b < w.heap.size ∧ w.cell? ⟨b, o + i, none⟩ = some (.slice (some ⟨b', o', none⟩) n c') ∧ b' < w.heap.size ∧ w.cell? ⟨b', o' + p.toNat, none⟩ = some (.slice (some ⟨b'', o'', none⟩) m c'') ∧ b'' < w.heap.size ∧ w.cell? ⟨b'', o'' + q.toNat, none⟩ = some (.int .i64 v) ∧
      v = (t.world i).fall p.toNat q.toNat ∧ 0 ≤ v ∧ v ≤ 9 ∧ (n : Int) = t.wells ∧ (m : Int) = t.wells := by
  have hw := ok.world i hi
  have hk : p.toNat < (t.world i).n := by have := hw.n; omega
  have hl := hw.len _ hk
  have hj : q.toNat < (t.world i).len p.toNat := by omega
  obtain ⟨b, o, b', o', c', b'', o'', c'', a1, a2, a3, a4, a5, a6, a7⟩ := hT.worlds.get hi hk hj
  have hf := hw.fall _ hk _ hj
  exact ⟨b, o, b', o', c', b'', o'', c'', _, _, _, a1, a2, a3, a4, a5, a6, a7, rfl, hf.1, hf.2, hw.n, hl⟩
set_option maxHeartbeats 4000000 in
set_option maxRecDepth 100000 in
theorem agrees5_any (Aw Af : Option Addr) (cw cf : Nat) (t : Qt) (i : Nat) (f : Fact) (w : World) (ok : t.Ok) (hi : i < t.nw) (hf : f.Ok t.wells) (hT : QAt w Aw Af t) :
    Calls Tryz.prog 22 #[.agg #[.int .i64 t.wells, .slice Aw t.nw cw, .slice Af t.nf cf], .int .i64 i, .agg #[.int .i64 f.from_, .int .i64 f.many, .int .i64 f.to_, .int .i64 f.low, .int .i64 f.high]] w fun e w' => e = .returned (.bool ((t.world i).agrees f)) ∧ Below w.heap.size w w' := by
  obtain ⟨b, o, b', o', c', b'', o'', c'', n, m, v, rfl, a2, a3, a4, a5, a6, a7, hv, v0, v1, hn, hm⟩ := ok.at hT hi hf.f0 hf.f1 hf.t0 hf.t1
  obtain ⟨p, hp⟩ : ∃ p : Nat, f.from_ = (p : Int) := ⟨f.from_.toNat, by have := hf.f0; omega⟩
  obtain ⟨q, hq⟩ : ∃ q : Nat, f.to_ = (q : Int) := ⟨f.to_.toNat, by have := hf.t0; omega⟩
  obtain ⟨k, hk⟩ : ∃ k, f.many = k := ⟨_, rfl⟩
  have k0 := hf.m0
  have k1 := hf.m1
  have hp1 := hf.f1
  have hq1 := hf.t1
  rw [hk] at k0 k1
  have hpp : f.from_.toNat = p := by omega
  have hqq : f.to_.toNat = q := by omega
  rw [hpp] at a5 hv
  rw [hqq] at a7 hv
  have hbd := mul_bd v0 v1 (by omega : 0 ≤ k) k1
  obtain ⟨r, hr⟩ : ∃ r, inR (v * k) f.low f.high = r := ⟨_, rfl⟩
  have HR := Lib.hid hr
  have HE := Lib.hid (show (t.world i).agrees f = r by unfold Wd.agrees; rw [hpp, hqq, ← hv, hk, hr])
  have HB := Lib.hid (bAlloc (bAlloc (Below.refl w.heap.size w) (.cells #[.int .i64 t.wells, .slice (some ⟨b, o, none⟩) t.nw cw, .slice Af t.nf cf] 25)) (.cells #[.int .i64 p, .int .i64 k, .int .i64 q, .int .i64 f.low, .int .i64 f.high] 27))
  rw [hp, hq, hk]
  rw [hp] at hp1
  rw [hq] at hq1
  have p1 : (p : Int) < (n : Int) := by omega
  have p0 : (0 : Int) ≤ (p : Int) := by omega
  have q1 : (q : Int) < (m : Int) := by omega
  have q0 : (0 : Int) ≤ (q : Int) := by omega
  have i1 : (i : Int) < (t.nw : Int) := by omega
  have i0 : (0 : Int) ≤ (i : Int) := by omega
  have a2' : b < w.heap.size + 1 + 1 := by omega
  have a4' : b' < w.heap.size + 1 + 1 := by omega
  have a6' : b'' < w.heap.size + 1 + 1 := by omega
  have HBD := Lib.hid hbd
  clear hf hr hv hp hq hk hn hm hpp hqq hbd hi ok hT hp1 hq1
  have e1 : IntKind.i64.wrap (v * k) = v * k := IntWalk.i64_in _ (by have := HBD.out; omega)
  go_enter Tryz.func22, Tryz.ntmps22
  go_wp2_with fail
  refine wp_region_quiet_below (by kernel_rfl) (by kernel_rfl) ?_
  repeat (go_big_quiet_step ((go_at_call 20; exact Calls.regrown_of (within5_bb _ _ _ _ _ HR.out))))
  refine wpQuiet_nil ?_
  intro w9 hw9
  have HB9 := Lib.hid (below_of_regrown hw9)
  clear hw9 e1
  go_wp2_with fail
  go_ret
  exact ⟨by rw [HE.out]; rfl, bTrans HB.out HB9.out⟩
end Go.Proofs.YtifkjnmnflhnoaaGreatDoor

