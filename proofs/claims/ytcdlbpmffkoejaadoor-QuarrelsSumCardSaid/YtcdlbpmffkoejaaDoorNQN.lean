/- Parts joined. -/
import Derived.Test.YtcdlbpmffkoejaaDoorNQB
import Derived.Test.YtcdlbpmffkoejaaDoorNQJ
import Derived.Test.YtcdlbpmffkoejaaDoorNQM
import Derived.Test.YtcdlbpmffkoejaaDoorNQF
import Derived.Test.YtcdlbpmffkoejaaDoorNQD
import Derived.Test.YtcdlbpmffkoejaaDoorNQG
set_option linter.unusedSimpArgs false
set_option linter.unusedVariables false
/- A region that draws its order and turns what stood before it: a law with an invariant of the world. No program in sight. -/
namespace Go.Proofs.YtcdlbpmffkoejaaDoor
open Go.RowKit Go.Sort
section
variable {P : Program} {md : Region.Mode} {ops : Array Oper}
/-- one more value is there -/
def upd (o : Nat → Option Value) (k : Nat) (v : Value) : Nat → Option Value := fun j => if j = k then some v else o j
/-- what is asked at one operation, where I holds of the values that are there and of the world -/
def Oper.invAsk (P : Program) (md : Region.Mode) (ops : Array Oper) (I : (Nat → Option Value) → World → Prop) (k : Nat) (o : Oper) (h : Stir) (a : Act) (F : List (Nat × (World → Prop))) : Prop :=
  if Region.wanted o (yielded ops a.tmps) then ∀ ρ w', I ρ w' → ρ k = none → depsP md ops k F w' → Oper.stirAt P o a w' h.K (fun w'' v => h.r w'' v ∧ I (upd ρ k v) w'') else (∀ w, h.r w undef) ∧ ∀ ρ w, I ρ w → I (upd ρ k undef) w
def wpInv (P : Program) (md : Region.Mode) (ops : Array Oper) (I : (Nat → Option Value) → World → Prop) (Q : Act → World → Prop) : Nat → List Oper → List Stir → Act → List (Nat × (World → Prop)) → (Nat → Value) → Prop
  | n, _, [], a, F, V => ∀ ρ w', (∀ j, j < n → ρ j = some (V j)) → I ρ w' → allP F w' → Q a w'
  | k, o :: rest, h :: hs, a, F, V => Oper.invAsk P md ops I k o h a F ∧ ∀ v, h.sh v → wpInv P md ops I Q (k + 1) rest hs (a.put o.dst v) (h.note k v F) (fun j => if j = k then v else V j)
  | _, [], _ :: _, _, _, _ => False
theorem wpInv_at {I : (Nat → Option Value) → World → Prop} {Q : Act → World → Prop} {hs0 : List Stir} {V : Nat → Value} {a0 : Act} (hV : ∀ (k : Nat) (h : Stir), hs0[k]? = some h → h.sh (V k)) :
    ∀ (hs : List Stir) (k : Nat) (l : List Oper) (U : Nat → Value), (∀ j, l[j]? = ops[k + j]?) → (∀ j, hs[j]? = hs0[k + j]?) → k + hs.length = hs0.length → (∀ j, j < k → U j = V j) →
      wpInv P md ops I Q k l hs (frameOf ops V (fun _ => true) a0 k) (noteAllS hs0 V k) U →
      (∀ (j : Nat) (h : Stir), k ≤ j → hs0[j]? = some h → ∃ o, ops[j]? = some o ∧ Oper.invAsk P md ops I j o h (frameOf ops V (fun _ => true) a0 j) (noteAllS hs0 V j)) ∧
      ∀ ρ w', (∀ j, j < hs0.length → ρ j = some (V j)) → I ρ w' → allP (noteAllS hs0 V hs0.length) w' → Q (frameOf ops V (fun _ => true) a0 hs0.length) w'
  | [], k, l, U, _, hh, hn, hU, H => by
    have e : k = hs0.length := by simpa using hn
    subst e
    refine ⟨fun j h hj hjh => ?_, fun ρ w' hρ => ?_⟩
    · have := (List.getElem?_eq_some_iff.1 hjh).1
      omega
    · have hρ' : ∀ j, j < hs0.length → ρ j = some (U j) := fun j hj => by rw [hU j hj]; exact hρ j hj
      cases l <;> exact H ρ w' hρ'
  | h :: hs, k, [], U, hl, hh, hn, hU, H => H.elim
  | h :: hs, k, o :: l, U, hl, hh, hn, hU, H => by
    have h0 : ops[k]? = some o := by simpa using (hl 0).symm
    have h1 : hs0[k]? = some h := by simpa using (hh 0).symm
    obtain ⟨H1, H2⟩ := H
    have e1 : frameOf ops V (fun _ => true) a0 (k + 1) = (frameOf ops V (fun _ => true) a0 k).put o.dst (V k) := by
      rw [frameOf, if_pos rfl]; simp [dstOf, h0]
    have e2 : noteAllS hs0 V (k + 1) = h.note k (V k) (noteAllS hs0 V k) := by rw [noteAllS, h1]
    obtain ⟨g1, g2⟩ := wpInv_at hV hs (k + 1) l (fun j => if j = k then V k else U j) (fun j => by have := hl (j + 1); simpa [Nat.add_assoc, Nat.add_comm 1 j] using this) (fun j => by have := hh (j + 1); simpa [Nat.add_assoc, Nat.add_comm 1 j] using this) (by simp only [List.length_cons] at hn; omega) (fun j hj => by
      by_cases e : j = k
      · subst e; exact if_pos rfl
      · exact (if_neg e).trans (hU j (by omega))) (by rw [e1, e2]; exact H2 _ (hV k h h1))
    refine ⟨fun j h' hj hjh => ?_, g2⟩
    rcases Nat.eq_or_lt_of_le hj with e | e
    · subst e
      obtain rfl : h = h' := Option.some.inj (h1.symm.trans hjh)
      exact ⟨o, h0, H1⟩
    · exact g1 j h' e hjh
/-- the values that are there -/
def seen (V : Nat → Value) (listed : Array Bool) : Nat → Option Value := fun j => if listed.getD j false then some (V j) else none
theorem seen_upd {V : Nat → Value} {listed : Array Bool} {i : Nat} (h : i < listed.size) (v : Value) : seen (fun k => if k = i then v else V k) (listed.setIfInBounds i true) = upd (seen V listed) i v := by
  funext j
  unfold seen upd
  by_cases e : j = i
  · subst e
    rw [set_same h false]
    simp
  · rw [getD_set_ne false (Ne.symm e)]
    simp only [if_neg e]
/-- what an operation that turns memory must keep: the invariant, and what is said of all others but of those that wait for it -/
def crossInv (md : Region.Mode) (ops : Array Oper) (G : World → Prop) (hs : List Stir) : Prop :=
  ∀ i s r K, hs[i]? = some (.stir s r K) → ∀ j h, hs[j]? = some h → j ≠ i → reach md ops 6 j i = true ∨ ∀ w w' v, G w → G w' → K w w' → h.r w v → h.r w' v
/-- as stirB, with another depth -/
def stirBd (md : Region.Mode) (ops : Array Oper) (n d : Nat) : Bool :=
  orderedB md ops && decide (n ≤ ops.size) && (List.range ops.size).all fun i => decide (i < n) || (List.range i).all fun j => reach md ops d i j
theorem wp_region_inv {rid : Nat} {Q : Exit → Act → World → Prop} {a : Act} {w : World} {l : List Oper} (I : (Nat → Option Value) → World → Prop) (G : World → Prop) (hIG : ∀ ρ w, I ρ w → G w) (dd n : Nat) (hs : List Stir) (hm : P.follows .mixedOrders = true) (hB : stirBd .any l.toArray n dd = true) (hn : hs.length = n) (hg : goodAllS hs) (hx : crossInv .any l.toArray G hs) (hI0 : ∀ w', Below w.heap.size w w' → I (fun _ => none) w')
    (h : wpInv P .any l.toArray I (fun a' w' => wpList P l.toArray Q (l.drop n) a' w') 0 l hs a [] (fun _ => undef)) : (Code.region rid l.toArray true).wp P Q a w := by
  unfold stirBd at hB
  simp only [Bool.and_eq_true, decide_eq_true_eq, List.all_eq_true, List.mem_range, Bool.or_eq_true] at hB
  obtain ⟨⟨hord, hnl⟩, htail⟩ := hB
  have H := ordered_of hord
  have hsz : l.toArray.size = l.length := by simp
  have key : ∀ V : Nat → Value, (∀ (k : Nat) (h : Stir), hs[k]? = some h → h.sh (V k)) → _ := fun V hV =>
    wpInv_at (P := P) (md := .any) (ops := l.toArray) (I := I) (Q := fun a' w' => wpList P l.toArray Q (l.drop n) a' w') (a0 := a) hV hs 0 l (fun _ => undef) (fun j => by simp) (fun j => by simp) (by omega) (fun j hj => absurd hj (Nat.not_lt_zero _)) h
  have hwit : ∃ V : Nat → Value, ∀ (k : Nat) (h : Stir), hs[k]? = some h → h.sh (V k) := by
    have hx : ∀ k : Nat, ∃ v : Value, ∀ h : Stir, hs[k]? = some h → h.sh v := fun k => by
      cases e : hs[k]? with
      | none => exact ⟨undef, fun h hh => by cases hh⟩
      | some h =>
        obtain ⟨v, hv⟩ := Stir.some (goodAllS_at hg e)
        exact ⟨v, fun h' hh => by injection hh with hh; subst hh; exact hv⟩
    exact ⟨fun k => (hx k).choose, fun k => (hx k).choose_spec⟩
  -- the end of the first part
  have final : ∀ (V : Nat → Value) (listed : Array Bool) (w' : World), (∀ (k : Nat) (h : Stir), hs[k]? = some h → h.sh (V k)) → I (seen V listed) w' → (∀ j, j < n → listed.getD j false = true) → (∀ j, n ≤ j → listed.getD j false = false) → (∀ (j : Nat) (h : Stir), hs[j]? = some h → listed.getD j false = true → h.r w' (V j)) →
      wpList P l.toArray Q (l.drop n) (frameOf l.toArray V (fun k => listed.getD k false) a l.toArray.size) w' := by
    intro V listed w' hV hb hall hno hr
    have := (key V hV).2 (seen V listed) w' (fun j hj => by unfold seen; rw [hall j (by omega)]; rfl) hb (allS_all _ fun j h hj hjh => hr j h hjh (hall j (by omega)))
    rw [hn] at this
    have e1 : frameOf l.toArray V (fun k => listed.getD k false) a n = frameOf l.toArray V (fun _ => true) a n := frameOf_congr n fun j hj => ⟨hall j hj, fun _ => rfl⟩
    have e2 : ∀ m, n ≤ m → frameOf l.toArray V (fun k => listed.getD k false) a m = frameOf l.toArray V (fun k => listed.getD k false) a n := by
      intro m
      induction m with
      | zero => intro hm'; obtain rfl : n = 0 := by omega
                rfl
      | succ m ih =>
        intro hm'
        rcases Nat.eq_or_lt_of_le hm' with e | e
        · rw [e]
        · rw [frameOf, ih (by omega), if_neg]; rw [hno m (by omega)]; exact Bool.false_ne_true
    rw [e2 _ hnl, e1]
    exact this
  refine wp_region_any hm ?_
  refine wpAny_inv (fun listed a' w' => ((∀ j, n ≤ j → listed.getD j false = false) ∧ ∃ V : Nat → Value, (∀ (k : Nat) (h : Stir), hs[k]? = some h → h.sh (V k)) ∧ a' = frameOf l.toArray V (fun k => listed.getD k false) a l.toArray.size ∧ I (seen V listed) w' ∧ ∀ (j : Nat) (h : Stir), hs[j]? = some h → listed.getD j false = true → h.r w' (V j)) ∨
      ∃ m, n ≤ m ∧ (∀ j, j < m → listed.getD j false = true) ∧ (∀ j, m ≤ j → listed.getD j false = false) ∧ wpList P l.toArray Q (l.drop m) a' w') ?_ ?_ _ _ _ _ (left_le _ _) Shut.none (.inl ⟨fun j _ => ?_, ?_⟩)
  · intro listed a' w' i hsh hI hr
    obtain ⟨hun, oi, hoi, _⟩ := mem_ready.1 hr
    have hi : i < l.toArray.size := (Array.getElem?_eq_some_iff.1 hoi).1
    have hil : i < listed.size := by rw [hsh.size]; exact hi
    have hunf := listed_both hun
    have hset : (listed.setIfInBounds i true).getD i false = true := set_same hil false
    have tailstep : ∀ m, n ≤ m → (∀ j, j < m → listed.getD j false = true) → (∀ j, m ≤ j → listed.getD j false = false) → n ≤ i → wpList P l.toArray Q (l.drop m) a' w' →
        wpOp P l.toArray Q i (fun a'' w'' => ((∀ j, n ≤ j → (listed.setIfInBounds i true).getD j false = false) ∧ ∃ V : Nat → Value, (∀ (k : Nat) (h : Stir), hs[k]? = some h → h.sh (V k)) ∧ a'' = frameOf l.toArray V (fun k => (listed.setIfInBounds i true).getD k false) a l.toArray.size ∧ I (seen V (listed.setIfInBounds i true)) w'' ∧ ∀ (j : Nat) (h : Stir), hs[j]? = some h → (listed.setIfInBounds i true).getD j false = true → h.r w'' (V j)) ∨
          ∃ m, n ≤ m ∧ (∀ j, j < m → (listed.setIfInBounds i true).getD j false = true) ∧ (∀ j, m ≤ j → (listed.setIfInBounds i true).getD j false = false) ∧ wpList P l.toArray Q (l.drop m) a'' w'') a' w' := by
      intro m hnm hall hno hni hw
      have him : i = m := by
        rcases Nat.lt_trichotomy i m with h' | h' | h'
        · rw [hall i h'] at hunf; cases hunf
        · exact h'
        · have h1 := ((htail i hi).resolve_left (by omega)) m h'
          have h2 := reach_listed hsh dd i m (fun k hk => waits_listed hr hk) h1
          rw [hno m (Nat.le_refl _)] at h2; cases h2
      subst him
      have hli : l[i]? = some oi := by simpa using hoi
      have hdrop : l.drop i = oi :: l.drop (i + 1) := by
        have hlt : i < l.length := by omega
        rw [List.drop_eq_getElem_cons hlt]
        congr 1
        rw [List.getElem?_eq_getElem hlt] at hli
        exact Option.some.inj hli
      rw [hdrop] at hw
      simp only [wpList] at hw
      have hall' : ∀ j, j < i + 1 → (listed.setIfInBounds i true).getD j false = true := fun j hj => by
        rcases Nat.lt_or_ge j i with h' | h'
        · rw [getD_set_ne false (by omega)]; exact hall j h'
        · obtain rfl : j = i := by omega
          exact hset
      have hno' : ∀ j, i + 1 ≤ j → (listed.setIfInBounds i true).getD j false = false := fun j hj => by
        rw [getD_set_ne false (by omega)]; exact hno j (by omega)
      unfold Go.wpOp
      simp only [hoi]
      split
      · rename_i hwt
        rw [if_pos hwt] at hw
        exact hw.imp (Oper.wp_mono fun a'' w'' h'' => .inr ⟨i + 1, by omega, hall', hno', h''⟩) (fun h => h)
      · rename_i hwt
        rw [if_neg hwt] at hw
        exact .inr ⟨i + 1, by omega, hall', hno', hw⟩
    rcases hI with ⟨hno, V, hV, rfl, hb, hrr⟩ | ⟨m, hnm, hall, hno, hw⟩
    · rcases Nat.lt_or_ge i n with hin | hin
      · -- an operation of the first part
        have hx : ∃ h, hs[i]? = some h := ⟨hs[i]'(by omega), by simp⟩
        obtain ⟨hh, hhi⟩ := hx
        obtain ⟨o', ho', hask⟩ := (key V hV).1 i hh (Nat.zero_le _) hhi
        obtain rfl : oi = o' := Option.some.inj (hoi.symm.trans ho')
        have hsee := H.sees (V := V) (V' := V) (M := fun _ => true) (a := a) hsh hoi hr (fun k _ hk => by cases hk) (fun _ _ => rfl)
        have hput : ∀ v, (frameOf l.toArray V (fun k => listed.getD k false) a l.toArray.size).put oi.dst v = frameOf l.toArray (fun k => if k = i then v else V k) (fun k => (listed.setIfInBounds i true).getD k false) a l.toArray.size := fun v => by
          have e1 : dstOf l.toArray i = oi.dst := by simp [dstOf, hoi]
          rw [H.frame_put hsh hi hun, e1, if_pos rfl]
          congr 1
          exact frameOf_congr _ fun j _ => ⟨rfl, fun hj => by rw [if_neg (fun e => by subst e; rw [hunf] at hj; cases hj)]⟩
        have hnext : ∀ v w'', I (upd (seen V listed) i v) w'' → (∀ (j : Nat) (h : Stir), hs[j]? = some h → j ≠ i → listed.getD j false = true → h.r w' (V j) → h.r w'' (V j)) → hh.r w'' v → ((∀ j, n ≤ j → (listed.setIfInBounds i true).getD j false = false) ∧ ∃ V' : Nat → Value, (∀ (k : Nat) (h : Stir), hs[k]? = some h → h.sh (V' k)) ∧ (frameOf l.toArray V (fun k => listed.getD k false) a l.toArray.size).put oi.dst v = frameOf l.toArray V' (fun k => (listed.setIfInBounds i true).getD k false) a l.toArray.size ∧ I (seen V' (listed.setIfInBounds i true)) w'' ∧ ∀ (j : Nat) (h : Stir), hs[j]? = some h → (listed.setIfInBounds i true).getD j false = true → h.r w'' (V' j)) := by
          intro v w'' hb' hkeep hrv
          refine ⟨fun j hj => by rw [getD_set_ne false (by omega)]; exact hno j hj, fun k => if k = i then v else V k, fun k h hk => ?_, hput v, by rw [seen_upd hil]; exact hb', fun j h hjh hj => ?_⟩
          · by_cases e : k = i
            · subst e
              obtain rfl : hh = h := Option.some.inj (hhi.symm.trans hk)
              simp only [if_true]
              exact Stir.r_sh hrv
            · simp only [if_neg e]; exact hV k h hk
          · by_cases e : j = i
            · subst e
              obtain rfl : hh = h := Option.some.inj (hhi.symm.trans hjh)
              simp only [if_true]
              exact hrv
            · simp only [if_neg e]
              rw [getD_set_ne false (Ne.symm e)] at hj
              exact hkeep j h hjh e hj (hrr j h hjh hj)
        unfold Go.wpOp
        simp only [hoi]
        rw [wanted_of_slots hsee]
        unfold Oper.invAsk at hask
        by_cases hwt : Region.wanted oi (yielded l.toArray (frameOf l.toArray V (fun _ => true) a i).tmps) = true
        · rw [if_pos hwt] at hask
          rw [if_pos hwt]
          have h1 := hask (seen V listed) w' hb (by unfold seen; rw [hunf]; rfl) (depsS_all _ fun j h hj hjh hw => hrr j h hjh (waits_listed hr hw))
          have hst : ∀ v w'', hh.K w' w'' → (hh.r w'' v ∧ I (upd (seen V listed) i v) w'') → _ := fun v w'' hk hrv =>
            hnext v w'' hrv.2 (fun j h hjh hji hj hr1 => by
            cases hh with
            | const c => exact Stir.r_mono (goodAllS_at hg hjh) hk hr1
            | held s r => exact Stir.r_mono (goodAllS_at hg hjh) hk hr1
            | stir s r K =>
              rcases (hx i s r K hhi) j h hjh hji with h1 | h1
              · have h2 := reach_listed2 hsh 6 j i hj h1
                rw [hunf] at h2
                cases h2
              · exact h1 _ _ _ (hIG _ _ hb) (hIG _ _ hrv.2) hk hr1) hrv.1
          refine .inl (Oper.wp_of_stir ?_ fun v w'' hb' hrv => .inl (hst v w'' hb' hrv))
          unfold Oper.stirAt at h1 ⊢
          rwa [exec_of_slots (ops := l.toArray) (fun cs b => Region.noSelect_spec H.sel i oi cs b hoi) hsee]
        · rw [if_neg hwt] at hask
          rw [if_neg hwt]
          exact .inl (hnext undef w' (hask.2 _ _ hb) (fun j h _ _ _ h1 => h1) (hask.1 _))
      · have hall : ∀ j, j < n → listed.getD j false = true := fun j hj => reach_listed hsh dd i j (fun k hk => waits_listed hr hk) (((htail i hi).resolve_left (by omega)) j (by omega))
        exact tailstep n (Nat.le_refl _) hall hno hin (final V listed w' hV hb hall hno hrr)
    · have hni : n ≤ i := by
        rcases Nat.lt_or_ge i n with h' | h'
        · rw [hall i (by omega)] at hunf; cases hunf
        · exact h'
      exact tailstep m hnm hall hno hni hw
  · intro listed a' w' hsh hI hr
    have hall := H.all hsh hr
    rcases hI with ⟨hno, V, hV, rfl, hb, hrr⟩ | ⟨m, hnm, hall', hno, hw⟩
    · have hnn : n = l.length := by
        rcases Nat.lt_or_ge n l.length with h' | h'
        · have := hall n (by omega); rw [hno n (Nat.le_refl _)] at this; cases this
        · omega
      have := final V listed w' hV hb (fun j hj => hall j (by omega)) hno hrr
      rw [hnn, List.drop_length] at this
      exact this
    · have hmm : l.length ≤ m := by
        rcases Nat.lt_or_ge m l.length with h' | h'
        · have := hall m (by omega); rw [hno m (Nat.le_refl _)] at this; cases this
        · exact h'
      rw [List.drop_eq_nil_of_le hmm] at hw
      exact hw
  · rcases Nat.lt_or_ge j l.length with h' | h' <;> simp [h']
  · obtain ⟨V, hV⟩ := hwit
    refine ⟨V, hV, ?_, ?_, fun j h _ hj => ?_⟩
    · symm
      have : ∀ k, frameOf l.toArray V (fun k => (Array.replicate l.toArray.size false).getD k false) a k = a := fun k => by
        induction k with
        | zero => rfl
        | succ k ih => rw [frameOf, ih, if_neg]; rcases Nat.lt_or_ge k l.length with h' | h' <;> simp [h']
      exact this _
    · rw [show seen V (Array.replicate l.toArray.size false) = fun _ => none from funext fun j => by unfold seen; rcases Nat.lt_or_ge j l.length with h' | h' <;> simp [h']]
      exact hI0 _ (Below.refl _ _).drew
    · rcases Nat.lt_or_ge j l.length with h' | h' <;> simp [h'] at hj
theorem wpInv_end {I : (Nat → Option Value) → World → Prop} {Q : Act → World → Prop} {k : Nat} {l : List Oper} {a : Act} {F : List (Nat × (World → Prop))} {V : Nat → Value} (h : ∀ ρ w', (∀ j, j < k → ρ j = some (V j)) → I ρ w' → allP F w' → Q a w') : wpInv P md ops I Q k l [] a F V := by
  cases l <;> exact h
/-- what reads or makes memory leaves the invariant as it is, if this does not look at its value -/
def deaf (I : (Nat → Option Value) → World → Prop) (k : Nat) : Prop := ∀ ρ w w' v, I ρ w → Below w.heap.size w w' → I (upd ρ k v) w'
theorem stirAt_more {P : Program} {o : Oper} {a : Act} {w : World} {r r' : World → Value → Prop} (h : Oper.stirAt P o a w Newer r) (hr : ∀ w' v, Below w.heap.size w w' → r w' v → r' w' v) : Oper.stirAt P o a w Newer r' := by
  unfold Oper.stirAt at h ⊢
  generalize (execOp a.eval o).run P w = x at *
  cases x with
  | ok n w' =>
    cases n <;> simp only [Oper.stirUpon] at h ⊢
    case value u => exact ⟨h.1, hr _ _ h.1 h.2⟩
    case skip => exact ⟨h.1, h.2.1, hr _ _ (h.1 ▸ h.2.1) h.2.2⟩
    case enter f args => exact ⟨h.1, h.2.mono fun e w'' ⟨v, he, hw'', h3⟩ => ⟨v, he, hw'', hr _ _ hw'' h3⟩⟩
  | halt x w' => simp only [Oper.stirUpon] at h
/-- stirAt behind a word that nothing unfolds by itself (a tactic that asks the goal for its head would run the operation) -/
structure StirH (P : Program) (o : Oper) (a : Act) (w : World) (K : World → World → Prop) (R : World → Value → Prop) : Prop where
  out : Oper.stirAt P o a w K R
theorem wpInv_const {I : (Nat → Option Value) → World → Prop} {Q : Act → World → Prop} {k : Nat} {o : Oper} {l : List Oper} {c : Value} {hs : List Stir} {a : Act} {F : List (Nat × (World → Prop))} {V : Nat → Value} (hd : deaf I k) (hg : o.guard = none)
    (h1 : ∀ ρ w', I ρ w' → depsP md ops k F w' → StirH P o a w' Newer (fun _ v => v = c))
    (h2 : wpInv P md ops I Q (k + 1) l hs (a.put o.dst c) F (fun j => if j = k then c else V j)) : wpInv P md ops I Q k (o :: l) (.const c :: hs) a F V := by
  refine ⟨?_, fun v hv => by rw [show v = c from hv]; exact h2⟩
  unfold Oper.invAsk Region.wanted
  rw [hg]
  exact fun ρ w' hI _ hF => stirAt_more (h1 ρ w' hI hF).out fun w'' v hb hv => ⟨hv, hd _ _ _ _ hI hb⟩
theorem wpInv_held {I : (Nat → Option Value) → World → Prop} {Q : Act → World → Prop} {k : Nat} {o : Oper} {l : List Oper} {s : Value → Prop} {r : World → Value → Prop} {hs : List Stir} {a : Act} {F : List (Nat × (World → Prop))} {V : Nat → Value} (hd : deaf I k) (hg : o.guard = none)
    (h1 : ∀ ρ w', I ρ w' → depsP md ops k F w' → StirH P o a w' Newer (fun w v => s v ∧ r w v))
    (h2 : ∀ v, s v → wpInv P md ops I Q (k + 1) l hs (a.put o.dst v) ((k, fun w => r w v) :: F) (fun j => if j = k then v else V j)) : wpInv P md ops I Q k (o :: l) (.held s r :: hs) a F V := by
  refine ⟨?_, fun v hv => h2 v hv⟩
  unfold Oper.invAsk Region.wanted
  rw [hg]
  exact fun ρ w' hI _ hF => stirAt_more (h1 ρ w' hI hF).out fun w'' v hb hv => ⟨hv, hd _ _ _ _ hI hb⟩
theorem wpInv_stir {I : (Nat → Option Value) → World → Prop} {Q : Act → World → Prop} {k : Nat} {o : Oper} {l : List Oper} {s : Value → Prop} {r : World → Value → Prop} {S : World → World → Prop} {hs : List Stir} {a : Act} {F : List (Nat × (World → Prop))} {V : Nat → Value} (hg : o.guard = none)
    (h1 : ∀ ρ w', I ρ w' → ρ k = none → depsP md ops k F w' → StirH P o a w' S (fun w v => (s v ∧ r w v) ∧ I (upd ρ k v) w))
    (h2 : ∀ v, s v → wpInv P md ops I Q (k + 1) l hs (a.put o.dst v) ((k, fun w => r w v) :: F) (fun j => if j = k then v else V j)) : wpInv P md ops I Q k (o :: l) (.stir s r S :: hs) a F V := by
  refine ⟨?_, fun v hv => h2 v hv⟩
  unfold Oper.invAsk Region.wanted
  rw [hg]
  exact fun ρ w' hI hn hF => (h1 ρ w' hI hn hF).out
end
end Go.Proofs.YtcdlbpmffkoejaaDoor
/- Walks of the reference 05: lists. Conditions: at most 16 tests. -/
namespace Go.Proofs.YtcdlbpmffkoejaaDoor
open Go.RowKit Go.Sort
/-! ### An append to a row of the call's own: where the row lies afterwards -/
theorem run_append_own2 {P : Program} (w : World) (base : Nat) (t ty e : TypeId) (i : TypeInfo) (z : Value) (size bytes : Nat) (ht : P.underlying t = some (.slice e)) (hi : P.info? e = some i) (hz : i.zero = some z)
    (hsize : i.size = size) (hby : i.bytes = bytes) (hzs : z.cells.size = size) (hsz : 0 < size)
    (v : Value) (n : Nat) (xs : List Value) (hown : w.ownsRow base e size v n xs)
    (a : Addr) (m c : Nat) (news : List Value) (hl : news.length = m * size) (hnews : ∀ j u, news[j]? = some u → w.cell? (a.add j) = some u) (h1 : ∀ u ∈ news, u.oneCell' = true)
    (h63 : n + m ≤ maxLen) (hbytes : (n + m) * bytes ≤ 140737488355328) (hbase : base ≤ w.heap.size) :
    ∃ v' w', (Builtin.append_ #[t, t] ty #[v, .slice (some a) m c]).run P w = .ok v' w' ∧ w'.ownsRow base e size v' (n + m) (xs ++ news) ∧ w.grownBy w' v.ownBlock ∧ (v'.ownBlock = v.ownBlock ∨ ∀ g, v'.ownBlock = some g → w.heap.size ≤ g) := by
  obtain ⟨v', w', hr, h2, h3, _⟩ := run_append_own (P := P) w base t ty e i z size bytes ht hi hz hsize hby hzs hsz v n xs hown a m c news hl hnews h1 h63 hbytes hbase
  refine ⟨v', w', hr, h2, h3, ?_⟩
  rcases id hown.2 with ⟨rfl, rfl⟩ | ⟨g, cap, cur, rfl, hbg, hg, hnc, hcm, hcs, htake⟩
  · have hx : xs = [] := List.eq_nil_of_length_eq_zero (by simpa using hown.1)
    subst hx
    obtain ⟨v2, w2, hr2, h4, _, _⟩ := run_append_own (P := P) w w.heap.size t ty e i z size bytes ht hi hz hsize hby hzs hsz (.slice none 0 0) 0 [] (World.ownsRow_nil _ _ _ _) a m c news hl hnews h1 h63 hbytes (Nat.le_refl _)
    rw [hr] at hr2
    injection hr2 with e1 e2
    subst e1 e2
    exact .inr fun g hg => (owns_typed h4 g hg).1
  · by_cases hroom : n + m ≤ cap
    · have hfit : n * size + news.length ≤ cur.size := by rw [hl, hcs, ← Nat.add_mul]; exact Nat.mul_le_mul_right _ hroom
      have hr2 := run_append_room (P := P) w t ty e i ht hi g n cap cur hg a m c news (by rw [hl, hsize]) hnews h1 hroom (by rw [hsize]; exact hfit)
      rw [hr] at hr2
      injection hr2 with e1 e2
      subst e1
      exact .inl rfl
    · obtain ⟨v2, w2, hr2, h4, _⟩ := run_append_arg_grows (P := P) w t ty e i z size bytes ht hi hz hsize hby hzs hsz ⟨g, 0, none⟩ n cap xs hown.1 (fun j u h => hown.cells (g := g) rfl j u h) a m c news hl hnews (by omega) h63 hbytes
      rw [hr] at hr2
      injection hr2 with e1 e2
      subst e1 e2
      exact .inr fun g hg => (owns_typed h4 g hg).1
/-! ### Lists of lists of tests -/
def TRow (w : World) (u : Value) (l : List Tp) : Prop := ∃ A c, u = .slice A l.length c ∧ RowK w A 58 (tstE.cells l)
theorem TRow.kept {ts : List TypeId} {w w' : World} {u : Value} {l : List Tp} (h : TRow w u l) (hk : Kept ts w w') (ht : 58 ∈ ts) : TRow w' u l := by
  obtain ⟨A, c, e, hr⟩ := h
  exact ⟨A, c, e, hr.kept hk ht⟩
def TRows (w : World) (LL : List (List Tp)) (us : List Value) : Prop := us.length = LL.length ∧ ∀ (j : Nat) (u : Value) (l : List Tp), us[j]? = some u → LL[j]? = some l → TRow w u l
theorem TRows.kept {ts : List TypeId} {w w' : World} {LL : List (List Tp)} {us : List Value} (h : TRows w LL us) (hk : Kept ts w w') (ht : 58 ∈ ts) : TRows w' LL us := ⟨h.1, fun j u l h1 h2 => (h.2 j u l h1 h2).kept hk ht⟩
theorem TRows.snoc {w : World} {LL : List (List Tp)} {us : List Value} {u : Value} {l : List Tp} (h : TRows w LL us) (hu : TRow w u l) : TRows w (LL ++ [l]) (us ++ [u]) :=
  ⟨by rw [List.length_append, List.length_append, h.1]; rfl, fun j v l' h1 h2 => by
    rcases Nat.lt_or_ge j us.length with hlt | hge
    · rw [List.getElem?_append_left hlt] at h1
      rw [List.getElem?_append_left (by rw [← h.1]; exact hlt)] at h2
      exact h.2 j v l' h1 h2
    · rw [List.getElem?_append_right hge] at h1
      rw [List.getElem?_append_right (by rw [← h.1]; exact hge), ← h.1] at h2
      have h0 : j - us.length = 0 := by
        have := (List.getElem?_eq_some_iff.1 h1).1
        simp only [List.length_cons, List.length_nil] at this
        omega
      rw [h0] at h1 h2
      simp at h1 h2
      subst h1 h2
      exact hu⟩
/-- a list of lists of tests, of the call's own -/
def ListsAt (w : World) (base : Nat) (v : Value) (LL : List (List Tp)) : Prop := ∃ us, w.ownsRow base 60 1 v LL.length us ∧ TRows w LL us
theorem ListsAt.mono {w w' : World} {base : Nat} {v : Value} {LL : List (List Tp)} (h : ListsAt w base v LL) (hb : Below w.heap.size w w') : ListsAt w' base v LL := by
  obtain ⟨us, h1, h2⟩ := h
  exact ⟨us, owns_below h1 hb, h2.kept (Kept.of_below (l := [58]) hb) (by simp)⟩
theorem ListsAt.lower {w : World} {base base' : Nat} {v : Value} {LL : List (List Tp)} (h : ListsAt w base v LL) (hb : base' ≤ base) : ListsAt w base' v LL := by
  obtain ⟨us, h1, h2⟩ := h
  exact ⟨us, owns_lower h1 hb, h2⟩
end Go.Proofs.YtcdlbpmffkoejaaDoor
/- Three rows of the call's own that grow in one region, in any order: the invariant of wp_region_inv. No program in sight. -/
namespace Go.Proofs.YtcdlbpmffkoejaaDoor
open Go.RowKit Go.Sort
theorem owns_apart {w w' : World} {base : Nat} {e : TypeId} {size n : Nat} {u : Value} {xs : List Value} {row : Option Nat} (h : w.ownsRow base e size u n xs) (hg : w.grownBy w' row) (hn : ∀ g, u.ownBlock = some g → some g ≠ row) : w'.ownsRow base e size u n xs :=
  ⟨h.1, h.2.imp id fun ⟨g, cap, cur, h1, h2, h3, h4⟩ => ⟨g, cap, cur, h1, h2, (hg.block g (Array.getElem?_eq_some_iff.1 h3).1 (hn g (by rw [h1]; rfl))).trans h3, h4⟩⟩
def apartV (v u : Value) : Prop := ∀ g, v.ownBlock = some g → u.ownBlock ≠ some g
theorem apartV.symm {v u : Value} (h : apartV v u) : apartV u v := fun g h1 h2 => h g h2 h1
/-- row c is old c with L c, or what stands at op idx c with L' c -/
def I3 (wB : World) (N k : Nat) (old : Nat → Value) (idx : Nat → Nat) (L L' : Nat → List Value) (ρ : Nat → Option Value) (w : World) : Prop :=
  Below wB.heap.size wB w ∧ N ≤ w.heap.size ∧
  (∀ c, c < 3 → (ρ (idx c) = none → w.ownsRow wB.heap.size 3 1 (old c) k (L c)) ∧ ∀ v, ρ (idx c) = some v → w.ownsRow wB.heap.size 3 1 v (k + 1) (L' c)) ∧
  ∀ c d, c < 3 → d < 3 → c ≠ d → ∀ v, ρ (idx c) = some v → apartV v (old d) ∧ ∀ u, ρ (idx d) = some u → apartV v u
theorem I3.deaf (wB : World) (N k : Nat) (old : Nat → Value) (idx : Nat → Nat) (L L' : Nat → List Value) {j : Nat} (hj : ∀ c, c < 3 → idx c ≠ j) : deaf (I3 wB N k old idx L L') j := by
  intro ρ w w' v ⟨h1, h2, h3, h4⟩ hb
  have e : ∀ c, c < 3 → upd ρ j v (idx c) = ρ (idx c) := fun c hc => if_neg (hj c hc)
  refine ⟨bTrans h1 hb, Nat.le_trans h2 hb.size, fun c hc => ?_, fun c d hc hd hne => ?_⟩
  · rw [e c hc]
    exact ⟨fun h => owns_below ((h3 c hc).1 h) hb, fun v h => owns_below ((h3 c hc).2 v h) hb⟩
  · rw [e c hc, e d hd]
    exact h4 c d hc hd hne
theorem I3.start {wB w : World} {N k : Nat} {old : Nat → Value} {idx : Nat → Nat} {L L' : Nat → List Value} (h1 : Below wB.heap.size wB w) (h2 : N ≤ w.heap.size) (h3 : ∀ c, c < 3 → w.ownsRow wB.heap.size 3 1 (old c) k (L c)) {w' : World} (hb : Below w.heap.size w w') : I3 wB N k old idx L L' (fun _ => none) w' :=
  ⟨bTrans h1 hb, Nat.le_trans h2 hb.size, fun c hc => ⟨fun _ => owns_below (h3 c hc) hb, fun v h => by cases h⟩, fun c d _ _ _ v h => by cases h⟩
theorem I3.step {wB : World} {N k : Nat} {old : Nat → Value} {idx : Nat → Nat} {L L' : Nat → List Value} {ρ : Nat → Option Value} {w : World} (h : I3 wB N k old idx L L' ρ w) (hinj : ∀ c d, c < 3 → d < 3 → idx c = idx d → c = d) (hlt : ∀ c, c < 3 → ∀ g, (old c).ownBlock = some g → g < N) (hap : ∀ c d, c < 3 → d < 3 → c ≠ d → apartV (old c) (old d))
    {c : Nat} (hc : c < 3) {v' : Value} {w' : World} (hown : w'.ownsRow wB.heap.size 3 1 v' (k + 1) (L' c)) (hold : w.ownsRow wB.heap.size 3 1 (old c) k (L c)) (hg : w.grownBy w' (old c).ownBlock) (hw : v'.ownBlock = (old c).ownBlock ∨ ∀ g, v'.ownBlock = some g → w.heap.size ≤ g) : I3 wB N k old idx L L' (upd ρ (idx c) v') w' := by
  obtain ⟨h1, h2, h3, h4⟩ := h
  have hz : w.heap.size ≤ w'.heap.size := hg.size
  have es : upd ρ (idx c) v' (idx c) = some v' := if_pos rfl
  have en : ∀ d, d < 3 → d ≠ c → upd ρ (idx c) v' (idx d) = ρ (idx d) := fun d hd hne => if_neg fun e => hne (hinj d c hd hc e)
  -- the new row lies apart
  have hno : ∀ d, d < 3 → d ≠ c → apartV v' (old d) := fun d hd hne g hg1 hg2 => by
    rcases hw with hw | hw
    · exact hap c d hc hd (Ne.symm hne) g (hw ▸ hg1) hg2
    · have := hw g hg1
      have := hlt d hd g hg2
      omega
  have hnd : ∀ d, d < 3 → d ≠ c → ∀ u, ρ (idx d) = some u → apartV v' u := fun d hd hne u hu g hg1 hg2 => by
    rcases hw with hw | hw
    · exact (h4 d c hd hc hne u hu).1 g hg2 (hw ▸ hg1)
    · have := hw g hg1
      have := (((h3 d hd).2 u hu).lt g hg2).2
      omega
  refine ⟨h1.grown hg h1.size (fun q hq => (hold.lt q hq).1), Nat.le_trans h2 hz, fun d hd => ?_, fun a b ha hb hne v hv => ?_⟩
  · by_cases e : d = c
    · subst e
      rw [es]
      exact ⟨fun h => by (cases h), fun v h => by injection h with h; subst h; exact hown⟩
    · rw [en d hd e]
      exact ⟨fun h => owns_apart ((h3 d hd).1 h) hg fun g hg1 hg2 => hap d c hd hc e g hg1 hg2.symm, fun u hu => owns_apart ((h3 d hd).2 u hu) hg fun g hg1 hg2 => (h4 d c hd hc e u hu).1 g hg1 hg2.symm⟩
  · by_cases ea : a = c
    · subst ea
      rw [es] at hv
      injection hv with hv
      subst hv
      refine ⟨hno b hb (Ne.symm hne), fun u hu => ?_⟩
      rw [en b hb (Ne.symm hne)] at hu
      exact hnd b hb (Ne.symm hne) u hu
    · rw [en a ha ea] at hv
      refine ⟨(h4 a b ha hb hne v hv).1, fun u hu => ?_⟩
      by_cases eb : b = c
      · subst eb
        rw [es] at hu
        injection hu with hu
        subst hu
        exact (hnd a ha ea v hv).symm
      · rw [en b hb eb] at hu
        exact (h4 a b ha hb hne v hv).2 u hu
/-- 'append(out, x)' of a row of the call's own, as one of many in a region -/
theorem stir_own3 {P : Program} {o : Oper} {a : Act} {w : World} {R : World → Value → Prop} (s x : Operand) (t : TypeId) (hop : o.op = Op.call { callee := Callee.builtin Builtin.append, args := #[s, x], argTypes := #[t, t] })
    (base : Nat) (e : TypeId) (z : Value) (size bytes : Nat) (hinfo : (P.info? e).map (fun i => (i.zero, i.size, i.bytes)) = some (some z, size, bytes)) (ht : P.underlying t = some (.slice e)) (hzs : z.cells.size = size) (hsz : 0 < size)
    (v : Value) (n : Nat) (xs : List Value) (hs : a.eval s = v) (hown : w.ownsRow base e size v n xs) (ad : Addr) (m c : Nat) (news : List Value) (hx : a.eval x = .slice (some ad) m c) (hl : news.length = m * size) (hnews : ∀ j u, news[j]? = some u → w.cell? (ad.add j) = some u) (h1 : ∀ u ∈ news, u.oneCell' = true)
    (h63 : n + m ≤ maxLen) (hbytes : (n + m) * bytes ≤ 140737488355328) (hbase : base ≤ w.heap.size)
    (h : ∀ v' w', w'.ownsRow base e size v' (n + m) (xs ++ news) → w.grownBy w' v.ownBlock → (v'.ownBlock = v.ownBlock ∨ ∀ g, v'.ownBlock = some g → w.heap.size ≤ g) → R w' v') : Oper.stirAt P o a w (fun w w' => w.grownBy w' v.ownBlock) R := by
  obtain ⟨i0, hi, iz0, iz1, iz2⟩ := info_parts hinfo
  obtain ⟨v', w', hrun, h2, h3, h4⟩ := run_append_own2 (P := P) w base t o.type e i0 z size bytes ht hi iz0 iz1 iz2 hzs hsz v n xs hown ad m c news hl hnews h1 h63 hbytes hbase
  unfold Oper.stirAt
  simp only [execOp, hop, resolve, invoke, builtin, List.map_toArray, List.map_cons, List.map_nil, hs, hx, hrun, Result.andThen, Sem.run_bind, Sem.run_pure, Oper.stirUpon]
  exact ⟨h3, h v' w' h2 h3 h4⟩
theorem owns_slice {w : World} {base : Nat} {e : TypeId} {size : Nat} {v : Value} {n : Nat} {xs : List Value} (h : w.ownsRow base e size v n xs) : ∃ A c, v = .slice A n c := by
  rcases h.2 with ⟨rfl, rfl⟩ | ⟨g, cap, cur, hv, _⟩
  · exact ⟨_, _, rfl⟩
  · exact ⟨_, _, hv⟩
/-- a new row of one number, behind N -/
def oneN (N : Nat) (d : Int) (w : World) (v : Value) : Prop := ∀ b, v = .slice (some ⟨b, 0, none⟩) 1 1 → N ≤ b ∧ b < w.heap.size ∧ w.cell? ⟨b, 0, none⟩ = some (.int .i64 d)
theorem oneN.mono {N : Nat} {d : Int} {w w' : World} {v : Value} (h : oneN N d w v) (hb : Below w.heap.size w w') : oneN N d w' v := fun b e => by
  obtain ⟨h1, h2, h3⟩ := h b e
  exact ⟨h1, Nat.lt_of_lt_of_le h2 hb.size, (hb.cell (p := ⟨b, 0, none⟩) h2).trans h3⟩
theorem oneN.good (N : Nat) (d : Int) : (Stir.held one1 (oneN N d)).good := ⟨⟨_, 0, rfl⟩, fun _ _ _ hb h => h.mono hb⟩
theorem oneN.grown {N : Nat} {d : Int} {w w' : World} {v : Value} {row : Option Nat} (h : oneN N d w v) (hg : w.grownBy w' row) (hr : ∀ g, row = some g → g < N) : oneN N d w' v := fun b e => by
  obtain ⟨h1, h2, h3⟩ := h b e
  have hz := hg.size
  refine ⟨h1, by omega, ?_⟩
  have hblk := hg.block b h2 (fun e' => by have := hr b e'.symm; omega)
  rw [← h3]
  unfold World.cell?
  simp only [hblk]
end Go.Proofs.YtcdlbpmffkoejaaDoor
/- The region of three rows that grow: what is asked of each operation (printed by mkSum.py). No program in sight. -/
namespace Go.Proofs.YtcdlbpmffkoejaaDoor
open Go.RowKit Go.Sort
def sumHs (N k X Y : Nat) (vb vn vt SX SY KI PX PY : Value) (x y s d : Int) : List Stir :=
  [.const vb, .const (.pointer (some ⟨X, 3, none⟩)), .const SX, .const KI, .const PX, .const (.int .i64 x), .const (.pointer (some ⟨Y, 3, none⟩)), .const SY, .const KI, .const PY, .const (.int .i64 y), .const (.int .i64 s), .held one1 (oneN N s), .stir (fun v => ∃ A c, v = .slice A (k + 1) c) (fun _ _ => True) (fun w w' => w.grownBy w' vb.ownBlock), .const vn, .held one1 (oneN N 0), .stir (fun v => ∃ A c, v = .slice A (k + 1) c) (fun _ _ => True) (fun w w' => w.grownBy w' vn.ownBlock), .const vt, .const (.pointer (some ⟨X, 3, none⟩)), .const SX, .const KI, .const PX, .const (.int .i64 x), .const (.int .i64 d), .held one1 (oneN N d), .stir (fun v => ∃ A c, v = .slice A (k + 1) c) (fun _ _ => True) (fun w w' => w.grownBy w' vt.ownBlock)]
theorem sum_good (N k X Y : Nat) (vb vn vt SX SY KI PX PY : Value) (x y s d : Int) : goodAllS (sumHs N k X Y vb vn vt SX SY KI PX PY x y s d) :=
  ⟨trivial, trivial, trivial, trivial, trivial, trivial, trivial, trivial, trivial, trivial, trivial, trivial, oneN.good _ _, ⟨⟨_, none, 0, rfl⟩, fun _ _ _ _ _ => trivial⟩, trivial, oneN.good _ _, ⟨⟨_, none, 0, rfl⟩, fun _ _ _ _ _ => trivial⟩, trivial, trivial, trivial, trivial, trivial, trivial, trivial, oneN.good _ _, ⟨⟨_, none, 0, rfl⟩, fun _ _ _ _ _ => trivial⟩, trivial⟩
theorem sum_cross (md : Region.Mode) (ops : Array Oper) (N k X Y : Nat) (vb vn vt SX SY KI PX PY : Value) (x y s d : Int) (hb : ∀ g, vb.ownBlock = some g → g < N) (hn : ∀ g, vn.ownBlock = some g → g < N) (ht : ∀ g, vt.ownBlock = some g → g < N) : crossInv md ops (fun _ => True) (sumHs N k X Y vb vn vt SX SY KI PX PY x y s d) := by
  intro i s0 r K hi j h hj hne
  refine .inr ?_
  have key : ∀ (v : Value), (∀ g, v.ownBlock = some g → g < N) → ∀ w w' u, w.grownBy w' v.ownBlock → h.r w u → h.r w' u := by
    intro v hv w w' u hg hr
    match j, hj with
    | 0, hj => injection hj with hj; subst hj; exact hr
    | 1, hj => injection hj with hj; subst hj; exact hr
    | 2, hj => injection hj with hj; subst hj; exact hr
    | 3, hj => injection hj with hj; subst hj; exact hr
    | 4, hj => injection hj with hj; subst hj; exact hr
    | 5, hj => injection hj with hj; subst hj; exact hr
    | 6, hj => injection hj with hj; subst hj; exact hr
    | 7, hj => injection hj with hj; subst hj; exact hr
    | 8, hj => injection hj with hj; subst hj; exact hr
    | 9, hj => injection hj with hj; subst hj; exact hr
    | 10, hj => injection hj with hj; subst hj; exact hr
    | 11, hj => injection hj with hj; subst hj; exact hr
    | 12, hj => injection hj with hj; subst hj; exact ⟨hr.1, hr.2.grown hg hv⟩
    | 13, hj => injection hj with hj; subst hj; exact hr
    | 14, hj => injection hj with hj; subst hj; exact hr
    | 15, hj => injection hj with hj; subst hj; exact ⟨hr.1, hr.2.grown hg hv⟩
    | 16, hj => injection hj with hj; subst hj; exact hr
    | 17, hj => injection hj with hj; subst hj; exact hr
    | 18, hj => injection hj with hj; subst hj; exact hr
    | 19, hj => injection hj with hj; subst hj; exact hr
    | 20, hj => injection hj with hj; subst hj; exact hr
    | 21, hj => injection hj with hj; subst hj; exact hr
    | 22, hj => injection hj with hj; subst hj; exact hr
    | 23, hj => injection hj with hj; subst hj; exact hr
    | 24, hj => injection hj with hj; subst hj; exact ⟨hr.1, hr.2.grown hg hv⟩
    | 25, hj => injection hj with hj; subst hj; exact hr
    | j + 26, hj => simp [sumHs] at hj
  match i, hi with
  | 0, hi => injection hi with hi; cases hi
  | 1, hi => injection hi with hi; cases hi
  | 2, hi => injection hi with hi; cases hi
  | 3, hi => injection hi with hi; cases hi
  | 4, hi => injection hi with hi; cases hi
  | 5, hi => injection hi with hi; cases hi
  | 6, hi => injection hi with hi; cases hi
  | 7, hi => injection hi with hi; cases hi
  | 8, hi => injection hi with hi; cases hi
  | 9, hi => injection hi with hi; cases hi
  | 10, hi => injection hi with hi; cases hi
  | 11, hi => injection hi with hi; cases hi
  | 12, hi => injection hi with hi; cases hi
  | 13, hi =>
    injection hi with hi
    injection hi with e1 e2 e3
    subst e1 e2 e3
    exact fun w w' u _ _ hk hr => key _ hb w w' u hk hr
  | 14, hi => injection hi with hi; cases hi
  | 15, hi => injection hi with hi; cases hi
  | 16, hi =>
    injection hi with hi
    injection hi with e1 e2 e3
    subst e1 e2 e3
    exact fun w w' u _ _ hk hr => key _ hn w w' u hk hr
  | 17, hi => injection hi with hi; cases hi
  | 18, hi => injection hi with hi; cases hi
  | 19, hi => injection hi with hi; cases hi
  | 20, hi => injection hi with hi; cases hi
  | 21, hi => injection hi with hi; cases hi
  | 22, hi => injection hi with hi; cases hi
  | 23, hi => injection hi with hi; cases hi
  | 24, hi => injection hi with hi; cases hi
  | 25, hi =>
    injection hi with hi
    injection hi with e1 e2 e3
    subst e1 e2 e3
    exact fun w w' u _ _ hk hr => key _ ht w w' u hk hr
  | i + 26, hi => simp [sumHs] at hi
def sumOld (vb vn vt : Value) (c : Nat) : Value := if c = 0 then vb else if c = 1 then vn else vt
def sumIdx (c : Nat) : Nat := if c = 0 then 13 else if c = 1 then 16 else 25
def sumL (a b e : List Value) (c : Nat) : List Value := if c = 0 then a else if c = 1 then b else e
theorem three_c {Q : Nat → Prop} (h0 : Q 0) (h1 : Q 1) (h2 : Q 2) : ∀ c, c < 3 → Q c
  | 0, _ => h0
  | 1, _ => h1
  | 2, _ => h2
  | c + 3, h => absurd h (by omega)
theorem sumIdx_inj : ∀ c d, c < 3 → d < 3 → sumIdx c = sumIdx d → c = d := by
  intro c d hc hd
  revert hc
  revert c
  refine fun c hc => ?_
  match c, d, hc, hd with
  | 0, 0, _, _ => exact fun _ => rfl
  | 0, 1, _, _ => exact fun h => by simp [sumIdx] at h
  | 0, 2, _, _ => exact fun h => by simp [sumIdx] at h
  | 1, 0, _, _ => exact fun h => by simp [sumIdx] at h
  | 1, 1, _, _ => exact fun _ => rfl
  | 1, 2, _, _ => exact fun h => by simp [sumIdx] at h
  | 2, 0, _, _ => exact fun h => by simp [sumIdx] at h
  | 2, 1, _, _ => exact fun h => by simp [sumIdx] at h
  | 2, 2, _, _ => exact fun _ => rfl
  | c + 3, _, h, _ => omega
  | _, d + 3, _, h => omega
theorem sumIdx_ne {j : Nat} (h0 : j ≠ 13) (h1 : j ≠ 16) (h2 : j ≠ 25) : ∀ c, c < 3 → sumIdx c ≠ j := three_c (Ne.symm h0) (Ne.symm h1) (Ne.symm h2)
theorem sum_apart {vb vn vt : Value} (h1 : apartV vb vn) (h2 : apartV vb vt) (h3 : apartV vn vt) : ∀ c d, c < 3 → d < 3 → c ≠ d → apartV (sumOld vb vn vt c) (sumOld vb vn vt d) := by
  intro c d hc hd hne
  match c, d, hc, hd with
  | 0, 0, _, _ => exact absurd rfl hne
  | 0, 1, _, _ => exact h1
  | 0, 2, _, _ => exact h2
  | 1, 0, _, _ => exact h1.symm
  | 1, 1, _, _ => exact absurd rfl hne
  | 1, 2, _, _ => exact h3
  | 2, 0, _, _ => exact h2.symm
  | 2, 1, _, _ => exact h3.symm
  | 2, 2, _, _ => exact absurd rfl hne
  | c + 3, _, h, _ => omega
  | _, d + 3, _, h => omega
end Go.Proofs.YtcdlbpmffkoejaaDoor
/- The walk of Out of the package quarrels. Conditions: lengths are Go's. -/
namespace Go.Proofs.YtcdlbpmffkoejaaDoor
open Go.RowKit Go.Sort
end Go.Proofs.YtcdlbpmffkoejaaDoor
/- The statement QuarrelsLeft: the walk. Conditions: what is read fits into memory; the listed table holds what it holds. -/
namespace Go.Proofs.YtcdlbpmffkoejaaDoor
open Go.RowKit Go.Sort
theorem OwnL.le {w : World} {base : Nat} {v : Value} {l : List Int} (h : OwnL w base v l) : l.length ≤ 9223372036854775807 := by
  rcases h.2 with ⟨_, h⟩ | ⟨_, cap, _, _, _, _, h1, h2, _⟩
  · rw [h]; omega
  · unfold maxLen at h2; omega
open Classical in
/-- the list that Left hands back -/
noncomputable def Qt.leftO (t : Qt) : List Int := if t.Ok then t.leftL else []
open Classical in
/-- the list that Out hands back -/
noncomputable def Qt.outO (t : Qt) (n : Int) : List Int := if t.outErr n = 0 then t.outL n.toNat else []
/-- a slice that reads as a list of numbers, of a length of Go's -/
def LstM (w : World) (v : Value) (l : List Int) : Prop := LstI w v l ∧ l.length ≤ 9223372036854775807
theorem LstM.mono {w w' : World} {v : Value} {l : List Int} (h : LstM w v l) (hb : Below w.heap.size w w') : LstM w' v l := ⟨h.1.mono hb, h.2⟩
theorem OwnL.lstM {w : World} {base : Nat} {v : Value} {l : List Int} (h : OwnL w base v l) : LstM w v l := ⟨h.lst, h.le⟩
theorem LstM.nil {w : World} : LstM w (.slice none 0 0) [] := ⟨LstI.nil, Nat.zero_le _⟩
theorem Left5Out.lst {w : World} {base : Nat} {t : Qt} {e : Ending} (h : Left5Out w base t e) : ∃ v, e = .returned (.tuple #[v, .int .i64 t.err]) ∧ LstM w v t.leftO := by
  obtain ⟨v, he, h1, h2⟩ := h
  refine ⟨v, he, ?_⟩
  unfold Qt.leftO
  by_cases ok : t.Ok
  · rw [if_pos ok]; exact (h1 ok).lstM
  · rw [if_neg ok, h2 ok]; exact LstM.nil
theorem Out5Out.lst {w : World} {base : Nat} {t : Qt} {n : Int} {e : Ending} (h : Out5Out w base t n e) : ∃ v, e = .returned (.tuple #[v, .int .i64 (t.outErr n)]) ∧ LstM w v (t.outO n) := by
  obtain ⟨v, he, h1, h2⟩ := h
  refine ⟨v, he, ?_⟩
  unfold Qt.outO
  by_cases ok : t.outErr n = 0
  · rw [if_pos ok]; exact (h1 ok).lstM
  · rw [if_neg ok, h2 ok]; exact LstM.nil
end Go.Proofs.YtcdlbpmffkoejaaDoor
/- What the statement of each world says of the plain values. Plain Lean. No condition but a valid town, where it is said. -/
namespace Go.Proofs.YtcdlbpmffkoejaaDoor
open Go.RowKit Go.Sort
theorem wellB_in {t : Qt} (ok : t.Ok) {p : Nat} (hp : (p : Int) < t.wells) : t.wellB (p : Int) = true := by rw [wellB_ok ok]; exact inR_t (by omega)
end Go.Proofs.YtcdlbpmffkoejaaDoor
/- Walks of the reference 05: Split. Conditions: lengths are Go's. -/
namespace Go.Proofs.YtcdlbpmffkoejaaDoor
open Go.RowKit Go.Sort
theorem left_six {t : Qt} (ok : t.Ok) : t.leftL.length ≤ 6 := by have := leftTo_len t t.nw; have := ok.nw; unfold Qt.leftL; omega
end Go.Proofs.YtcdlbpmffkoejaaDoor
/- Walks of the reference 05: behind, depth. Conditions: a valid town and worlds of it. -/
namespace Go.Proofs.YtcdlbpmffkoejaaDoor
open Go.RowKit Go.Sort
end Go.Proofs.YtcdlbpmffkoejaaDoor
/- Walks of the reference 05: Depth, Next. Conditions: lengths are Go's. -/
namespace Go.Proofs.YtcdlbpmffkoejaaDoor
open Go.RowKit Go.Sort
end Go.Proofs.YtcdlbpmffkoejaaDoor
/- Walks of the reference 05: Fewest. Conditions: lengths are Go's. -/
namespace Go.Proofs.YtcdlbpmffkoejaaDoor
open Go.RowKit Go.Sort
end Go.Proofs.YtcdlbpmffkoejaaDoor
/- What the statement of two draws together says of the plain values. Plain Lean. Conditions: a valid town, valid draws. -/
namespace Go.Proofs.YtcdlbpmffkoejaaDoor
open Go.RowKit Go.Sort
theorem sum_err {t : Qt} (ok : t.Ok) {q n : Nat} {g : Nat → Int} (hq : (q : Int) < t.wells) (hd : t.drawsB n g = true) : t.knowErr (t.drawsB n g && t.wellB (q : Int)) = t.knowErr true := by rw [hd, wellB_in ok hq]; rfl
theorem draws_zero {t : Qt} {n : Nat} (h : (n : Int) = t.wells) : t.drawsB n (fun _ => 0) = true := drawsB_iff.2 ⟨h, fun _ _ => ⟨Int.le_refl _, by decide⟩⟩
theorem sum_total {t : Qt} {q n : Nat} {g : Nat → Int} (h : t.knowErr (t.drawsB n g && t.wellB (q : Int)) = 0) : t.totalV n g (q : Int) = spanOf (t.lowers g n q) t.leftL := by
  unfold Qt.totalV
  rw [if_pos h, Int.toNat_natCast]
theorem total_zero (t : Qt) {q n : Nat} : t.totalV n (fun _ => 0) (q : Int) = (0, 0) := by
  by_cases h : t.knowErr (t.drawsB n (fun _ => 0) && t.wellB (q : Int)) = 0
  · rw [sum_total h]
    exact spanOf_const (knowErr_zero h).2.2 fun a _ => lowers_none t n q a
  · unfold Qt.totalV
    rw [if_neg h]
theorem blame_zero {t : Qt} (ok : t.Ok) {q n : Nat} (hq : (q : Int) < t.wells) (hn : (n : Int) = t.wells) : t.blameOut n (fun _ => 0) (q : Int) = (0, 3) := by
  have e := sum_err ok hq (draws_zero hn)
  unfold Qt.blameOut
  by_cases h : t.knowErr (t.drawsB n (fun _ => 0) && t.wellB (q : Int)) = 0
  · rw [if_pos h, Int.toNat_natCast]
    exact blameV_zero (knowErr_zero h).2.2
  · rw [if_neg h]
    rw [e] at h ⊢
    by_cases hl : t.leftL = []
    · rw [knowErr_none ok hl]
    · exact absurd (knowErr_ok ok hl) h
theorem sumTo_bound {f : Nat → Int} {b : Int} : ∀ n, (∀ i, i < n → 0 ≤ f i ∧ f i ≤ b) → 0 ≤ sumTo f n ∧ sumTo f n ≤ (n : Int) * b
  | 0, _ => by simp [sumTo]
  | n + 1, h => by
    have ih := sumTo_bound n fun i hi => h i (by omega)
    have h1 := h n (by omega)
    have e : ((n + 1 : Nat) : Int) * b = (n : Int) * b + b := by rw [Int.natCast_add, Int.add_mul]; simp
    unfold sumTo
    rw [e]
    omega
theorem lowers_bound {t : Qt} (ok : t.Ok) {q n : Nat} {g : Nat → Int} (hq : (q : Int) < t.wells) (hd : t.drawsB n g = true) {a : Int} (ha : a ∈ t.leftL) : 0 ≤ t.lowers g n q a ∧ t.lowers g n q a ≤ 324 := by
  obtain ⟨hn, hg⟩ := drawsB_iff.1 hd
  have w0 := ok.w0
  have w1 := ok.w1
  have h := sumTo_bound (f := fun i => g i * t.F a (i, q)) (b := 81) n fun i hi => by
    have hF := ok.fallsL a ha (i, q) (testsL_mem.2 ⟨by show i < t.wells.toNat; omega, by show q < t.wells.toNat; omega⟩)
    have h1 := hg i hi
    exact ⟨Int.mul_nonneg h1.1 hF.1, Int.le_trans (Int.mul_le_mul h1.2 hF.2 hF.1 (by decide)) (by decide)⟩
  unfold Qt.lowers
  omega
/-- the least of a Total is not less than 0, the greatest not more than 1000 -/
theorem total_bound {t : Qt} (ok : t.Ok) {q n : Nat} {g : Nat → Int} (hq : (q : Int) < t.wells) (hd : t.drawsB n g = true) : 0 ≤ (t.totalV n g (q : Int)).1 ∧ (t.totalV n g (q : Int)).2 ≤ 1000 := by
  by_cases h : t.knowErr (t.drawsB n g && t.wellB (q : Int)) = 0
  · rw [sum_total h]
    have hne := (knowErr_zero h).2.2
    exact ⟨(spanOf_ge hne).2 fun a ha => (lowers_bound ok hq hd ha).1, (spanOf_le hne).2 fun a ha => by have := (lowers_bound ok hq hd ha).2; omega⟩
  · unfold Qt.totalV
    rw [if_neg h]
    exact ⟨Int.le_refl _, by decide⟩
/-- two draws together -/
theorem total_sum {t : Qt} {q n : Nat} {g d : Nat → Int} (h1 : t.knowErr (t.drawsB n g && t.wellB (q : Int)) = 0) (h2 : t.knowErr (t.drawsB n d && t.wellB (q : Int)) = 0) (h3 : t.knowErr (t.drawsB n (fun i => g i + d i) && t.wellB (q : Int)) = 0) :
    inSpan (t.totalV n (fun i => g i + d i) (q : Int)) ((t.totalV n g (q : Int)).1 + (t.totalV n d (q : Int)).1, (t.totalV n g (q : Int)).2 + (t.totalV n d (q : Int)).2) = true := by
  rw [sum_total h1, sum_total h2, sum_total h3]
  have hne := (knowErr_zero h1).2.2
  have e : spanOf (t.lowers (fun i => g i + d i) n q) t.leftL = spanOf (fun a => t.lowers g n q a + t.lowers d n q a) t.leftL := spanOf_congr fun a _ => lowers_add t g d n q a
  rw [e]
  obtain ⟨a1, a2, a3⟩ := spanOf_add (f := t.lowers g n q) (g := t.lowers d n q) hne
  unfold inSpan
  simp only [Bool.and_eq_true, decide_eq_true_eq]
  exact ⟨⟨a1, a2⟩, a3⟩
theorem sum_small {a1 a2 b1 b2 s1 s2 t1 t2 : Int} (h : inSpan (s1, s2) (t1, t2) = true) (h1 : a1 + b1 = t1) (h2 : a2 + b2 = t2) (ha : 0 ≤ a1 ∧ a2 ≤ 1000) (hb : 0 ≤ b1 ∧ b2 ≤ 1000) : 0 ≤ t1 ∧ t1 ≤ 2000 ∧ 0 ≤ t2 ∧ t2 ≤ 2000 := by
  unfold inSpan at h
  simp only [Bool.and_eq_true, decide_eq_true_eq] at h
  omega
/-- twice the draws -/
theorem blame_twice {t : Qt} {q n : Nat} {g : Nat → Int} (h1 : t.drawsB n g = true) (h2 : t.drawsB n (fun i => 2 * g i) = true) : t.blameOut n (fun i => 2 * g i) (q : Int) = t.blameOut n g (q : Int) := by
  unfold Qt.blameOut
  rw [h1, h2]
  split
  · rename_i h
    rw [Int.toNat_natCast]
    exact blameV_congr (knowErr_zero h).2.2 fun p _ a _ => blamed_twice t g n q p a
  · rfl
end Go.Proofs.YtcdlbpmffkoejaaDoor
