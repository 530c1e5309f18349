/- A region that draws its order, whose operations read, call functions that only make new blocks, or make new memory whose place is not told; behind them a tail in the order of the text: one walk in the order of the text serves every order. No condition but the closed facts on the region that the theorem asks. -/
import Derived.Test.YtbbnpneabmldnaaDoorRegionNew
namespace Go.Proofs.YtbbnpneabmldnaaDoor
open Go.RowKit Go.Sort
section
variable {P : Program} {ops : Array Oper} {md : Region.Mode}
/-- what is said of an operation's value: it is this one; or: its shape, and what it reads as from then on -/
inductive Held where
  | const (c : Value)
  | held (s : Value → Prop) (r : World → Value → Prop)
def Held.sh : Held → Value → Prop
  | .const c => fun v => v = c
  | .held s _ => s
def Held.r : Held → World → Value → Prop
  | .const c => fun _ v => v = c
  | .held s r => fun w v => s v ∧ r w v
def Held.note (k : Nat) (v : Value) (F : List (Nat × (World → Prop))) : Held → List (Nat × (World → Prop))
  | .const _ => F
  | .held _ r => (k, fun w => r w v) :: F
def Held.good : Held → Prop
  | .const _ => True
  | .held s r => (∃ v, s v) ∧ ∀ w w' v, Below w.heap.size w w' → r w v → r w' v
def goodAll : List Held → Prop
  | [] => True
  | h :: hs => h.good ∧ goodAll hs
theorem Held.r_sh {h : Held} {w : World} {v : Value} (H : h.r w v) : h.sh v := by
  cases h with
  | const c => exact H
  | held s r => exact H.1
theorem Held.r_mono {h : Held} (hg : h.good) {w w' : World} {v : Value} (hb : Below w.heap.size w w') (H : h.r w v) : h.r w' v := by
  cases h with
  | const c => exact H
  | held s r => exact ⟨H.1, hg.2 _ _ _ hb H.2⟩
theorem Held.some {h : Held} (hg : h.good) : ∃ v, h.sh v := by
  cases h with
  | const c => exact ⟨c, rfl⟩
  | held s r => exact hg.1
theorem goodAll_at : ∀ {hs : List Held} {k : Nat} {h : Held}, goodAll hs → hs[k]? = some h → h.good
  | [], k, h, _, hk => by simp at hk
  | h0 :: hs, 0, h, hg, hk => by simp at hk; subst hk; exact hg.1
  | h0 :: hs, k + 1, h, hg, hk => goodAll_at hg.2 (by simpa using hk)
def depsP (md : Region.Mode) (ops : Array Oper) (k : Nat) : List (Nat × (World → Prop)) → World → Prop
  | [], _ => True
  | (j, f) :: F, w => (waits md ops k j = true → f w) ∧ depsP md ops k F w
def allP : List (Nat × (World → Prop)) → World → Prop
  | [], _ => True
  | (_, f) :: F, w => f w ∧ allP F w
def Oper.heldUpon (P : Program) (w : World) (r : World → Value → Prop) : Result Next → Prop
  | .ok (.value u) w' => Newer w w' ∧ r w' u
  | .ok .skip w' => w' = w ∧ r w undef
  | .ok (.enter f args) w' => w' = w ∧ Calls P f args w (fun e w'' => ∃ v, e = .returned v ∧ Newer w w'' ∧ r w'' v)
  | _ => False
def Oper.heldAt (P : Program) (o : Oper) (a : Act) (w : World) (r : World → Value → Prop) : Prop := Oper.heldUpon P w r ((execOp a.eval o).run P w)
theorem Oper.wp_of_held {o : Oper} {a : Act} {w : World} {r : World → Value → Prop} {K : Act → World → Prop} {Q : Exit → Act → World → Prop} (h : Oper.heldAt P o a w r) (hK : ∀ v w', Below w.heap.size w w' → r w' v → K (a.put o.dst v) w') : o.wp P a w K Q := by
  unfold Oper.heldAt at h
  unfold Oper.wp
  generalize (execOp a.eval o).run P w = x at *
  cases x with
  | ok n w' =>
    cases n <;> simp only [Oper.heldUpon] at h <;> simp only [Oper.upon]
    case value u => exact hK _ _ h.1 h.2
    case skip =>
      obtain ⟨e1, e2⟩ := h
      rw [e1]
      exact hK _ _ (Below.refl _ _) e2
    case enter f args =>
      obtain ⟨e1, hc⟩ := h
      rw [e1]
      exact hc.mono fun e w'' ⟨v, he, hw'', hr⟩ => by subst he; exact hK _ _ hw'' hr
  | halt x w' => simp only [Oper.heldUpon] at h
/-- what is asked at one operation -/
def Oper.heldAsk (P : Program) (md : Region.Mode) (ops : Array Oper) (W : World) (k : Nat) (o : Oper) (h : Held) (a : Act) (F : List (Nat × (World → Prop))) : Prop :=
  if Region.wanted o (yielded ops a.tmps) then ∀ p : Regrown, depsP md ops k F (grow (redrawn W p.d) p.os) → Oper.heldAt P o a (grow (redrawn W p.d) p.os) h.r else ∀ w, h.r w undef
def wpHeld (P : Program) (md : Region.Mode) (ops : Array Oper) (W : World) (Q : Act → World → Prop) : Nat → List Oper → List Held → Act → List (Nat × (World → Prop)) → Prop
  | _, _, [], a, F => ∀ p : Regrown, allP F (grow (redrawn W p.d) p.os) → Q a (grow (redrawn W p.d) p.os)
  | k, o :: rest, h :: hs, a, F => Oper.heldAsk P md ops W k o h a F ∧ ∀ v, h.sh v → wpHeld P md ops W Q (k + 1) rest hs (a.put o.dst v) (h.note k v F)
  | _, [], _ :: _, _, _ => False
def noteAll (hs : List Held) (V : Nat → Value) : Nat → List (Nat × (World → Prop))
  | 0 => []
  | k + 1 => match hs[k]? with
    | some h => h.note k (V k) (noteAll hs V k)
    | none => noteAll hs V k
theorem depsP_all {hs : List Held} {V : Nat → Value} {i : Nat} {w : World} : ∀ k, (∀ (j : Nat) (h : Held), j < k → hs[j]? = some h → waits md ops i j = true → h.r w (V j)) → depsP md ops i (noteAll hs V k) w
  | 0, _ => trivial
  | k + 1, H => by
    have ih := depsP_all k (fun j h hj => H j h (by omega))
    unfold noteAll
    cases e : hs[k]? with
    | none => exact ih
    | some h =>
      have := H k h (by omega) e
      cases h with
      | const c => exact ih
      | held s r => exact ⟨fun hw => (this hw).2, ih⟩
theorem allP_all {hs : List Held} {V : Nat → Value} {w : World} : ∀ k, (∀ (j : Nat) (h : Held), j < k → hs[j]? = some h → h.r w (V j)) → allP (noteAll hs V k) w
  | 0, _ => trivial
  | k + 1, H => by
    have ih := allP_all k (fun j h hj => H j h (by omega))
    unfold noteAll
    cases e : hs[k]? with
    | none => exact ih
    | some h =>
      have := H k h (by omega) e
      cases h with
      | const c => exact ih
      | held s r => exact ⟨this.2, ih⟩
theorem wpHeld_at {W : World} {Q : Act → World → Prop} {hs0 : List Held} {V : Nat → Value} {a0 : Act} (hV : ∀ (k : Nat) (h : Held), hs0[k]? = some h → h.sh (V k)) :
    ∀ (hs : List Held) (k : Nat) (l : List Oper), (∀ j, l[j]? = ops[k + j]?) → (∀ j, hs[j]? = hs0[k + j]?) → k + hs.length = hs0.length →
      wpHeld P md ops W Q k l hs (frameOf ops V (fun _ => true) a0 k) (noteAll hs0 V k) →
      (∀ (j : Nat) (h : Held), k ≤ j → hs0[j]? = some h → ∃ o, ops[j]? = some o ∧ Oper.heldAsk P md ops W j o h (frameOf ops V (fun _ => true) a0 j) (noteAll hs0 V j)) ∧
      ∀ p : Regrown, allP (noteAll hs0 V hs0.length) (grow (redrawn W p.d) p.os) → Q (frameOf ops V (fun _ => true) a0 hs0.length) (grow (redrawn W p.d) p.os)
  | [], k, l, _, hh, hn, H => by
    have e : k = hs0.length := by simpa using hn
    subst e
    refine ⟨fun j h hj hjh => ?_, by cases l <;> exact H⟩
    have := (List.getElem?_eq_some_iff.1 hjh).1
    omega
  | h :: hs, k, [], hl, hh, hn, H => H.elim
  | h :: hs, k, o :: l, hl, hh, hn, H => by
    have h0 : ops[k]? = some o := by simpa using (hl 0).symm
    have h1 : hs0[k]? = some h := by simpa using (hh 0).symm
    obtain ⟨H1, H2⟩ := H
    have e1 : frameOf ops V (fun _ => true) a0 (k + 1) = (frameOf ops V (fun _ => true) a0 k).put o.dst (V k) := by
      rw [frameOf, if_pos rfl]; simp [dstOf, h0]
    have e2 : noteAll hs0 V (k + 1) = h.note k (V k) (noteAll hs0 V k) := by rw [noteAll, h1]
    obtain ⟨g1, g2⟩ := wpHeld_at hV hs (k + 1) l (fun j => by have := hl (j + 1); simpa [Nat.add_assoc, Nat.add_comm 1 j] using this) (fun j => by have := hh (j + 1); simpa [Nat.add_assoc, Nat.add_comm 1 j] using this) (by simp only [List.length_cons] at hn; omega) (by rw [e1, e2]; exact H2 _ (hV k h h1))
    refine ⟨fun j h' hj hjh => ?_, g2⟩
    rcases Nat.eq_or_lt_of_le hj with e | e
    · subst e
      obtain rfl : h = h' := Option.some.inj (h1.symm.trans hjh)
      exact ⟨o, h0, H1⟩
    · exact g1 j h' e hjh
/-- i waits for j, through others too -/
def reach (md : Region.Mode) (ops : Array Oper) : Nat → Nat → Nat → Bool
  | 0, i, j => waits md ops i j
  | d + 1, i, j => waits md ops i j || (List.range i).any fun k => waits md ops i k && reach md ops d k j
theorem reach_listed {listed : Array Bool} (hs : Shut md ops listed) : ∀ d i j, (∀ k, waits md ops i k = true → listed.getD k false = true) → reach md ops d i j = true → listed.getD j false = true
  | 0, i, j, hi, h => hi j h
  | d + 1, i, j, hi, h => by
    unfold reach at h
    simp only [Bool.or_eq_true, List.any_eq_true, List.mem_range, Bool.and_eq_true] at h
    rcases h with h | ⟨k, _, h1, h2⟩
    · exact hi j h
    · exact reach_listed hs d k j (fun m hm => hs.shut k m (hi k h1) hm) h2
def heldB (md : Region.Mode) (ops : Array Oper) (n : Nat) : Bool :=
  orderedB md ops && decide (n ≤ ops.size) && (List.range ops.size).all fun i => decide (i < n) || (List.range i).all fun j => reach md ops 3 i j
/-- **THE LAW.** -/
theorem wp_region_held {rid : Nat} {Q : Exit → Act → World → Prop} {a : Act} {w : World} {l : List Oper} (n : Nat) (hs : List Held) (hm : P.follows .mixedOrders = true) (hB : heldB .any l.toArray n = true) (hn : hs.length = n) (hg : goodAll hs)
    (h : wpHeld P .any l.toArray w (fun a' w' => wpList P l.toArray Q (l.drop n) a' w') 0 l hs a []) : (Code.region rid l.toArray true).wp P Q a w := by
  unfold heldB at hB
  simp only [Bool.and_eq_true, decide_eq_true_eq, List.all_eq_true, List.mem_range, Bool.or_eq_true] at hB
  obtain ⟨⟨hord, hnl⟩, htail⟩ := hB
  have H := ordered_of hord
  have hsz : l.toArray.size = l.length := by simp
  have key : ∀ V : Nat → Value, (∀ (k : Nat) (h : Held), hs[k]? = some h → h.sh (V k)) → _ := fun V hV =>
    wpHeld_at (P := P) (md := .any) (ops := l.toArray) (W := w) (Q := fun a' w' => wpList P l.toArray Q (l.drop n) a' w') (a0 := a) hV hs 0 l (fun j => by simp) (fun j => by simp) (by omega) h
  have hwit : ∃ V : Nat → Value, ∀ (k : Nat) (h : Held), hs[k]? = some h → h.sh (V k) := by
    have hx : ∀ k : Nat, ∃ v : Value, ∀ h : Held, hs[k]? = some h → h.sh v := fun k => by
      cases e : hs[k]? with
      | none => exact ⟨undef, fun h hh => by cases hh⟩
      | some h =>
        obtain ⟨v, hv⟩ := Held.some (goodAll_at hg e)
        exact ⟨v, fun h' hh => by injection hh with hh; subst hh; exact hv⟩
    exact ⟨fun k => (hx k).choose, fun k => (hx k).choose_spec⟩
  -- the end of the first part
  have final : ∀ (V : Nat → Value) (listed : Array Bool) (w' : World), (∀ (k : Nat) (h : Held), hs[k]? = some h → h.sh (V k)) → Below w.heap.size w w' → (∀ j, j < n → listed.getD j false = true) → (∀ j, n ≤ j → listed.getD j false = false) → (∀ (j : Nat) (h : Held), hs[j]? = some h → listed.getD j false = true → h.r w' (V j)) →
      wpList P l.toArray Q (l.drop n) (frameOf l.toArray V (fun k => listed.getD k false) a l.toArray.size) w' := by
    intro V listed w' hV hb hall hno hr
    obtain ⟨p, rfl⟩ := regrown_of_below hb
    have := (key V hV).2 p (allP_all _ fun j h hj hjh => hr j h hjh (hall j (by omega)))
    rw [hn] at this
    have e1 : frameOf l.toArray V (fun k => listed.getD k false) a n = frameOf l.toArray V (fun _ => true) a n := frameOf_congr n fun j hj => ⟨hall j hj, fun _ => rfl⟩
    have e2 : ∀ m, n ≤ m → frameOf l.toArray V (fun k => listed.getD k false) a m = frameOf l.toArray V (fun k => listed.getD k false) a n := by
      intro m
      induction m with
      | zero => intro hm'; obtain rfl : n = 0 := by omega
                rfl
      | succ m ih =>
        intro hm'
        rcases Nat.eq_or_lt_of_le hm' with e | e
        · rw [e]
        · rw [frameOf, ih (by omega), if_neg]; rw [hno m (by omega)]; exact Bool.false_ne_true
    rw [e2 _ hnl, e1]
    exact this
  refine wp_region_any hm ?_
  refine wpAny_inv (fun listed a' w' => ((∀ j, n ≤ j → listed.getD j false = false) ∧ ∃ V : Nat → Value, (∀ (k : Nat) (h : Held), hs[k]? = some h → h.sh (V k)) ∧ a' = frameOf l.toArray V (fun k => listed.getD k false) a l.toArray.size ∧ Below w.heap.size w w' ∧ ∀ (j : Nat) (h : Held), hs[j]? = some h → listed.getD j false = true → h.r w' (V j)) ∨
      ∃ m, n ≤ m ∧ (∀ j, j < m → listed.getD j false = true) ∧ (∀ j, m ≤ j → listed.getD j false = false) ∧ wpList P l.toArray Q (l.drop m) a' w') ?_ ?_ _ _ _ _ (left_le _ _) Shut.none (.inl ⟨fun j _ => ?_, ?_⟩)
  · intro listed a' w' i hsh hI hr
    obtain ⟨hun, oi, hoi, _⟩ := mem_ready.1 hr
    have hi : i < l.toArray.size := (Array.getElem?_eq_some_iff.1 hoi).1
    have hil : i < listed.size := by rw [hsh.size]; exact hi
    have hunf := listed_both hun
    have hset : (listed.setIfInBounds i true).getD i false = true := set_same hil false
    have tailstep : ∀ m, n ≤ m → (∀ j, j < m → listed.getD j false = true) → (∀ j, m ≤ j → listed.getD j false = false) → n ≤ i → wpList P l.toArray Q (l.drop m) a' w' →
        wpOp P l.toArray Q i (fun a'' w'' => ((∀ j, n ≤ j → (listed.setIfInBounds i true).getD j false = false) ∧ ∃ V : Nat → Value, (∀ (k : Nat) (h : Held), hs[k]? = some h → h.sh (V k)) ∧ a'' = frameOf l.toArray V (fun k => (listed.setIfInBounds i true).getD k false) a l.toArray.size ∧ Below w.heap.size w w'' ∧ ∀ (j : Nat) (h : Held), hs[j]? = some h → (listed.setIfInBounds i true).getD j false = true → h.r w'' (V j)) ∨
          ∃ m, n ≤ m ∧ (∀ j, j < m → (listed.setIfInBounds i true).getD j false = true) ∧ (∀ j, m ≤ j → (listed.setIfInBounds i true).getD j false = false) ∧ wpList P l.toArray Q (l.drop m) a'' w'') a' w' := by
      intro m hnm hall hno hni hw
      have him : i = m := by
        rcases Nat.lt_trichotomy i m with h' | h' | h'
        · rw [hall i h'] at hunf; cases hunf
        · exact h'
        · have h1 := ((htail i hi).resolve_left (by omega)) m h'
          have h2 := reach_listed hsh 3 i m (fun k hk => waits_listed hr hk) h1
          rw [hno m (Nat.le_refl _)] at h2; cases h2
      subst him
      have hli : l[i]? = some oi := by simpa using hoi
      have hdrop : l.drop i = oi :: l.drop (i + 1) := by
        have hlt : i < l.length := by omega
        rw [List.drop_eq_getElem_cons hlt]
        congr 1
        rw [List.getElem?_eq_getElem hlt] at hli
        exact Option.some.inj hli
      rw [hdrop] at hw
      simp only [wpList] at hw
      have hall' : ∀ j, j < i + 1 → (listed.setIfInBounds i true).getD j false = true := fun j hj => by
        rcases Nat.lt_or_ge j i with h' | h'
        · rw [getD_set_ne false (by omega)]; exact hall j h'
        · obtain rfl : j = i := by omega
          exact hset
      have hno' : ∀ j, i + 1 ≤ j → (listed.setIfInBounds i true).getD j false = false := fun j hj => by
        rw [getD_set_ne false (by omega)]; exact hno j (by omega)
      unfold Go.wpOp
      simp only [hoi]
      split
      · rename_i hwt
        rw [if_pos hwt] at hw
        exact hw.imp (Oper.wp_mono fun a'' w'' h'' => .inr ⟨i + 1, by omega, hall', hno', h''⟩) (fun h => h)
      · rename_i hwt
        rw [if_neg hwt] at hw
        exact .inr ⟨i + 1, by omega, hall', hno', hw⟩
    rcases hI with ⟨hno, V, hV, rfl, hb, hrr⟩ | ⟨m, hnm, hall, hno, hw⟩
    · rcases Nat.lt_or_ge i n with hin | hin
      · -- an operation of the first part
        have hx : ∃ h, hs[i]? = some h := ⟨hs[i]'(by omega), by simp⟩
        obtain ⟨hh, hhi⟩ := hx
        obtain ⟨o', ho', hask⟩ := (key V hV).1 i hh (Nat.zero_le _) hhi
        obtain rfl : oi = o' := Option.some.inj (hoi.symm.trans ho')
        have hsee := H.sees (V := V) (V' := V) (M := fun _ => true) (a := a) hsh hoi hr (fun k _ hk => by cases hk) (fun _ _ => rfl)
        have hput : ∀ v, (frameOf l.toArray V (fun k => listed.getD k false) a l.toArray.size).put oi.dst v = frameOf l.toArray (fun k => if k = i then v else V k) (fun k => (listed.setIfInBounds i true).getD k false) a l.toArray.size := fun v => by
          have e1 : dstOf l.toArray i = oi.dst := by simp [dstOf, hoi]
          rw [H.frame_put hsh hi hun, e1, if_pos rfl]
          congr 1
          exact frameOf_congr _ fun j _ => ⟨rfl, fun hj => by rw [if_neg (fun e => by subst e; rw [hunf] at hj; cases hj)]⟩
        have hnext : ∀ v w'', Below w'.heap.size w' w'' → hh.r w'' v → ((∀ j, n ≤ j → (listed.setIfInBounds i true).getD j false = false) ∧ ∃ V' : Nat → Value, (∀ (k : Nat) (h : Held), hs[k]? = some h → h.sh (V' k)) ∧ (frameOf l.toArray V (fun k => listed.getD k false) a l.toArray.size).put oi.dst v = frameOf l.toArray V' (fun k => (listed.setIfInBounds i true).getD k false) a l.toArray.size ∧ Below w.heap.size w w'' ∧ ∀ (j : Nat) (h : Held), hs[j]? = some h → (listed.setIfInBounds i true).getD j false = true → h.r w'' (V' j)) := by
          intro v w'' hb' hrv
          refine ⟨fun j hj => by rw [getD_set_ne false (by omega)]; exact hno j hj, fun k => if k = i then v else V k, fun k h hk => ?_, hput v, bTrans hb hb', fun j h hjh hj => ?_⟩
          · by_cases e : k = i
            · subst e
              obtain rfl : hh = h := Option.some.inj (hhi.symm.trans hk)
              simp only [if_true]
              exact Held.r_sh hrv
            · simp only [if_neg e]; exact hV k h hk
          · by_cases e : j = i
            · subst e
              obtain rfl : hh = h := Option.some.inj (hhi.symm.trans hjh)
              simp only [if_true]
              exact hrv
            · simp only [if_neg e]
              rw [getD_set_ne false (Ne.symm e)] at hj
              exact Held.r_mono (goodAll_at hg hjh) hb' (hrr j h hjh hj)
        unfold Go.wpOp
        simp only [hoi]
        rw [wanted_of_slots hsee]
        unfold Oper.heldAsk at hask
        by_cases hwt : Region.wanted oi (yielded l.toArray (frameOf l.toArray V (fun _ => true) a i).tmps) = true
        · rw [if_pos hwt] at hask
          rw [if_pos hwt]
          obtain ⟨p, rfl⟩ := regrown_of_below hb
          have h1 := hask p (depsP_all _ fun j h hj hjh hw => hrr j h hjh (waits_listed hr hw))
          refine .inl (Oper.wp_of_held ?_ fun v w'' hb' hrv => .inl (hnext v w'' hb' hrv))
          unfold Oper.heldAt at h1 ⊢
          rwa [exec_of_slots (ops := l.toArray) (fun cs b => Region.noSelect_spec H.sel i oi cs b hoi) hsee]
        · rw [if_neg hwt] at hask
          rw [if_neg hwt]
          exact .inl (hnext undef w' (Below.refl _ _) (hask _))
      · have hall : ∀ j, j < n → listed.getD j false = true := fun j hj => reach_listed hsh 3 i j (fun k hk => waits_listed hr hk) (((htail i hi).resolve_left (by omega)) j (by omega))
        exact tailstep n (Nat.le_refl _) hall hno hin (final V listed w' hV hb hall hno hrr)
    · have hni : n ≤ i := by
        rcases Nat.lt_or_ge i n with h' | h'
        · rw [hall i (by omega)] at hunf; cases hunf
        · exact h'
      exact tailstep m hnm hall hno hni hw
  · intro listed a' w' hsh hI hr
    have hall := H.all hsh hr
    rcases hI with ⟨hno, V, hV, rfl, hb, hrr⟩ | ⟨m, hnm, hall', hno, hw⟩
    · have hnn : n = l.length := by
        rcases Nat.lt_or_ge n l.length with h' | h'
        · have := hall n (by omega); rw [hno n (Nat.le_refl _)] at this; cases this
        · omega
      have := final V listed w' hV hb (fun j hj => hall j (by omega)) hno hrr
      rw [hnn, List.drop_length] at this
      exact this
    · have hmm : l.length ≤ m := by
        rcases Nat.lt_or_ge m l.length with h' | h'
        · have := hall m (by omega); rw [hno m (Nat.le_refl _)] at this; cases this
        · exact h'
      rw [List.drop_eq_nil_of_le hmm] at hw
      exact hw
  · rcases Nat.lt_or_ge j l.length with h' | h' <;> simp [h']
  · obtain ⟨V, hV⟩ := hwit
    refine ⟨V, hV, ?_, (Below.refl _ _).drew, fun j h _ hj => ?_⟩
    · symm
      have : ∀ k, frameOf l.toArray V (fun k => (Array.replicate l.toArray.size false).getD k false) a k = a := fun k => by
        induction k with
        | zero => rfl
        | succ k ih => rw [frameOf, ih, if_neg]; rcases Nat.lt_or_ge k l.length with h' | h' <;> simp [h']
      exact this _
    · rcases Nat.lt_or_ge j l.length with h' | h' <;> simp [h'] at hj
theorem wpHeld_end {W : World} {Q : Act → World → Prop} {k : Nat} {l : List Oper} {a : Act} {F : List (Nat × (World → Prop))} (h : ∀ w', Below W.heap.size W w' → allP F w' → Q a w') : wpHeld P md ops W Q k l [] a F := by
  have h' : ∀ p : Regrown, allP F (grow (redrawn W p.d) p.os) → Q a (grow (redrawn W p.d) p.os) := fun p => h _ (below_regrown _ _ _)
  cases l <;> exact h'
theorem wpHeld_const {W : World} {Q : Act → World → Prop} {k : Nat} {o : Oper} {l : List Oper} {c : Value} {hs : List Held} {a : Act} {F : List (Nat × (World → Prop))}
    (h1 : if Region.wanted o (yielded ops a.tmps) then ∀ p : Regrown, depsP md ops k F (grow (redrawn W p.d) p.os) → Oper.heldAt P o a (grow (redrawn W p.d) p.os) (fun _ v => v = c) else c = undef)
    (h2 : wpHeld P md ops W Q (k + 1) l hs (a.put o.dst c) F) : wpHeld P md ops W Q k (o :: l) (.const c :: hs) a F := by
  refine ⟨?_, fun v hv => by rw [show v = c from hv]; exact h2⟩
  unfold Oper.heldAsk
  split
  · rename_i hw; rw [if_pos hw] at h1; exact h1
  · rename_i hw; rw [if_neg hw] at h1; exact fun _ => h1.symm
theorem wpHeld_held {W : World} {Q : Act → World → Prop} {k : Nat} {o : Oper} {l : List Oper} {s : Value → Prop} {r : World → Value → Prop} {hs : List Held} {a : Act} {F : List (Nat × (World → Prop))} (hg : o.guard = none)
    (h1 : ∀ w', Below W.heap.size W w' → depsP md ops k F w' → Oper.heldAt P o a w' (fun w v => s v ∧ r w v))
    (h2 : ∀ v, s v → wpHeld P md ops W Q (k + 1) l hs (a.put o.dst v) ((k, fun w => r w v) :: F)) : wpHeld P md ops W Q k (o :: l) (.held s r :: hs) a F := by
  refine ⟨?_, fun v hv => h2 v hv⟩
  unfold Oper.heldAsk Region.wanted
  rw [hg, if_pos rfl]
  exact fun p => h1 _ (below_regrown _ _ _)
theorem newer_refl (w : World) : Newer w w = True := eq_true (Below.refl _ _)
attribute [go_sem] Oper.heldAt Oper.heldUpon newer_refl depsP
end
end Go.Proofs.YtbbnpneabmldnaaDoor
