/- The law of RegionHeld once more, with operations that may turn memory that the region itself has made (an append onto the row of an append): what they keep of the others is asked of each. No condition but the closed facts on the region that the theorem asks. -/
import Derived.Test.YtbbnpneabmldnaaDoorRegionHeld
import Derived.Test.YtbbnpneabmldnaaDoorCellRows
namespace Go.Proofs.YtbbnpneabmldnaaDoor
open Go.RowKit Go.Sort
section
variable {P : Program} {ops : Array Oper} {md : Region.Mode}
/-- what is said of an operation's value: it is this one; or: its shape, and what it reads as from then on -/
inductive Stir where
  | const (c : Value)
  | held (s : Value → Prop) (r : World → Value → Prop)
  | stir (s : Value → Prop) (r : World → Value → Prop) (K : World → World → Prop)
def Stir.sh : Stir → Value → Prop
  | .const c => fun v => v = c
  | .held s _ => s
  | .stir s _ _ => s
def Stir.r : Stir → World → Value → Prop
  | .const c => fun _ v => v = c
  | .held s r => fun w v => s v ∧ r w v
  | .stir s r _ => fun w v => s v ∧ r w v
def Stir.K : Stir → World → World → Prop
  | .const _ => Newer
  | .held _ _ => Newer
  | .stir _ _ K => K
def Stir.note (k : Nat) (v : Value) (F : List (Nat × (World → Prop))) : Stir → List (Nat × (World → Prop))
  | .const _ => F
  | .held _ r => (k, fun w => r w v) :: F
  | .stir _ r _ => (k, fun w => r w v) :: F
def Stir.good : Stir → Prop
  | .const _ => True
  | .held s r => (∃ v, s v) ∧ ∀ w w' v, Below w.heap.size w w' → r w v → r w' v
  | .stir s r _ => (∃ v, s v) ∧ ∀ w w' v, Below w.heap.size w w' → r w v → r w' v
def goodAllS : List Stir → Prop
  | [] => True
  | h :: hs => h.good ∧ goodAllS hs
theorem Stir.r_sh {h : Stir} {w : World} {v : Value} (H : h.r w v) : h.sh v := by
  cases h with
  | const c => exact H
  | held s r => exact H.1
  | stir s r K => exact H.1
theorem Stir.r_mono {h : Stir} (hg : h.good) {w w' : World} {v : Value} (hb : Below w.heap.size w w') (H : h.r w v) : h.r w' v := by
  cases h with
  | const c => exact H
  | held s r => exact ⟨H.1, hg.2 _ _ _ hb H.2⟩
  | stir s r K => exact ⟨H.1, hg.2 _ _ _ hb H.2⟩
theorem Stir.some {h : Stir} (hg : h.good) : ∃ v, h.sh v := by
  cases h with
  | const c => exact ⟨c, rfl⟩
  | held s r => exact hg.1
  | stir s r K => exact hg.1
theorem goodAllS_at : ∀ {hs : List Stir} {k : Nat} {h : Stir}, goodAllS hs → hs[k]? = some h → h.good
  | [], k, h, _, hk => by simp at hk
  | h0 :: hs, 0, h, hg, hk => by simp at hk; subst hk; exact hg.1
  | h0 :: hs, k + 1, h, hg, hk => goodAllS_at hg.2 (by simpa using hk)
def Oper.stirUpon (P : Program) (w : World) (K : World → World → Prop) (r : World → Value → Prop) : Result Next → Prop
  | .ok (.value u) w' => K w w' ∧ r w' u
  | .ok .skip w' => w' = w ∧ K w w ∧ r w undef
  | .ok (.enter f args) w' => w' = w ∧ Calls P f args w (fun e w'' => ∃ v, e = .returned v ∧ K w w'' ∧ r w'' v)
  | _ => False
def Oper.stirAt (P : Program) (o : Oper) (a : Act) (w : World) (K : World → World → Prop) (r : World → Value → Prop) : Prop := Oper.stirUpon P w K r ((execOp a.eval o).run P w)
theorem Oper.wp_of_stir {o : Oper} {a : Act} {w : World} {S : World → World → Prop} {r : World → Value → Prop} {K : Act → World → Prop} {Q : Exit → Act → World → Prop} (h : Oper.stirAt P o a w S r) (hK : ∀ v w', S w w' → r w' v → K (a.put o.dst v) w') : o.wp P a w K Q := by
  unfold Oper.stirAt at h
  unfold Oper.wp
  generalize (execOp a.eval o).run P w = x at *
  cases x with
  | ok n w' =>
    cases n <;> simp only [Oper.stirUpon] at h <;> simp only [Oper.upon]
    case value u => exact hK _ _ h.1 h.2
    case skip =>
      obtain ⟨e1, e3, e2⟩ := h
      rw [e1]
      exact hK _ _ e3 e2
    case enter f args =>
      obtain ⟨e1, hc⟩ := h
      rw [e1]
      exact hc.mono fun e w'' ⟨v, he, hw'', hr⟩ => by subst he; exact hK _ _ hw'' hr
  | halt x w' => simp only [Oper.stirUpon] at h
/-- what is asked at one operation -/
def Oper.stirAsk (P : Program) (md : Region.Mode) (ops : Array Oper) (W : World) (k : Nat) (o : Oper) (h : Stir) (a : Act) (F : List (Nat × (World → Prop))) : Prop :=
  if Region.wanted o (yielded ops a.tmps) then ∀ p : Regrown, depsP md ops k F (grow (redrawn W p.d) p.os) → Oper.stirAt P o a (grow (redrawn W p.d) p.os) h.K h.r else ∀ w, h.r w undef
def wpStir (P : Program) (md : Region.Mode) (ops : Array Oper) (W : World) (Q : Act → World → Prop) : Nat → List Oper → List Stir → Act → List (Nat × (World → Prop)) → Prop
  | _, _, [], a, F => ∀ p : Regrown, allP F (grow (redrawn W p.d) p.os) → Q a (grow (redrawn W p.d) p.os)
  | k, o :: rest, h :: hs, a, F => Oper.stirAsk P md ops W k o h a F ∧ ∀ v, h.sh v → wpStir P md ops W Q (k + 1) rest hs (a.put o.dst v) (h.note k v F)
  | _, [], _ :: _, _, _ => False
def noteAllS (hs : List Stir) (V : Nat → Value) : Nat → List (Nat × (World → Prop))
  | 0 => []
  | k + 1 => match hs[k]? with
    | some h => h.note k (V k) (noteAllS hs V k)
    | none => noteAllS hs V k
theorem depsS_all {hs : List Stir} {V : Nat → Value} {i : Nat} {w : World} : ∀ k, (∀ (j : Nat) (h : Stir), j < k → hs[j]? = some h → waits md ops i j = true → h.r w (V j)) → depsP md ops i (noteAllS hs V k) w
  | 0, _ => trivial
  | k + 1, H => by
    have ih := depsS_all k (fun j h hj => H j h (by omega))
    unfold noteAllS
    cases e : hs[k]? with
    | none => exact ih
    | some h =>
      have := H k h (by omega) e
      cases h with
      | const c => exact ih
      | held s r => exact ⟨fun hw => (this hw).2, ih⟩
      | stir s r K => exact ⟨fun hw => (this hw).2, ih⟩
theorem allS_all {hs : List Stir} {V : Nat → Value} {w : World} : ∀ k, (∀ (j : Nat) (h : Stir), j < k → hs[j]? = some h → h.r w (V j)) → allP (noteAllS hs V k) w
  | 0, _ => trivial
  | k + 1, H => by
    have ih := allS_all k (fun j h hj => H j h (by omega))
    unfold noteAllS
    cases e : hs[k]? with
    | none => exact ih
    | some h =>
      have := H k h (by omega) e
      cases h with
      | const c => exact ih
      | held s r => exact ⟨this.2, ih⟩
      | stir s r K => exact ⟨this.2, ih⟩
theorem wpStir_at {W : World} {Q : Act → World → Prop} {hs0 : List Stir} {V : Nat → Value} {a0 : Act} (hV : ∀ (k : Nat) (h : Stir), hs0[k]? = some h → h.sh (V k)) :
    ∀ (hs : List Stir) (k : Nat) (l : List Oper), (∀ j, l[j]? = ops[k + j]?) → (∀ j, hs[j]? = hs0[k + j]?) → k + hs.length = hs0.length →
      wpStir P md ops W Q k l hs (frameOf ops V (fun _ => true) a0 k) (noteAllS hs0 V k) →
      (∀ (j : Nat) (h : Stir), k ≤ j → hs0[j]? = some h → ∃ o, ops[j]? = some o ∧ Oper.stirAsk P md ops W j o h (frameOf ops V (fun _ => true) a0 j) (noteAllS hs0 V j)) ∧
      ∀ p : Regrown, allP (noteAllS hs0 V hs0.length) (grow (redrawn W p.d) p.os) → Q (frameOf ops V (fun _ => true) a0 hs0.length) (grow (redrawn W p.d) p.os)
  | [], k, l, _, hh, hn, H => by
    have e : k = hs0.length := by simpa using hn
    subst e
    refine ⟨fun j h hj hjh => ?_, by cases l <;> exact H⟩
    have := (List.getElem?_eq_some_iff.1 hjh).1
    omega
  | h :: hs, k, [], hl, hh, hn, H => H.elim
  | h :: hs, k, o :: l, hl, hh, hn, H => by
    have h0 : ops[k]? = some o := by simpa using (hl 0).symm
    have h1 : hs0[k]? = some h := by simpa using (hh 0).symm
    obtain ⟨H1, H2⟩ := H
    have e1 : frameOf ops V (fun _ => true) a0 (k + 1) = (frameOf ops V (fun _ => true) a0 k).put o.dst (V k) := by
      rw [frameOf, if_pos rfl]; simp [dstOf, h0]
    have e2 : noteAllS hs0 V (k + 1) = h.note k (V k) (noteAllS hs0 V k) := by rw [noteAllS, h1]
    obtain ⟨g1, g2⟩ := wpStir_at hV hs (k + 1) l (fun j => by have := hl (j + 1); simpa [Nat.add_assoc, Nat.add_comm 1 j] using this) (fun j => by have := hh (j + 1); simpa [Nat.add_assoc, Nat.add_comm 1 j] using this) (by simp only [List.length_cons] at hn; omega) (by rw [e1, e2]; exact H2 _ (hV k h h1))
    refine ⟨fun j h' hj hjh => ?_, g2⟩
    rcases Nat.eq_or_lt_of_le hj with e | e
    · subst e
      obtain rfl : h = h' := Option.some.inj (h1.symm.trans hjh)
      exact ⟨o, h0, H1⟩
    · exact g1 j h' e hjh
theorem reach_listed2 {listed : Array Bool} (hs : Shut md ops listed) (d i j : Nat) (hi : listed.getD i false = true) (h : reach md ops d i j = true) : listed.getD j false = true :=
  reach_listed hs d i j (fun k hk => hs.shut i k hi hk) h
def stirB (md : Region.Mode) (ops : Array Oper) (n : Nat) : Bool :=
  orderedB md ops && decide (n ≤ ops.size) && (List.range ops.size).all fun i => decide (i < n) || (List.range i).all fun j => reach md ops 6 i j
/-- an operation that turns what the region has made keeps what is said of all others, but of those that wait for it -/
def crossAll (md : Region.Mode) (ops : Array Oper) (N : Nat) (hs : List Stir) : Prop :=
  ∀ i s r K, hs[i]? = some (.stir s r K) → (∀ w w', N ≤ w.heap.size → K w w' → Below N w w') ∧ ∀ j h, hs[j]? = some h → j ≠ i → reach md ops 6 j i = true ∨ ∀ w w' v, K w w' → h.r w v → h.r w' v
/-- **THE LAW.** -/
theorem wp_region_stir {rid : Nat} {Q : Exit → Act → World → Prop} {a : Act} {w : World} {l : List Oper} (n : Nat) (hs : List Stir) (hm : P.follows .mixedOrders = true) (hB : stirB .any l.toArray n = true) (hn : hs.length = n) (hg : goodAllS hs) (hx : crossAll .any l.toArray w.heap.size hs)
    (h : wpStir P .any l.toArray w (fun a' w' => wpList P l.toArray Q (l.drop n) a' w') 0 l hs a []) : (Code.region rid l.toArray true).wp P Q a w := by
  unfold stirB at hB
  simp only [Bool.and_eq_true, decide_eq_true_eq, List.all_eq_true, List.mem_range, Bool.or_eq_true] at hB
  obtain ⟨⟨hord, hnl⟩, htail⟩ := hB
  have H := ordered_of hord
  have hsz : l.toArray.size = l.length := by simp
  have key : ∀ V : Nat → Value, (∀ (k : Nat) (h : Stir), hs[k]? = some h → h.sh (V k)) → _ := fun V hV =>
    wpStir_at (P := P) (md := .any) (ops := l.toArray) (W := w) (Q := fun a' w' => wpList P l.toArray Q (l.drop n) a' w') (a0 := a) hV hs 0 l (fun j => by simp) (fun j => by simp) (by omega) h
  have hwit : ∃ V : Nat → Value, ∀ (k : Nat) (h : Stir), hs[k]? = some h → h.sh (V k) := by
    have hx : ∀ k : Nat, ∃ v : Value, ∀ h : Stir, hs[k]? = some h → h.sh v := fun k => by
      cases e : hs[k]? with
      | none => exact ⟨undef, fun h hh => by cases hh⟩
      | some h =>
        obtain ⟨v, hv⟩ := Stir.some (goodAllS_at hg e)
        exact ⟨v, fun h' hh => by injection hh with hh; subst hh; exact hv⟩
    exact ⟨fun k => (hx k).choose, fun k => (hx k).choose_spec⟩
  -- the end of the first part
  have final : ∀ (V : Nat → Value) (listed : Array Bool) (w' : World), (∀ (k : Nat) (h : Stir), hs[k]? = some h → h.sh (V k)) → Below w.heap.size w w' → (∀ j, j < n → listed.getD j false = true) → (∀ j, n ≤ j → listed.getD j false = false) → (∀ (j : Nat) (h : Stir), hs[j]? = some h → listed.getD j false = true → h.r w' (V j)) →
      wpList P l.toArray Q (l.drop n) (frameOf l.toArray V (fun k => listed.getD k false) a l.toArray.size) w' := by
    intro V listed w' hV hb hall hno hr
    obtain ⟨p, rfl⟩ := regrown_of_below hb
    have := (key V hV).2 p (allS_all _ fun j h hj hjh => hr j h hjh (hall j (by omega)))
    rw [hn] at this
    have e1 : frameOf l.toArray V (fun k => listed.getD k false) a n = frameOf l.toArray V (fun _ => true) a n := frameOf_congr n fun j hj => ⟨hall j hj, fun _ => rfl⟩
    have e2 : ∀ m, n ≤ m → frameOf l.toArray V (fun k => listed.getD k false) a m = frameOf l.toArray V (fun k => listed.getD k false) a n := by
      intro m
      induction m with
      | zero => intro hm'; obtain rfl : n = 0 := by omega
                rfl
      | succ m ih =>
        intro hm'
        rcases Nat.eq_or_lt_of_le hm' with e | e
        · rw [e]
        · rw [frameOf, ih (by omega), if_neg]; rw [hno m (by omega)]; exact Bool.false_ne_true
    rw [e2 _ hnl, e1]
    exact this
  refine wp_region_any hm ?_
  refine wpAny_inv (fun listed a' w' => ((∀ j, n ≤ j → listed.getD j false = false) ∧ ∃ V : Nat → Value, (∀ (k : Nat) (h : Stir), hs[k]? = some h → h.sh (V k)) ∧ a' = frameOf l.toArray V (fun k => listed.getD k false) a l.toArray.size ∧ Below w.heap.size w w' ∧ ∀ (j : Nat) (h : Stir), hs[j]? = some h → listed.getD j false = true → h.r w' (V j)) ∨
      ∃ m, n ≤ m ∧ (∀ j, j < m → listed.getD j false = true) ∧ (∀ j, m ≤ j → listed.getD j false = false) ∧ wpList P l.toArray Q (l.drop m) a' w') ?_ ?_ _ _ _ _ (left_le _ _) Shut.none (.inl ⟨fun j _ => ?_, ?_⟩)
  · intro listed a' w' i hsh hI hr
    obtain ⟨hun, oi, hoi, _⟩ := mem_ready.1 hr
    have hi : i < l.toArray.size := (Array.getElem?_eq_some_iff.1 hoi).1
    have hil : i < listed.size := by rw [hsh.size]; exact hi
    have hunf := listed_both hun
    have hset : (listed.setIfInBounds i true).getD i false = true := set_same hil false
    have tailstep : ∀ m, n ≤ m → (∀ j, j < m → listed.getD j false = true) → (∀ j, m ≤ j → listed.getD j false = false) → n ≤ i → wpList P l.toArray Q (l.drop m) a' w' →
        wpOp P l.toArray Q i (fun a'' w'' => ((∀ j, n ≤ j → (listed.setIfInBounds i true).getD j false = false) ∧ ∃ V : Nat → Value, (∀ (k : Nat) (h : Stir), hs[k]? = some h → h.sh (V k)) ∧ a'' = frameOf l.toArray V (fun k => (listed.setIfInBounds i true).getD k false) a l.toArray.size ∧ Below w.heap.size w w'' ∧ ∀ (j : Nat) (h : Stir), hs[j]? = some h → (listed.setIfInBounds i true).getD j false = true → h.r w'' (V j)) ∨
          ∃ m, n ≤ m ∧ (∀ j, j < m → (listed.setIfInBounds i true).getD j false = true) ∧ (∀ j, m ≤ j → (listed.setIfInBounds i true).getD j false = false) ∧ wpList P l.toArray Q (l.drop m) a'' w'') a' w' := by
      intro m hnm hall hno hni hw
      have him : i = m := by
        rcases Nat.lt_trichotomy i m with h' | h' | h'
        · rw [hall i h'] at hunf; cases hunf
        · exact h'
        · have h1 := ((htail i hi).resolve_left (by omega)) m h'
          have h2 := reach_listed hsh 6 i m (fun k hk => waits_listed hr hk) h1
          rw [hno m (Nat.le_refl _)] at h2; cases h2
      subst him
      have hli : l[i]? = some oi := by simpa using hoi
      have hdrop : l.drop i = oi :: l.drop (i + 1) := by
        have hlt : i < l.length := by omega
        rw [List.drop_eq_getElem_cons hlt]
        congr 1
        rw [List.getElem?_eq_getElem hlt] at hli
        exact Option.some.inj hli
      rw [hdrop] at hw
      simp only [wpList] at hw
      have hall' : ∀ j, j < i + 1 → (listed.setIfInBounds i true).getD j false = true := fun j hj => by
        rcases Nat.lt_or_ge j i with h' | h'
        · rw [getD_set_ne false (by omega)]; exact hall j h'
        · obtain rfl : j = i := by omega
          exact hset
      have hno' : ∀ j, i + 1 ≤ j → (listed.setIfInBounds i true).getD j false = false := fun j hj => by
        rw [getD_set_ne false (by omega)]; exact hno j (by omega)
      unfold Go.wpOp
      simp only [hoi]
      split
      · rename_i hwt
        rw [if_pos hwt] at hw
        exact hw.imp (Oper.wp_mono fun a'' w'' h'' => .inr ⟨i + 1, by omega, hall', hno', h''⟩) (fun h => h)
      · rename_i hwt
        rw [if_neg hwt] at hw
        exact .inr ⟨i + 1, by omega, hall', hno', hw⟩
    rcases hI with ⟨hno, V, hV, rfl, hb, hrr⟩ | ⟨m, hnm, hall, hno, hw⟩
    · rcases Nat.lt_or_ge i n with hin | hin
      · -- an operation of the first part
        have hx : ∃ h, hs[i]? = some h := ⟨hs[i]'(by omega), by simp⟩
        obtain ⟨hh, hhi⟩ := hx
        obtain ⟨o', ho', hask⟩ := (key V hV).1 i hh (Nat.zero_le _) hhi
        obtain rfl : oi = o' := Option.some.inj (hoi.symm.trans ho')
        have hsee := H.sees (V := V) (V' := V) (M := fun _ => true) (a := a) hsh hoi hr (fun k _ hk => by cases hk) (fun _ _ => rfl)
        have hput : ∀ v, (frameOf l.toArray V (fun k => listed.getD k false) a l.toArray.size).put oi.dst v = frameOf l.toArray (fun k => if k = i then v else V k) (fun k => (listed.setIfInBounds i true).getD k false) a l.toArray.size := fun v => by
          have e1 : dstOf l.toArray i = oi.dst := by simp [dstOf, hoi]
          rw [H.frame_put hsh hi hun, e1, if_pos rfl]
          congr 1
          exact frameOf_congr _ fun j _ => ⟨rfl, fun hj => by rw [if_neg (fun e => by subst e; rw [hunf] at hj; cases hj)]⟩
        have hnext : ∀ v w'', Below w.heap.size w' w'' → (∀ (j : Nat) (h : Stir), hs[j]? = some h → j ≠ i → listed.getD j false = true → h.r w' (V j) → h.r w'' (V j)) → hh.r w'' v → ((∀ j, n ≤ j → (listed.setIfInBounds i true).getD j false = false) ∧ ∃ V' : Nat → Value, (∀ (k : Nat) (h : Stir), hs[k]? = some h → h.sh (V' k)) ∧ (frameOf l.toArray V (fun k => listed.getD k false) a l.toArray.size).put oi.dst v = frameOf l.toArray V' (fun k => (listed.setIfInBounds i true).getD k false) a l.toArray.size ∧ Below w.heap.size w w'' ∧ ∀ (j : Nat) (h : Stir), hs[j]? = some h → (listed.setIfInBounds i true).getD j false = true → h.r w'' (V' j)) := by
          intro v w'' hb' hkeep hrv
          refine ⟨fun j hj => by rw [getD_set_ne false (by omega)]; exact hno j hj, fun k => if k = i then v else V k, fun k h hk => ?_, hput v, hb.trans hb', fun j h hjh hj => ?_⟩
          · by_cases e : k = i
            · subst e
              obtain rfl : hh = h := Option.some.inj (hhi.symm.trans hk)
              simp only [if_true]
              exact Stir.r_sh hrv
            · simp only [if_neg e]; exact hV k h hk
          · by_cases e : j = i
            · subst e
              obtain rfl : hh = h := Option.some.inj (hhi.symm.trans hjh)
              simp only [if_true]
              exact hrv
            · simp only [if_neg e]
              rw [getD_set_ne false (Ne.symm e)] at hj
              exact hkeep j h hjh e hj (hrr j h hjh hj)
        unfold Go.wpOp
        simp only [hoi]
        rw [wanted_of_slots hsee]
        unfold Oper.stirAsk at hask
        by_cases hwt : Region.wanted oi (yielded l.toArray (frameOf l.toArray V (fun _ => true) a i).tmps) = true
        · rw [if_pos hwt] at hask
          rw [if_pos hwt]
          obtain ⟨p, rfl⟩ := regrown_of_below hb
          have h1 := hask p (depsS_all _ fun j h hj hjh hw => hrr j h hjh (waits_listed hr hw))
          have hst : ∀ v w'', hh.K (grow (redrawn w p.d) p.os) w'' → hh.r w'' v → _ := fun v w'' hk hrv => hnext v w'' (by
            cases hh with
            | const c => exact (show Below _ _ _ from hk).mono hb.size
            | held s r => exact (show Below _ _ _ from hk).mono hb.size
            | stir s r K => exact (hx i s r K hhi).1 _ _ hb.size hk) (fun j h hjh hji hj hr1 => by
            cases hh with
            | const c => exact Stir.r_mono (goodAllS_at hg hjh) hk hr1
            | held s r => exact Stir.r_mono (goodAllS_at hg hjh) hk hr1
            | stir s r K =>
              rcases (hx i s r K hhi).2 j h hjh hji with h1 | h1
              · have h2 := reach_listed2 hsh 6 j i hj h1
                rw [hunf] at h2
                cases h2
              · exact h1 _ _ _ hk hr1) hrv
          refine .inl (Oper.wp_of_stir ?_ fun v w'' hb' hrv => .inl (hst v w'' hb' hrv))
          unfold Oper.stirAt at h1 ⊢
          rwa [exec_of_slots (ops := l.toArray) (fun cs b => Region.noSelect_spec H.sel i oi cs b hoi) hsee]
        · rw [if_neg hwt] at hask
          rw [if_neg hwt]
          exact .inl (hnext undef w' (Below.refl _ _) (fun j h _ _ _ h1 => h1) (hask _))
      · have hall : ∀ j, j < n → listed.getD j false = true := fun j hj => reach_listed hsh 6 i j (fun k hk => waits_listed hr hk) (((htail i hi).resolve_left (by omega)) j (by omega))
        exact tailstep n (Nat.le_refl _) hall hno hin (final V listed w' hV hb hall hno hrr)
    · have hni : n ≤ i := by
        rcases Nat.lt_or_ge i n with h' | h'
        · rw [hall i (by omega)] at hunf; cases hunf
        · exact h'
      exact tailstep m hnm hall hno hni hw
  · intro listed a' w' hsh hI hr
    have hall := H.all hsh hr
    rcases hI with ⟨hno, V, hV, rfl, hb, hrr⟩ | ⟨m, hnm, hall', hno, hw⟩
    · have hnn : n = l.length := by
        rcases Nat.lt_or_ge n l.length with h' | h'
        · have := hall n (by omega); rw [hno n (Nat.le_refl _)] at this; cases this
        · omega
      have := final V listed w' hV hb (fun j hj => hall j (by omega)) hno hrr
      rw [hnn, List.drop_length] at this
      exact this
    · have hmm : l.length ≤ m := by
        rcases Nat.lt_or_ge m l.length with h' | h'
        · have := hall m (by omega); rw [hno m (Nat.le_refl _)] at this; cases this
        · exact h'
      rw [List.drop_eq_nil_of_le hmm] at hw
      exact hw
  · rcases Nat.lt_or_ge j l.length with h' | h' <;> simp [h']
  · obtain ⟨V, hV⟩ := hwit
    refine ⟨V, hV, ?_, (Below.refl _ _).drew, fun j h _ hj => ?_⟩
    · symm
      have : ∀ k, frameOf l.toArray V (fun k => (Array.replicate l.toArray.size false).getD k false) a k = a := fun k => by
        induction k with
        | zero => rfl
        | succ k ih => rw [frameOf, ih, if_neg]; rcases Nat.lt_or_ge k l.length with h' | h' <;> simp [h']
      exact this _
    · rcases Nat.lt_or_ge j l.length with h' | h' <;> simp [h'] at hj
theorem wpStir_end {W : World} {Q : Act → World → Prop} {k : Nat} {l : List Oper} {a : Act} {F : List (Nat × (World → Prop))} (h : ∀ w', Below W.heap.size W w' → allP F w' → Q a w') : wpStir P md ops W Q k l [] a F := by
  have h' : ∀ p : Regrown, allP F (grow (redrawn W p.d) p.os) → Q a (grow (redrawn W p.d) p.os) := fun p => h _ (below_regrown _ _ _)
  cases l <;> exact h'
theorem wpStir_const {W : World} {Q : Act → World → Prop} {k : Nat} {o : Oper} {l : List Oper} {c : Value} {hs : List Stir} {a : Act} {F : List (Nat × (World → Prop))}
    (h1 : if Region.wanted o (yielded ops a.tmps) then ∀ p : Regrown, depsP md ops k F (grow (redrawn W p.d) p.os) → Oper.stirAt P o a (grow (redrawn W p.d) p.os) Newer (fun _ v => v = c) else c = undef)
    (h2 : wpStir P md ops W Q (k + 1) l hs (a.put o.dst c) F) : wpStir P md ops W Q k (o :: l) (.const c :: hs) a F := by
  refine ⟨?_, fun v hv => by rw [show v = c from hv]; exact h2⟩
  unfold Oper.stirAsk
  split
  · rename_i hw; rw [if_pos hw] at h1; exact h1
  · rename_i hw; rw [if_neg hw] at h1; exact fun _ => h1.symm
theorem wpStir_held {W : World} {Q : Act → World → Prop} {k : Nat} {o : Oper} {l : List Oper} {s : Value → Prop} {r : World → Value → Prop} {hs : List Stir} {a : Act} {F : List (Nat × (World → Prop))} (hg : o.guard = none)
    (h1 : ∀ w', Below W.heap.size W w' → depsP md ops k F w' → Oper.stirAt P o a w' Newer (fun w v => s v ∧ r w v))
    (h2 : ∀ v, s v → wpStir P md ops W Q (k + 1) l hs (a.put o.dst v) ((k, fun w => r w v) :: F)) : wpStir P md ops W Q k (o :: l) (.held s r :: hs) a F := by
  refine ⟨?_, fun v hv => h2 v hv⟩
  unfold Oper.stirAsk Region.wanted
  rw [hg, if_pos rfl]
  exact fun p => h1 _ (below_regrown _ _ _)
theorem wpStir_stir {W : World} {Q : Act → World → Prop} {k : Nat} {o : Oper} {l : List Oper} {s : Value → Prop} {r : World → Value → Prop} {S : World → World → Prop} {hs : List Stir} {a : Act} {F : List (Nat × (World → Prop))} (hg : o.guard = none)
    (h1 : ∀ w', Below W.heap.size W w' → depsP md ops k F w' → Oper.stirAt P o a w' S (fun w v => s v ∧ r w v))
    (h2 : ∀ v, s v → wpStir P md ops W Q (k + 1) l hs (a.put o.dst v) ((k, fun w => r w v) :: F)) : wpStir P md ops W Q k (o :: l) (.stir s r S :: hs) a F := by
  refine ⟨?_, fun v hv => h2 v hv⟩
  unfold Oper.stirAsk Region.wanted
  rw [hg, if_pos rfl]
  exact fun p => h1 _ (below_regrown _ _ _)
theorem wpStir_call {W : World} {Q : Act → World → Prop} {k : Nat} {o : Oper} {l : List Oper} {c : Value} {hs : List Stir} {a : Act} {F : List (Nat × (World → Prop))} (hg : o.guard = none)
    (h1 : ∀ w', Below W.heap.size W w' → depsP md ops k F w' → Oper.stirAt P o a w' Newer (fun _ v => v = c))
    (h2 : wpStir P md ops W Q (k + 1) l hs (a.put o.dst c) F) : wpStir P md ops W Q k (o :: l) (.const c :: hs) a F := by
  refine wpStir_const ?_ h2
  unfold Region.wanted
  rw [hg, if_pos rfl]
  exact fun p => h1 _ (below_regrown _ _ _)
attribute [go_sem] Oper.stirAt Oper.stirUpon
end
theorem owns_below {w w' : World} {base : Nat} {e : TypeId} {size : Nat} {v : Value} {n : Nat} {xs : List Value} (h : w.ownsRow base e size v n xs) (hb : Below w.heap.size w w') : w'.ownsRow base e size v n xs :=
  h.kept (row := none) ⟨hb.os, hb.tape, hb.output, hb.size, fun k hk _ => hb.block k hk⟩ (by cases v.ownBlock <;> simp)
theorem owns_lower {w : World} {base base' : Nat} {e : TypeId} {size : Nat} {v : Value} {n : Nat} {xs : List Value} (h : w.ownsRow base e size v n xs) (hb : base' ≤ base) : w.ownsRow base' e size v n xs :=
  ⟨h.1, h.2.imp id fun ⟨g, cap, cur, h1, h2, h3⟩ => ⟨g, cap, cur, h1, Nat.le_trans hb h2, h3⟩⟩
theorem owns_form {w : World} {base : Nat} {e : TypeId} {size : Nat} {v : Value} {n : Nat} {xs : List Value} (h : w.ownsRow base e size v n xs) (hn : 0 < n) : ∃ g cap, v = .slice (some ⟨g, 0, none⟩) n cap := by
  rcases h.2 with ⟨_, h0⟩ | ⟨g, cap, cur, hv, _⟩
  · omega
  · exact ⟨g, cap, hv⟩
/-- the row of a value is one of elements of this type -/
theorem owns_typed {w : World} {base : Nat} {e : TypeId} {size : Nat} {v : Value} {n : Nat} {xs : List Value} (h : w.ownsRow base e size v n xs) : ∀ g, v.ownBlock = some g → base ≤ g ∧ ∃ cur, w.heap[g]? = some (.cells cur e (0, 0)) := by
  intro g hg
  rcases h.2 with ⟨rfl, _⟩ | ⟨g', cap, cur, rfl, h1, h2, _⟩
  · cases hg
  · have : g' = g := by simpa [Value.ownBlock] using hg
    subst this
    exact ⟨h1, cur, h2⟩
/-- but for new memory, only a row of the region's own may have been gone on with -/
def RowOn (N : Nat) (e : TypeId) (size n : Nat) (w w' : World) : Prop :=
  Below w.heap.size w w' ∨ (0 < n ∧ ∃ g cur cur' : _, N ≤ g ∧ w.heap[g]? = some (.cells cur e (0, 0)) ∧ w'.heap[g]? = some (.cells cur' e (0, 0)) ∧ (cur' : Array Value).size = (cur : Array Value).size ∧ cur'.toList.take (n * size) = cur.toList.take (n * size) ∧ w.grownBy w' (some g))
theorem RowOn.below {N : Nat} {e : TypeId} {size n : Nat} {w w' : World} (h : RowOn N e size n w w') (hN : N ≤ w.heap.size) : Below N w w' := by
  rcases h with h | ⟨_, g, _, _, h1, _, _, _, _, h2⟩
  · exact h.mono hN
  · exact ⟨h2.os, h2.tape, h2.output, h2.size, fun k hk => h2.block k (by omega) (fun e => by injection e with e; omega)⟩
theorem RowOn.owns {N base : Nat} {e : TypeId} {size n k : Nat} {w w' : World} (h : RowOn N e size n w w') {v : Value} {xs : List Value} (hk : k ≤ n) (ho : w.ownsRow base e size v k xs) : w'.ownsRow base e size v k xs := by
  rcases h with h | ⟨_, g, cur, cur', h1, h2, h3, h4, h5, h6⟩
  · exact owns_below ho h
  · by_cases hg : v.ownBlock = some g
    · refine ⟨ho.1, ?_⟩
      rcases ho.2 with hn | ⟨g', cap, c0, rfl, b1, b2, b3, b4, b5, b6⟩
      · exact .inl hn
      · have : g' = g := by simpa [Value.ownBlock] using hg
        subst this
        rw [h2] at b2
        injection b2 with b2
        injection b2 with b2
        subst b2
        refine .inr ⟨g', cap, cur', rfl, b1, h3, b3, b4, by rw [h4, b5], ?_⟩
        have hle : k * size ≤ n * size := Nat.mul_le_mul_right _ hk
        have e1 : cur'.toList.take (k * size) = (cur'.toList.take (n * size)).take (k * size) := by rw [List.take_take, Nat.min_eq_left hle]
        rw [e1, h5, List.take_take, Nat.min_eq_left hle]
        exact b6
    · exact ho.kept h6 (.inr hg)
/-- a row at hand that is gone on with: one without anything, or one of the region's own -/
def AtHand (N : Nat) (e : TypeId) (size n : Nat) (xs : List Value) (w : World) (v : Value) : Prop :=
  (n = 0 ∧ xs = [] ∧ ∃ g, v = .slice (some ⟨g, 0, none⟩) 0 0) ∨ (0 < n ∧ w.ownsRow N e size v n xs)
def ShapeOf (n : Nat) (v : Value) : Prop := ∃ g c, v = .slice (some ⟨g, 0, none⟩) n c
theorem AtHand.mono {N : Nat} {e : TypeId} {size n : Nat} {xs : List Value} {w w' : World} {v : Value} (hb : Below w.heap.size w w') (h : AtHand N e size n xs w v) : AtHand N e size n xs w' v :=
  h.imp id fun h => ⟨h.1, owns_below h.2 hb⟩
theorem AtHand.on {N : Nat} {e : TypeId} {size n : Nat} {xs : List Value} {w w' : World} {v : Value} (hb : RowOn N e size n w w') (h : AtHand N e size n xs w v) : AtHand N e size n xs w' v :=
  h.imp id fun h => ⟨h.1, hb.owns (Nat.le_refl _) h.2⟩
/-- 'append([]T{}, xs...)' at a step of a region -/
theorem stir_copy {P : Program} {o : Oper} {a : Act} (w : World) (s x : Operand) (t : TypeId) (hop : o.op = Op.call { callee := Callee.builtin Builtin.append, args := #[s, x], argTypes := #[t, t] })
    (e : TypeId) (z : Value) (size bytes : Nat) (hinfo : (P.info? e).map (fun i => (i.zero, i.size, i.bytes)) = some (some z, size, bytes)) (ht : P.underlying t = some (.slice e)) (hzs : z.cells.size = size) (hsz : 0 < size)
    (ad : Nat) (A : Option Addr) (m c : Nat) (L : List Value) (hs : a.eval s = .slice (some ⟨ad, 0, none⟩) 0 0) (hx : a.eval x = .slice A m c) (hl : L.length = m * size) (hr : RowAt w A L) (h63 : m ≤ 1000000) (hby : bytes ≤ 1000000) (N : Nat) (hN : N ≤ w.heap.size) :
    Oper.stirAt P o a w Newer (fun w' v => ShapeOf m v ∧ AtHand N e size m L w' v) := by
  obtain ⟨i0, hi, iz0, iz1, iz2⟩ := info_parts hinfo
  have hbytes : (0 + m) * bytes ≤ 140737488355328 := by rw [Nat.zero_add]; exact Nat.le_trans (Nat.mul_le_mul h63 hby) (by decide)
  rcases Nat.eq_zero_or_pos m with h0 | h0
  · subst h0
    obtain rfl : L = [] := List.eq_nil_of_length_eq_zero (by simpa using hl)
    have hrun : (Builtin.append_ #[t, t] o.type #[.slice (some ⟨ad, 0, none⟩) 0 0, .slice A 0 c]).run P w = .ok (.slice (some ⟨ad, 0, none⟩) 0 0) w := by
      cases A with
      | none => simp [Builtin.append_, run_underlying ht, sizeOf, typeInfo, hi, Builtin.lenOf, Builtin.firstCells, storeCells]
      | some a =>
        have hfc := run_firstCells_some (P := P) w i0.size 0 a 0 c [] (by simp) (fun j u h => by simp at h)
        simp [Builtin.append_, run_underlying ht, sizeOf, typeInfo, hi, Builtin.lenOf, hfc, storeCells]
    unfold Oper.stirAt
    simp only [execOp, hop, resolve, invoke, builtin, List.map_toArray, List.map_cons, List.map_nil, hs, hx, hrun, Result.andThen, Sem.run_bind, Sem.run_pure, Oper.stirUpon]
    exact ⟨Below.refl _ _, ⟨_, _, rfl⟩, .inl ⟨rfl, rfl, _, rfl⟩⟩
  · rcases hr with hr | ⟨b, o', rfl, hlt, hc⟩
    · rw [hr] at hl
      have := Nat.mul_pos h0 hsz
      simp only [List.length_nil] at hl
      omega
    · obtain ⟨v', w', hrun, hown, hg⟩ := run_append_arg_grows (P := P) w t o.type e i0 z size bytes ht hi iz0 iz1 iz2 hzs hsz ⟨ad, 0, none⟩ 0 0 [] (by simp) (fun j u h => by simp at h) ⟨b, o', none⟩ m c L hl (fun j u h => by
        rw [show (⟨b, o', none⟩ : Addr).add j = ⟨b, o' + j, none⟩ from by unfold Addr.add; split <;> simp_all]; exact hc j u h) (by omega) (by unfold maxLen; omega) hbytes
      simp only [List.nil_append, Nat.zero_add] at hown
      obtain ⟨g, cap, rfl⟩ := owns_form hown h0
      unfold Oper.stirAt
      simp only [execOp, hop, resolve, invoke, builtin, List.map_toArray, List.map_cons, List.map_nil, hs, hx, hrun, Result.andThen, Sem.run_bind, Sem.run_pure, Oper.stirUpon]
      exact ⟨below_grown hg, ⟨_, _, rfl⟩, .inr ⟨h0, owns_lower hown hN⟩⟩
/-- 'append(row, xs...)' of a row of the region's own, at a step of a region -/
theorem stir_append {P : Program} {o : Oper} {a : Act} (w : World) (s x : Operand) (t : TypeId) (hop : o.op = Op.call { callee := Callee.builtin Builtin.append, args := #[s, x], argTypes := #[t, t] })
    (e : TypeId) (z : Value) (size bytes : Nat) (hinfo : (P.info? e).map (fun i => (i.zero, i.size, i.bytes)) = some (some z, size, bytes)) (ht : P.underlying t = some (.slice e)) (hzs : z.cells.size = size) (hsz : 0 < size)
    (v : Value) (n : Nat) (xs : List Value) (A : Option Addr) (m c : Nat) (L : List Value) (N : Nat) (hv : AtHand N e size n xs w v) (hs : a.eval s = v) (hx : a.eval x = .slice A m c) (hm : 0 < m) (hl : L.length = m * size) (hr : RowAt w A L) (h1 : ∀ u ∈ L, u.oneCell' = true) (h63 : n + m ≤ 1000000) (hby : bytes ≤ 1000000) (hN : N ≤ w.heap.size) :
    Oper.stirAt P o a w (RowOn N e size n) (fun w' v => ShapeOf (n + m) v ∧ w'.ownsRow N e size v (n + m) (xs ++ L)) := by
  obtain ⟨i0, hi, iz0, iz1, iz2⟩ := info_parts hinfo
  have hbytes : (n + m) * bytes ≤ 140737488355328 := Nat.le_trans (Nat.mul_le_mul h63 hby) (by decide)
  rcases hr with hr | ⟨b, o', rfl, hlt, hc⟩
  · rw [hr] at hl
    have := Nat.mul_pos hm hsz
    simp only [List.length_nil] at hl
    omega
  have hc' : ∀ j u, L[j]? = some u → w.cell? ((⟨b, o', none⟩ : Addr).add j) = some u := fun j u h => by
    rw [show (⟨b, o', none⟩ : Addr).add j = ⟨b, o' + j, none⟩ from by unfold Addr.add; split <;> simp_all]; exact hc j u h
  have fin : ∀ v' w', (Builtin.append_ #[t, t] o.type #[v, .slice (some ⟨b, o', none⟩) m c]).run P w = .ok v' w' → RowOn N e size n w w' → w'.ownsRow N e size v' (n + m) (xs ++ L) → Oper.stirAt P o a w (RowOn N e size n) (fun w' v => ShapeOf (n + m) v ∧ w'.ownsRow N e size v (n + m) (xs ++ L)) := fun v' w' hrun hon hown => by
    unfold Oper.stirAt
    simp only [execOp, hop, resolve, invoke, builtin, List.map_toArray, List.map_cons, List.map_nil, hs, hx, hrun, Result.andThen, Sem.run_bind, Sem.run_pure, Oper.stirUpon]
    obtain ⟨g, cap, hg⟩ := owns_form hown (by omega)
    exact ⟨hon, ⟨g, cap, hg⟩, hown⟩
  rcases hv with ⟨rfl, rfl, g, rfl⟩ | ⟨hn, hown⟩
  · obtain ⟨v', w', hrun, hown, hg⟩ := run_append_arg_grows (P := P) w t o.type e i0 z size bytes ht hi iz0 iz1 iz2 hzs hsz ⟨g, 0, none⟩ 0 0 [] (by simp) (fun j u h => by simp at h) ⟨b, o', none⟩ m c L hl hc' (by omega) (by unfold maxLen; omega) hbytes
    exact fin v' w' hrun (.inl (below_grown hg)) (owns_lower hown hN)
  · rcases id hown.2 with ⟨_, h0⟩ | ⟨g, cap, cur, rfl, b1, b2, b3, b4, b5, b6⟩
    · omega
    · have hxl := hown.1
      by_cases hroom : n + m ≤ cap
      · have hfit : n * size + L.length ≤ cur.size := by rw [hl, b5, ← Nat.add_mul]; exact Nat.mul_le_mul_right _ hroom
        have hlt2 : n * size ≤ cur.toList.length := by simp; omega
        have hrun := run_append_room (P := P) w t o.type e i0 ht hi g n cap cur b2 ⟨b, o', none⟩ m c L (by rw [hl, iz1]) hc' h1 hroom (by rw [iz1]; exact hfit)
        rw [iz1] at hrun
        have hh := setRow_heap w g cur (cur.toList.take (n * size) ++ L ++ cur.toList.drop (n * size + L.length)).toArray e (0, 0) b2
        have hsz' : (cur.toList.take (n * size) ++ L ++ cur.toList.drop (n * size + L.length)).toArray.size = cur.size := by simp; omega
        have hgrow : w.grownBy (w.setRow g (cur.toList.take (n * size) ++ L ++ cur.toList.drop (n * size + L.length)).toArray) (some g) :=
          ⟨rfl, rfl, rfl, by simp [World.setRow], fun k hk hne => by
            simp only [World.setRow]
            rw [Array.getElem?_modify, if_neg (fun e => hne (by rw [e]))]⟩
        refine fin _ _ hrun (.inr ⟨hn, g, cur, _, b1, b2, hh, hsz', ?_, hgrow⟩) ⟨by rw [List.length_append, hxl, hl, Nat.add_mul], .inr ⟨g, cap, _, rfl, b1, hh, hroom, b4, by rw [hsz', b5], ?_⟩⟩
        · rw [List.toList_toArray, List.append_assoc, List.take_append_of_le_length (by rw [List.length_take]; omega), List.take_take, Nat.min_self]
        · rw [List.toList_toArray, b6]
          exact List.take_left' (by rw [List.length_append, hxl, hl, Nat.add_mul])
      · obtain ⟨v', w', hrun, hown', hg⟩ := run_append_arg_grows (P := P) w t o.type e i0 z size bytes ht hi iz0 iz1 iz2 hzs hsz ⟨g, 0, none⟩ n cap xs hxl (fun j u h => hown.cells (g := g) rfl j u h) ⟨b, o', none⟩ m c L hl hc' (by omega) (by unfold maxLen; omega) hbytes
        exact fin v' w' hrun (.inl (below_grown hg)) (owns_lower hown' hN)
end Go.Proofs.YtbbnpneabmldnaaDoor
