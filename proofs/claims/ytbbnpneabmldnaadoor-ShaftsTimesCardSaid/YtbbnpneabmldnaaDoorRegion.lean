/- A region that draws its order, whose operations only read or call functions that only make new blocks: one walk in the order of the text serves every order, also where beside them a new variable is made and filled (wp_region_new), or a store ends the region (wp_region_last). No condition but the closed facts on the region that the theorems ask. -/
import Derived.Test.YtbbnpneabmldnaaDoorBase
namespace Go.Proofs.YtbbnpneabmldnaaDoor
open Go.RowKit Go.Sort

section
variable {P : Program} {ops : Array Oper} {md : Region.Mode}

def waits (md : Region.Mode) (ops : Array Oper) (j i : Nat) : Bool :=
  match ops[j]? with
  | some o => o.after.any fun e => Region.binds md e && e.on == i
  | none => false
theorem waits_listed {listed : Array Bool} {i j : Nat} (hr : j ∈ Region.ready md ops listed) (h : waits md ops j i = true) : listed.getD i false = true := by
  obtain ⟨_, o, ho, hall⟩ := mem_ready.1 hr
  simp only [waits, ho] at h
  obtain ⟨e, he, hb⟩ := Array.any_eq_true'.1 h
  simp only [Bool.and_eq_true, beq_iff_eq] at hb
  rw [← hb.2]
  exact hall e he hb.1
/-- what has come up has all that it waits for behind it -/
structure Shut (md : Region.Mode) (ops : Array Oper) (listed : Array Bool) : Prop where
  size : listed.size = ops.size
  shut : ∀ j i, listed.getD j false = true → waits md ops j i = true → listed.getD i false = true
theorem listed_both {listed : Array Bool} {i : Nat} (h : listed.getD i true = false) : listed.getD i false = false := by
  rcases Nat.lt_or_ge i listed.size with h' | h'
  · simp [h'] at h ⊢; exact h
  · simp [Array.getElem?_eq_none h'] at h
theorem set_same {listed : Array Bool} {i : Nat} (h : i < listed.size) (d : Bool) : (listed.setIfInBounds i true).getD i d = true := by simp [h]
theorem lt_of_unlisted {listed : Array Bool} {i : Nat} (h : listed.getD i true = false) : i < listed.size := by
  rcases Nat.lt_or_ge i listed.size with h' | h'
  · exact h'
  · simp [Array.getElem?_eq_none h'] at h
theorem Shut.set {listed : Array Bool} {i : Nat} (h : Shut md ops listed) (hr : i ∈ Region.ready md ops listed) : Shut md ops (listed.setIfInBounds i true) := by
  refine ⟨by simp [h.size], fun j k hj hw => ?_⟩
  by_cases hij : i = j
  · subst hij; exact getD_set_true (waits_listed hr hw)
  · rw [getD_set_ne false hij] at hj; exact getD_set_true (h.shut j k hj hw)
theorem Shut.none : Shut md ops (Array.replicate ops.size false) :=
  ⟨by simp, fun j i hj _ => by
    rcases Nat.lt_or_ge j ops.size with h | h
    · simp [h] at hj
    · simp [h] at hj⟩
/-- how many have not come up yet -/
def left (listed : Array Bool) : Nat → Nat
  | 0 => 0
  | k + 1 => left listed k + (if listed.getD k true then 0 else 1)
theorem left_set_low {listed : Array Bool} {i : Nat} : ∀ k, k ≤ i → left (listed.setIfInBounds i true) k = left listed k
  | 0, _ => rfl
  | k + 1, h => by simp only [left]; rw [left_set_low k (by omega), getD_set_ne true (by omega)]
theorem left_set {listed : Array Bool} {i : Nat} (hi : listed.getD i true = false) : ∀ k, i < k → left (listed.setIfInBounds i true) k + 1 = left listed k
  | 0, h => by omega
  | k + 1, h => by
    simp only [left]
    by_cases e : i = k
    · subst e
      rw [left_set_low i (Nat.le_refl _), set_same (lt_of_unlisted hi), hi]; rfl
    · rw [getD_set_ne true e]; have := left_set hi k (by omega); omega
theorem left_le (listed : Array Bool) : ∀ k, left listed k ≤ k
  | 0 => Nat.le_refl 0
  | k + 1 => by simp only [left]; have := left_le listed k; split <;> omega
theorem left_pos {listed : Array Bool} {i : Nat} (hi : listed.getD i true = false) : ∀ k, i < k → 0 < left listed k := fun k hk => by have := left_set hi k hk; omega

theorem wpAny_inv {Q : Exit → Act → World → Prop} (Inv : Array Bool → Act → World → Prop)
    (hstep : ∀ listed a w i, Shut md ops listed → Inv listed a w → i ∈ Region.ready md ops listed → wpOp P ops Q i (Inv (listed.setIfInBounds i true)) a w)
    (hend : ∀ listed a w, Shut md ops listed → Inv listed a w → Region.ready md ops listed = [] → Q .normal a w) :
    ∀ (fuel : Nat) (listed : Array Bool) (a : Act) (w : World), left listed ops.size ≤ fuel → Shut md ops listed → Inv listed a w → wpAny P md ops Q fuel listed a w
  | 0, listed, a, w, hl, hs, hI => by
    have hr : Region.ready md ops listed = [] := by
      cases hr : Region.ready md ops listed with
      | nil => rfl
      | cons i rest =>
        have hm : i ∈ Region.ready md ops listed := by rw [hr]; exact List.mem_cons_self
        have h0 := (mem_ready.1 hm).1
        have := left_pos h0 ops.size (by rw [← hs.size]; exact lt_of_unlisted h0)
        omega
    exact ⟨hr, hend _ _ _ hs hI hr⟩
  | fuel + 1, listed, a, w, hl, hs, hI => by
    refine ⟨fun hr => hend _ _ _ hs hI hr, fun i hi => ?_⟩
    have h0 := (mem_ready.1 hi).1
    have h1 := left_set h0 ops.size (by rw [← hs.size]; exact lt_of_unlisted h0)
    exact wpOp_mono (fun a' w' h' => wpAny_inv Inv hstep hend fuel _ a' w' (by omega) (hs.set hi) h') (hstep _ _ _ _ hs hI hi)

/-! ### The frame behind some of the operations -/
def dstOf (ops : Array Oper) (k : Nat) : Option Tmp := (ops[k]?).bind (·.dst)
def frameOf (ops : Array Oper) (V : Nat → Value) (L : Nat → Bool) (a : Act) : Nat → Act
  | 0 => a
  | k + 1 => if L k then (frameOf ops V L a k).put (dstOf ops k) (V k) else frameOf ops V L a k
theorem put_size (a : Act) (d : Option Tmp) (v : Value) : (a.put d v).tmps.size = a.tmps.size := by cases d <;> simp [Act.put]
theorem frameOf_size (V : Nat → Value) (L : Nat → Bool) (a : Act) : ∀ k, (frameOf ops V L a k).tmps.size = a.tmps.size
  | 0 => rfl
  | k + 1 => by unfold frameOf; split <;> simp [put_size, frameOf_size V L a k]
theorem frameOf_defers (V : Nat → Value) (L : Nat → Bool) (a : Act) : ∀ k, (frameOf ops V L a k).defers = a.defers
  | 0 => rfl
  | k + 1 => by
    unfold frameOf
    split
    · cases dstOf ops k <;> simp [Act.put, frameOf_defers V L a k]
    · exact frameOf_defers V L a k
theorem put_ne {a : Act} {d : Option Tmp} {t : Tmp} (h : d ≠ some t) (v : Value) : (a.put d v).tmps[t]? = a.tmps[t]? := by
  cases d with
  | none => rfl
  | some d => simp only [Act.put]; rw [Array.getElem?_setIfInBounds_ne (fun e => h (by rw [e]))]
theorem put_eq {a b : Act} {t : Tmp} (hs : a.tmps.size = b.tmps.size) (v : Value) : (a.put (some t) v).tmps[t]? = (b.put (some t) v).tmps[t]? := by
  simp only [Act.put, Array.getElem?_setIfInBounds, hs, if_true]
/-- a slot reads the same behind two choices, if whoever writes it stands in both, and no later one -/
theorem frameOf_slot {V V' : Nat → Value} {L M : Nat → Bool} {a : Act} {t : Tmp} {i : Nat}
    (hlow : ∀ k, k < i → dstOf ops k = some t → L k = true ∧ M k = true ∧ V k = V' k) : ∀ k, k ≤ i → (frameOf ops V L a k).tmps[t]? = (frameOf ops V' M a k).tmps[t]?
  | 0, _ => rfl
  | k + 1, h => by
    have ih := frameOf_slot (a := a) hlow k (by omega)
    unfold frameOf
    by_cases hd : dstOf ops k = some t
    · obtain ⟨h1, h2, h3⟩ := hlow k (by omega) hd
      rw [if_pos h1, if_pos h2, hd, h3]
      exact put_eq (by simp [frameOf_size]) _
    · by_cases h1 : L k = true <;> by_cases h2 : M k = true <;> simp only [h1, h2, if_true, if_false, Bool.false_eq_true, put_ne hd] <;> exact ih
theorem frameOf_slot_up {V : Nat → Value} {L : Nat → Bool} {a : Act} {t : Tmp} {i : Nat} (hup : ∀ k, i ≤ k → L k = true → dstOf ops k ≠ some t) : ∀ k, i ≤ k → (frameOf ops V L a k).tmps[t]? = (frameOf ops V L a i).tmps[t]?
  | 0, h => by obtain rfl : i = 0 := by omega
               rfl
  | k + 1, h => by
    rcases Nat.eq_or_lt_of_le h with e | e
    · rw [e]
    · rw [show frameOf ops V L a (k + 1) = if L k then (frameOf ops V L a k).put (dstOf ops k) (V k) else frameOf ops V L a k from rfl]
      by_cases h1 : L k = true
      · rw [if_pos h1, put_ne (hup k (by omega) h1)]; exact frameOf_slot_up (V := V) (a := a) hup k (by omega)
      · rw [if_neg h1]; exact frameOf_slot_up (V := V) (a := a) hup k (by omega)
theorem frameOf_congr {V V' : Nat → Value} {L M : Nat → Bool} {a : Act} : ∀ k, (∀ j, j < k → L j = M j ∧ (L j = true → V j = V' j)) → frameOf ops V L a k = frameOf ops V' M a k
  | 0, _ => rfl
  | k + 1, h => by
    obtain ⟨h1, h2⟩ := h k (by omega)
    have ih := frameOf_congr (a := a) k (fun j hj => h j (by omega))
    unfold frameOf
    rw [ih, ← h1]
    split
    · rename_i h3; rw [h2 h3]
    · rfl
/-- one more has come up -/
theorem frameOf_put {V : Nat → Value} {L M : Nat → Bool} {a : Act} {i n : Nat} (hi : i < n) (hL : L i = false) (hM : M i = true) (hLM : ∀ k, k ≠ i → M k = L k) (hd : ∀ k d, i < k → L k = true → dstOf ops i = some d → dstOf ops k ≠ some d) :
    frameOf ops V M a n = (frameOf ops V L a n).put (dstOf ops i) (V i) := by
  have low : frameOf ops V M a i = frameOf ops V L a i := frameOf_congr i (fun j hj => ⟨hLM j (by omega), fun _ => rfl⟩)
  have key : ∀ k, i + 1 ≤ k → k ≤ n → frameOf ops V M a k = (frameOf ops V L a k).put (dstOf ops i) (V i) := by
    intro k
    induction k with
    | zero => intro h; omega
    | succ k ih =>
      intro h1 h2
      rcases Nat.eq_or_lt_of_le h1 with e | e
      · obtain rfl : i = k := by omega
        rw [frameOf, if_pos hM, low, frameOf, if_neg (by simp [hL])]
      · have := ih (by omega) (by omega)
        rw [frameOf, frameOf, hLM k (by omega), this]
        split
        · rename_i h3
          exact Act.put_comm _ _ _ (fun d hdd => hd k d (by omega) h3 hdd)
        · rfl
  exact key n (by omega) (Nat.le_refl n)

/-! ### Operations that are calm: one value in every world that is the first one with new blocks; what they leave is that with new blocks -/
/-- w' is w with new blocks (a plain name: the walk's simp does not look behind it) -/
def Newer (w w' : World) : Prop := Below w.heap.size w w'
def Oper.calmUpon (P : Program) (w : World) (v : Value) : Result Next → Prop
  | .ok (.value u) w' => w' = w ∧ u = v
  | .ok .skip w' => w' = w ∧ v = undef
  | .ok (.enter f args) w' => w' = w ∧ Calls P f args w (fun e w'' => e = .returned v ∧ Newer w w'')
  | _ => False
def Oper.calmAt (P : Program) (o : Oper) (a : Act) (w : World) (v : Value) : Prop := Oper.calmUpon P w v ((execOp a.eval o).run P w)
def Oper.calm (P : Program) (o : Oper) (a : Act) (W : World) (next : Act → Prop) : Prop := ∃ v, (∀ p : Regrown, Oper.calmAt P o a (grow (redrawn W p.d) p.os) v) ∧ next (a.put o.dst v)
attribute [go_sem] Oper.calm Oper.calmAt Oper.calmUpon
theorem Oper.wp_of_calm {o : Oper} {a : Act} {w : World} {v : Value} {K : Act → World → Prop} {Q : Exit → Act → World → Prop} (h : Oper.calmAt P o a w v) (hK : ∀ w', Below w.heap.size w w' → K (a.put o.dst v) w') : o.wp P a w K Q := by
  unfold Oper.calmAt at h
  unfold Oper.wp
  generalize (execOp a.eval o).run P w = r at *
  cases r with
  | ok n w' =>
    cases n <;> simp only [Oper.calmUpon] at h <;> simp only [Oper.upon]
    case value u =>
      obtain ⟨e1, e2⟩ := h
      rw [e1, e2]
      exact hK _ (Below.refl _ _)
    case skip =>
      obtain ⟨e1, e2⟩ := h
      rw [e1, ← e2]
      exact hK _ (Below.refl _ _)
    case enter f args =>
      obtain ⟨e1, hc⟩ := h
      rw [e1]
      exact hc.mono fun e w'' ⟨he, hw''⟩ => by subst he; exact hK _ hw''
  | halt x w' => simp only [Oper.calmUpon] at h
/-- the walk in the order of the text; the operations for which 'sk' holds are passed over -/

def wpCalm (P : Program) (ops : Array Oper) (W : World) (sk : Nat → Bool) (Q : Act → Prop) : Nat → List Oper → Act → Prop
  | _, [], a => Q a
  | k, o :: rest, a => if sk k then wpCalm P ops W sk Q (k + 1) rest a
    else if Region.wanted o (yielded ops a.tmps) then Oper.calm P o a W (wpCalm P ops W sk Q (k + 1) rest) else wpCalm P ops W sk Q (k + 1) rest (a.put o.dst undef)
theorem wpCalm_nil {W : World} {sk : Nat → Bool} {Q : Act → Prop} {k : Nat} {a : Act} (h : Q a) : wpCalm P ops W sk Q k [] a := h
theorem wpCalm_step {W : World} {sk : Nat → Bool} {Q : Act → Prop} {k : Nat} {o : Oper} {rest : List Oper} {a : Act} (hs : sk k = false)
    (h : ∀ K : Act → Prop, (∀ a, wpCalm P ops W sk Q (k + 1) rest a → K a) → if Region.wanted o (yielded ops a.tmps) then Oper.calm P o a W K else K (a.put o.dst undef)) : wpCalm P ops W sk Q k (o :: rest) a := by
  unfold wpCalm
  rw [hs]
  exact h _ (fun _ h => h)
theorem wpCalm_skip {W : World} {sk : Nat → Bool} {Q : Act → Prop} {k : Nat} {o : Oper} {rest : List Oper} {a : Act} (hs : sk k = true) (h : wpCalm P ops W sk Q (k + 1) rest a) : wpCalm P ops W sk Q k (o :: rest) a := by
  unfold wpCalm
  rw [hs]
  exact h
/-- what is known of operation k in the state a -/
def CalmAt (P : Program) (ops : Array Oper) (W : World) (o : Oper) (a : Act) (v : Value) : Prop :=
  (Region.wanted o (yielded ops a.tmps) = true ∧ ∀ w, Below W.heap.size W w → Oper.calmAt P o a w v) ∨ (Region.wanted o (yielded ops a.tmps) = false ∧ v = undef)
theorem wpCalm_values {W : World} {sk : Nat → Bool} {Q : Act → Prop} (a0 : Act) : ∀ (l : List Oper) (k : Nat) (V0 : Nat → Value), (∀ j, l[j]? = ops[k + j]?) → wpCalm P ops W sk Q k l (frameOf ops V0 (fun j => !sk j) a0 k) →
    ∃ V : Nat → Value, (∀ j, j < k → V j = V0 j) ∧ (∀ j o, k ≤ j → j < k + l.length → ops[j]? = some o → sk j = false → CalmAt P ops W o (frameOf ops V (fun j => !sk j) a0 j) (V j)) ∧ Q (frameOf ops V (fun j => !sk j) a0 (k + l.length))
  | [], k, V0, _, h => ⟨V0, fun _ _ => rfl, fun j o h1 h2 => by simp at h2; omega, by simpa [wpCalm] using h⟩
  | o :: l, k, V0, hl, h => by
    have h0 : ops[k]? = some o := by simpa using (hl 0).symm
    have hl' : ∀ j, l[j]? = ops[k + 1 + j]? := fun j => by have := hl (j + 1); simpa [Nat.add_assoc, Nat.add_comm 1 j] using this
    have go : ∀ v : Value, (sk k = false → CalmAt P ops W o (frameOf ops V0 (fun j => !sk j) a0 k) v) → wpCalm P ops W sk Q (k + 1) l (if sk k then frameOf ops V0 (fun j => !sk j) a0 k else (frameOf ops V0 (fun j => !sk j) a0 k).put o.dst v) →
        ∃ V : Nat → Value, (∀ j, j < k → V j = V0 j) ∧ (∀ j o', k ≤ j → j < k + (o :: l).length → ops[j]? = some o' → sk j = false → CalmAt P ops W o' (frameOf ops V (fun j => !sk j) a0 j) (V j)) ∧ Q (frameOf ops V (fun j => !sk j) a0 (k + (o :: l).length)) := by
      intro v hc hw
      let V1 : Nat → Value := fun j => if j = k then v else V0 j
      have e1 : frameOf ops V1 (fun j => !sk j) a0 k = frameOf ops V0 (fun j => !sk j) a0 k := frameOf_congr k (fun j hj => ⟨rfl, fun _ => by simp only [V1]; rw [if_neg (by omega)]⟩)
      have e2 : frameOf ops V1 (fun j => !sk j) a0 (k + 1) = if sk k then frameOf ops V0 (fun j => !sk j) a0 k else (frameOf ops V0 (fun j => !sk j) a0 k).put o.dst v := by
        rw [frameOf, e1]
        have e3 : dstOf ops k = o.dst := by simp [dstOf, h0]
        cases sk k <;> simp [V1, e3]
      obtain ⟨V, hV, hall, hQ⟩ := wpCalm_values a0 l (k + 1) V1 hl' (by rw [e2]; exact hw)
      have e4 : frameOf ops V (fun j => !sk j) a0 k = frameOf ops V0 (fun j => !sk j) a0 k := (frameOf_congr k (fun j hj => ⟨rfl, fun _ => hV j (by omega)⟩)).trans e1
      refine ⟨V, fun j hj => by rw [hV j (by omega)]; simp only [V1]; rw [if_neg (by omega)], fun j o' h1 h2 h3 h4 => ?_, by rw [List.length_cons, show k + (l.length + 1) = k + 1 + l.length from by omega]; exact hQ⟩
      rcases Nat.eq_or_lt_of_le h1 with e | e
      · subst e
        obtain rfl : o = o' := Option.some.inj (h0.symm.trans h3)
        rw [e4, hV k (by omega)]
        simp only [V1, if_true]
        exact hc h4
      · exact hall j o' e (by simp only [List.length_cons] at h2; omega) h3 h4
    unfold wpCalm at h
    by_cases hs : sk k = true
    · rw [if_pos hs] at h
      exact go undef (fun h' => by rw [hs] at h'; cases h') (by rw [if_pos hs]; exact h)
    · rw [if_neg hs] at h
      by_cases hw : Region.wanted o (yielded ops (frameOf ops V0 (fun j => !sk j) a0 k).tmps) = true
      · rw [if_pos hw] at h
        obtain ⟨v, hv, hn⟩ := h
        refine go v (fun _ => .inl ⟨hw, fun w hb => ?_⟩) (by rw [if_neg hs]; exact hn)
        obtain ⟨p, rfl⟩ := regrown_of_below hb
        exact hv p
      · rw [if_neg hw] at h
        exact go undef (fun _ => .inr ⟨by simpa using hw, rfl⟩) (by rw [if_neg hs]; exact h)

/-! ### Whoever looks at a slot, and whoever writes it, wait for each other -/
def looksB (ops : Array Oper) (i : Nat) (t : Tmp) : Bool := match ops[i]? with | some o => (o.looksAt ops).contains t | none => false
/-- of two operations, neither passed over, of which one looks at what the other one writes, or both write one slot, the later one waits for the earlier one; all wait for earlier ones alone -/
def orderedB (md : Region.Mode) (ops : Array Oper) : Bool :=
  Region.noSelect ops && (List.range ops.size).all fun j =>
    (match ops[j]? with | some o => o.after.all fun e => !Region.binds md e || decide (e.on < j) | none => true) &&
    (List.range j).all fun i => waits md ops j i || ((match dstOf ops i with | some d => !looksB ops j d && !(dstOf ops j == some d) | none => true) && (match dstOf ops j with | some d => !looksB ops i d | none => true))
structure Ordered (md : Region.Mode) (ops : Array Oper) : Prop where
  sel : Region.noSelect ops = true
  back : ∀ j o e, ops[j]? = some o → e ∈ o.after → Region.binds md e = true → e.on < j
  apart : ∀ i j, i < j → j < ops.size → waits md ops j i = true ∨ ((∀ d, dstOf ops i = some d → looksB ops j d = false ∧ dstOf ops j ≠ some d) ∧ (∀ d, dstOf ops j = some d → looksB ops i d = false))
theorem ordered_of {md : Region.Mode} {ops : Array Oper} (h : orderedB md ops = true) : Ordered md ops := by
  unfold orderedB at h
  simp only [Bool.and_eq_true, List.all_eq_true, List.mem_range] at h
  refine ⟨h.1, fun j o e ho he hb => ?_, fun i j hij hj => ?_⟩
  · have h1 := (h.2 j (Array.getElem?_eq_some_iff.1 ho).1).1
    simp only [ho] at h1
    have h2 := Array.all_eq_true'.1 h1 e he
    simpa [hb] using h2
  · have h1 := (h.2 j hj).2 i hij
    simp only [Bool.or_eq_true, Bool.and_eq_true] at h1
    rcases h1 with h1 | ⟨h1, h2⟩
    · exact .inl h1
    · refine .inr ⟨fun d hd => ?_, fun d hd => ?_⟩
      · simp only [hd, Bool.and_eq_true, Bool.not_eq_true', beq_eq_false_iff_ne] at h1
        exact h1
      · simpa [hd] using h2
theorem looks_of {i : Nat} {o : Oper} {t : Tmp} (ho : ops[i]? = some o) (h : t ∈ o.looksAt ops) : looksB ops i t = true := by simp [looksB, ho, h]
/-- all have come up where none can come up any more -/
theorem Ordered.all (h : Ordered md ops) {listed : Array Bool} (hs : Shut md ops listed) (hr : Region.ready md ops listed = []) : ∀ j, j < ops.size → listed.getD j false = true := by
  intro j
  induction j using Nat.strongRecOn with
  | _ j ih =>
    intro hj
    cases hl : listed.getD j false with
    | true => rfl
    | false =>
      have hjs : j < listed.size := by rw [hs.size]; exact hj
      have hm : j ∈ Region.ready md ops listed := mem_ready.2 ⟨by simp [hjs] at hl ⊢; exact hl, ops[j], by simp [hj], fun e he hb => ih e.on (h.back j _ e (by simp [hj]) he hb) (by have := h.back j _ e (by simp [hj]) he hb; omega)⟩
      rw [hr] at hm; cases hm
/-- operation i, when it comes up, looks at the same slots as in the order of the text; M: those that are not passed over -/
theorem Ordered.sees (h : Ordered md ops) {V V' : Nat → Value} {M : Nat → Bool} {a : Act} {listed : Array Bool} (hs : Shut md ops listed) {i : Nat} {o : Oper} (ho : ops[i]? = some o) (hr : i ∈ Region.ready md ops listed)
    (hM : ∀ k, k < i → M k = false → ∀ d, dstOf ops k = some d → looksB ops i d = false) (hV : ∀ k, M k = true → V k = V' k) :
    ∀ t, t ∈ o.looksAt ops → (frameOf ops V (fun k => listed.getD k false) a ops.size).tmps[t]? = (frameOf ops V' M a i).tmps[t]? := by
  intro t ht
  have hi : i < ops.size := (Array.getElem?_eq_some_iff.1 ho).1
  have hun := listed_both (mem_ready.1 hr).1
  have hlk := looks_of ho ht
  rw [frameOf_slot_up (i := i) (fun k hk hl hd => ?_) ops.size (by omega), frameOf_slot (V' := V') (M := M) (i := i) (fun k hk hd => ?_) i (Nat.le_refl i)]
  · have hkn : k < ops.size := by omega
    have hMk : M k = true := by
      cases e : M k with
      | true => rfl
      | false => rw [hM k hk e t hd] at hlk; cases hlk
    refine ⟨?_, hMk, hV k hMk⟩
    rcases h.apart k i hk hi with hw | ⟨h1, _⟩
    · exact waits_listed hr hw
    · rw [(h1 t hd).1] at hlk; cases hlk
  · have hkn : k < ops.size := by
      simp only [dstOf] at hd
      rcases Nat.lt_or_ge k ops.size with h' | h'
      · exact h'
      · simp [Array.getElem?_eq_none h'] at hd
    have hne : i ≠ k := fun e => by subst e; rw [hun] at hl; cases hl
    rcases h.apart i k (by omega) hkn with hw | ⟨_, h2⟩
    · have := hs.shut k i hl hw; rw [hun] at this; cases this
    · rw [h2 t hd] at hlk; cases hlk
theorem eval_of_slots {a b : Act} {x : Operand} (h : ∀ t, x = .tmp t → a.tmps[t]? = b.tmps[t]?) : a.eval x = b.eval x := by
  cases x with
  | tmp t => simp [Act.eval, h t rfl]
  | _ => rfl
theorem exec_of_slots {o : Oper} (hsel : ∀ cs b, o.op ≠ .select cs b) {a b : Act} (h : ∀ t, t ∈ o.looksAt ops → a.tmps[t]? = b.tmps[t]?) : execOp a.eval o = execOp b.eval o :=
  execOp_congr o hsel fun x hx => eval_of_slots fun t ht => h t (by subst ht; exact List.mem_append_left _ (List.mem_filterMap.2 ⟨.tmp t, by simpa using hx, rfl⟩))
theorem wanted_of_slots {o : Oper} {a b : Act} (h : ∀ t, t ∈ o.looksAt ops → a.tmps[t]? = b.tmps[t]?) : Region.wanted o (yielded ops a.tmps) = Region.wanted o (yielded ops b.tmps) := by
  unfold Region.wanted
  cases hg : o.guard with
  | none => rfl
  | some gw =>
    obtain ⟨g, want⟩ := gw
    have : yielded ops a.tmps g = yielded ops b.tmps g := by
      unfold yielded
      cases ht : (ops[g]?).bind (·.dst) with
      | none => rfl
      | some t => simp [h t (by simp [Oper.looksAt, hg, ht])]
    simp only [this]
/-- one more has come up: the frame -/
theorem Ordered.frame_put (h : Ordered md ops) {V : Nat → Value} {a : Act} {listed : Array Bool} (hs : Shut md ops listed) {i : Nat} (hi : i < ops.size) (hun : listed.getD i true = false) :
    frameOf ops V (fun k => (listed.setIfInBounds i true).getD k false) a ops.size = (frameOf ops V (fun k => listed.getD k false) a ops.size).put (dstOf ops i) (V i) := by
  have hl := listed_both hun
  refine frameOf_put hi hl (set_same (by rw [hs.size]; exact hi) false) (fun k hk => getD_set_ne false (Ne.symm hk)) (fun k d hk hlk hd hdk => ?_)
  have hkn : k < ops.size := by
    simp only [dstOf] at hdk
    rcases Nat.lt_or_ge k ops.size with h' | h'
    · exact h'
    · simp [Array.getElem?_eq_none h'] at hdk
  rcases h.apart i k hk hkn with hw | ⟨h1, _⟩
  · have := hs.shut k i hlk hw; rw [hl] at this; cases this
  · exact (h1 d hd).2 hdk
theorem CalmAt.wpOp {W : World} {i : Nat} {o : Oper} {a b : Act} {w : World} {v : Value} {K : Act → World → Prop} {Q : Exit → Act → World → Prop} (ho : ops[i]? = some o) (hsel : ∀ cs b, o.op ≠ .select cs b) (h : CalmAt P ops W o b v) (hw : Below W.heap.size W w)
    (hl : ∀ t, t ∈ o.looksAt ops → a.tmps[t]? = b.tmps[t]?) (hK : ∀ w', Below w.heap.size w w' → K (a.put o.dst v) w') : wpOp P ops Q i K a w := by
  unfold Go.wpOp
  simp only [ho]
  rw [wanted_of_slots hl]
  rcases h with ⟨h1, h2⟩ | ⟨h1, rfl⟩
  · rw [if_pos h1]
    refine .inl (Oper.wp_of_calm ?_ hK)
    have := h2 w hw
    unfold Oper.calmAt at this ⊢
    rwa [exec_of_slots hsel hl]
  · rw [if_neg (by rw [h1]; exact Bool.false_ne_true)]
    exact hK _ (Below.refl _ _)

/-- **A STORE (or whatever operation) ENDS THE REGION**: all others are calm, and it waits for them all. -/
def lastB (md : Region.Mode) (ops : Array Oper) (n : Nat) : Bool := orderedB md ops && decide (ops.size = n + 1) && (List.range n).all fun i => waits md ops n i
theorem wp_region_last {id : Nat} {Q : Exit → Act → World → Prop} {a : Act} {w : World} {l : List Oper} {o : Oper} (n : Nat) (hm : P.follows .mixedOrders = true) (hB : lastB .any l.toArray n = true) (ho : l[n]? = some o)
    (h : wpCalm P l.toArray w (fun k => k == n) (fun a' => ∀ w', Below w.heap.size w w' → wpList P l.toArray Q [o] a' w') 0 l a) : (Code.region id l.toArray true).wp P Q a w := by
  unfold lastB at hB
  simp only [Bool.and_eq_true, decide_eq_true_eq, List.all_eq_true, List.mem_range] at hB
  obtain ⟨⟨hord, hsz⟩, hall⟩ := hB
  have H := ordered_of hord
  have hon : l.toArray[n]? = some o := by simpa using ho
  obtain ⟨V, _, hval, hQ⟩ := wpCalm_values a l 0 (fun _ => undef) (fun j => by simp) h
  refine wp_region_any hm ?_
  refine wpAny_inv (fun listed a' w' => (listed.getD n true = false → a' = frameOf l.toArray V (fun k => listed.getD k false) a l.toArray.size ∧ Below w.heap.size w w') ∧ (listed.getD n true = true → Q .normal a' w')) ?_ ?_ _ _ _ _ (left_le _ _) Shut.none ⟨fun _ => ⟨?_, (Below.refl _ _).drew⟩, fun hn => ?_⟩
  · intro listed a' w' i hs hI hr
    obtain ⟨hun, oi, hoi, _⟩ := mem_ready.1 hr
    have hi : i < l.toArray.size := (Array.getElem?_eq_some_iff.1 hoi).1
    have hn : listed.getD n true = false := by
      by_cases hin : i = n
      · rw [← hin]; exact hun
      · cases hn : listed.getD n true with
        | false => rfl
        | true =>
          have hnl : listed.getD n false = true := by
            have : n < listed.size := by rw [hs.size]; omega
            simp [this] at hn ⊢; exact hn
          have := hs.shut n i hnl (hall i (by omega))
          rw [listed_both hun] at this; cases this
    obtain ⟨rfl, hb⟩ := hI.1 hn
    by_cases hin : i = n
    · subst hin
      obtain rfl : o = oi := Option.some.inj (hon.symm.trans hoi)
      have hfr : frameOf l.toArray V (fun k => listed.getD k false) a l.toArray.size = frameOf l.toArray V (fun k => !(k == i)) a (0 + l.length) := by
        have hsz' : l.toArray.size = 0 + l.length := by simp
        rw [← hsz']
        refine frameOf_congr _ (fun j hj => ⟨?_, fun _ => rfl⟩)
        by_cases e : j = i
        · subst e; simp only [beq_self_eq_true, Bool.not_true]; exact listed_both hun
        · simp only [beq_eq_false_iff_ne.2 e, Bool.not_false]
          exact waits_listed hr (hall j (by omega))
      have hq := hQ w' hb
      rw [← hfr] at hq
      unfold Go.wpOp
      simp only [hoi]
      simp only [wpList] at hq
      have hset : (listed.setIfInBounds i true).getD i true = true := set_same (by rw [hs.size]; exact hi) true
      split
      · rename_i hw
        rw [if_pos hw] at hq
        exact hq.imp (Oper.wp_mono fun a'' w'' h'' => ⟨fun e => (by rw [hset] at e; cases e), fun _ => h''⟩) (fun h => h)
      · rename_i hw
        rw [if_neg hw] at hq
        exact ⟨fun e => (by rw [hset] at e; cases e), fun _ => hq⟩
    · have hsk : (i == n) = false := beq_eq_false_iff_ne.2 hin
      refine CalmAt.wpOp hoi (fun cs b => Region.noSelect_spec H.sel i oi cs b hoi) (hval i oi (Nat.zero_le _) (by simpa using hi) hoi hsk) hb (H.sees hs hoi hr (fun k hk hk2 d hd => ?_) (fun _ _ => rfl)) (fun w'' hb' => ⟨fun hn' => ⟨?_, bTrans hb hb'⟩, fun hn' => ?_⟩)
      · obtain rfl : k = n := by simpa using hk2
        omega
      · have e1 : dstOf l.toArray i = oi.dst := by simp [dstOf, hoi]
        rw [H.frame_put hs hi hun, e1]
      · rw [getD_set_ne true hin] at hn'
        rw [hn] at hn'; cases hn'
  · intro listed a' w' hs hI hr
    have := H.all hs hr n (by omega)
    refine hI.2 ?_
    have hlt : n < listed.size := by rw [hs.size]; omega
    simp [hlt] at this ⊢; exact this
  · rw [show frameOf l.toArray V (fun k => (Array.replicate l.toArray.size false).getD k false) a l.toArray.size = a from ?_]
    have : ∀ k, frameOf l.toArray V (fun k => (Array.replicate l.toArray.size false).getD k false) a k = a := fun k => by
      induction k with
      | zero => rfl
      | succ k ih => rw [frameOf, ih, if_neg]; rcases Nat.lt_or_ge k l.length with h' | h' <;> simp [h']
    exact this _
  · have : n < l.toArray.size := by omega
    simp at this
    simp [this] at hn
end
end Go.Proofs.YtbbnpneabmldnaaDoor
