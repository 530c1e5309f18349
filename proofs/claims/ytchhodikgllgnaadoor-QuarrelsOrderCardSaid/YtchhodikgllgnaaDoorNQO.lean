/- Parts joined. -/
import Derived.Test.YtchhodikgllgnaaDoorNQN
set_option linter.unusedSimpArgs false
set_option linter.unusedVariables false
/- A region that draws its order, in a fence: known values over a class of worlds, but one operation's value is a letter (a new box), then a tail. No program in sight. -/
namespace Go.Proofs.YtchhodikgllgnaaDoor
open Go.RowKit Go.Sort Go.Shelf
section
variable {P : Program} {ops : Array Oper} {md : Region.Mode} {n : Nat} {F : Fence} {Cl : Option Nat → World → Prop} {val : Nat → Value}
/-- the values of the first operations; none: a letter -/
def wpOne (P : Program) (ops : Array Oper) (Cl : Option Nat → World → Prop) (val : Nat → Value) (b : Nat) (Q : Act → Prop) : List Oper → List (Option Value) → Act → Prop
  | _, [], a => Q a
  | o :: rest, some c :: cs, a => (if Region.wanted o (yielded ops a.tmps) then ∀ ob w', Cl ob w' → clsAt P (Cl ob) o a w' c else c = undef) ∧ wpOne P ops Cl val b Q rest cs (a.put o.dst c)
  | o :: rest, none :: cs, a => (o.guard = none ∧ ∀ w', Cl none w' → ∃ b', clsAt P (Cl (some b')) o a w' (val b')) ∧ wpOne P ops Cl val b Q rest cs (a.put o.dst (val b))
  | [], _ :: _, _ => False
def oneV (val : Nat → Value) (b : Nat) (cs : List (Option Value)) (k : Nat) : Value :=
  match cs[k]? with
  | some (some c) => c
  | some none => val b
  | none => undef
theorem wpOne_nil {b : Nat} {Q : Act → Prop} {l : List Oper} {a : Act} (h : Q a) : wpOne P ops Cl val b Q l [] a := by cases l <;> exact h
theorem wpOne_do {b : Nat} {Q : Act → Prop} {o : Oper} {rest : List Oper} {c : Value} {cs : List (Option Value)} {a : Act} (hg : o.guard = none) (h1 : ∀ ob w', Cl ob w' → clsAt P (Cl ob) o a w' c) (h2 : wpOne P ops Cl val b Q rest cs (a.put o.dst c)) : wpOne P ops Cl val b Q (o :: rest) (some c :: cs) a := by
  refine ⟨?_, h2⟩
  unfold Region.wanted
  rw [hg, if_pos rfl]
  exact h1
theorem wpOne_new {b : Nat} {Q : Act → Prop} {o : Oper} {rest : List Oper} {cs : List (Option Value)} {a : Act} (hg : o.guard = none) (h1 : ∀ w', Cl none w' → ∃ b', clsAt P (Cl (some b')) o a w' (val b')) (h2 : wpOne P ops Cl val b Q rest cs (a.put o.dst (val b))) : wpOne P ops Cl val b Q (o :: rest) (none :: cs) a := ⟨⟨hg, h1⟩, h2⟩
theorem wpOne_at {b : Nat} {Q : Act → Prop} {cs0 : List (Option Value)} {a0 : Act} :
    ∀ (cs : List (Option Value)) (k : Nat) (l : List Oper), (∀ j, l[j]? = ops[k + j]?) → (∀ j, cs[j]? = cs0[k + j]?) → k + cs.length = cs0.length → wpOne P ops Cl val b Q l cs (frameOf ops (oneV val b cs0) (fun _ => true) a0 k) →
      (∀ j, k ≤ j → j < cs0.length → ∃ o, ops[j]? = some o ∧ ((cs0[j]? = some none → o.guard = none ∧ ∀ w', Cl none w' → ∃ b', clsAt P (Cl (some b')) o (frameOf ops (oneV val b cs0) (fun _ => true) a0 j) w' (val b')) ∧ (cs0[j]? ≠ some none → if Region.wanted o (yielded ops (frameOf ops (oneV val b cs0) (fun _ => true) a0 j).tmps) then ∀ ob w', Cl ob w' → clsAt P (Cl ob) o (frameOf ops (oneV val b cs0) (fun _ => true) a0 j) w' (oneV val b cs0 j) else oneV val b cs0 j = undef))) ∧ Q (frameOf ops (oneV val b cs0) (fun _ => true) a0 cs0.length)
  | [], k, l, _, hh, hn, H => by
    have e : k = cs0.length := by simpa using hn
    subst e
    exact ⟨fun j hj hj2 => by omega, by cases l <;> exact H⟩
  | c :: cs, k, [], hl, hh, hn, H => by cases c <;> exact H.elim
  | c :: cs, k, o :: l, hl, hh, hn, H => by
    have h0 : ops[k]? = some o := by simpa using (hl 0).symm
    have h1 : cs0[k]? = some c := by simpa using (hh 0).symm
    have step : ∀ v, oneV val b cs0 k = v → wpOne P ops Cl val b Q l cs ((frameOf ops (oneV val b cs0) (fun _ => true) a0 k).put o.dst v) → _ := fun v hv H2 => by
      have e1 : frameOf ops (oneV val b cs0) (fun _ => true) a0 (k + 1) = (frameOf ops (oneV val b cs0) (fun _ => true) a0 k).put o.dst v := by
        rw [frameOf, if_pos rfl]; simp [dstOf, h0, hv]
      exact wpOne_at cs (k + 1) l (fun j => by have := hl (j + 1); simpa [Nat.add_assoc, Nat.add_comm 1 j] using this) (fun j => by have := hh (j + 1); simpa [Nat.add_assoc, Nat.add_comm 1 j] using this) (by simp only [List.length_cons] at hn; omega) (by rw [e1]; exact H2)
    cases c with
    | some c =>
      have hv : oneV val b cs0 k = c := by unfold oneV; rw [h1]
      obtain ⟨H1, H2⟩ := H
      obtain ⟨g1, g2⟩ := step c hv H2
      refine ⟨fun j hj hj2 => ?_, g2⟩
      rcases Nat.eq_or_lt_of_le hj with e | e
      · subst e
        refine ⟨o, h0, ?_⟩
        refine ⟨fun e => (by rw [h1] at e; cases e), fun _ => ?_⟩
        rw [hv]
        exact H1
      · exact g1 j e hj2
    | none =>
      have hv : oneV val b cs0 k = val b := by unfold oneV; rw [h1]
      obtain ⟨H1, H2⟩ := H
      obtain ⟨g1, g2⟩ := step (val b) hv H2
      refine ⟨fun j hj hj2 => ?_, g2⟩
      rcases Nat.eq_or_lt_of_le hj with e | e
      · subst e
        refine ⟨o, h0, ?_⟩
        exact ⟨fun _ => H1, fun e => absurd h1 e⟩
      · exact g1 j e hj2
/-- the law -/
theorem wpIn_region_one {rid : Nat} {Q : Exit → Act → World → Prop} {a : Act} {w : World} {l : List Oper} (hF : Open F P) (m i0 : Nat) (cs : List (Option Value)) (Cl : Option Nat → World → Prop) (val : Nat → Value) (hm : P.follows .mixedOrders = true) (hB : (stirB .any l.toArray m && noDefer l.toArray) = true) (hn : cs.length = m)
    (hone : (List.range m).all (fun j => j == i0 || !((cs.map Option.isNone).getD j false)) = true) (hi0 : cs[i0]? = some none) (h0 : Cl none { w with drawn := w.drawn + 1 })
    (h : ∀ b, wpOne P l.toArray Cl val b (fun a' => ∀ w', Cl (some b) w' → wpListIn F n P l.toArray Q (l.drop m) a' w') l cs a) : (Code.region rid l.toArray true).wpIn F n P Q a w := by
  have hone' : ∀ j, cs[j]? = some none → j = i0 := fun j hj => by
    have hjm : j < m := by rw [← hn]; exact (List.getElem?_eq_some_iff.1 hj).1
    have := List.all_eq_true.1 hone j (List.mem_range.2 hjm)
    simp [List.getD, hj] at this
    exact this
  have hi0m : i0 < m := by rw [← hn]; exact (List.getElem?_eq_some_iff.1 hi0).1
  rw [Bool.and_eq_true] at hB
  obtain ⟨hB, hnd⟩ := hB
  unfold stirB at hB
  simp only [Bool.and_eq_true, decide_eq_true_eq, List.all_eq_true, List.mem_range, Bool.or_eq_true] at hB
  obtain ⟨⟨hord, hnl⟩, htail⟩ := hB
  have H := ordered_of hord
  have hsz : l.toArray.size = l.length := by simp
  have key0 := fun b => wpOne_at (P := P) (ops := l.toArray) (Cl := Cl) (val := val) (cs0 := cs) (a0 := a) cs 0 l (fun j => by simp) (fun j => by simp) (by omega) (h b)
  rw [hn] at key0
  have hVne : ∀ b b' k, k ≠ i0 → oneV val b cs k = oneV val b' cs k := fun b b' k hk => by
    unfold oneV
    cases e : cs[k]? with
    | none => rfl
    | some c => cases c with
      | none => exact absurd (hone' k e) hk
      | some c => rfl
  have hV0 : ∀ b, oneV val b cs i0 = val b := fun b => by unfold oneV; rw [hi0]
  have final : ∀ (b : Nat) (listed : Array Bool) (w' : World), Cl (some b) w' → (∀ j, j < m → listed.getD j false = true) → (∀ j, m ≤ j → listed.getD j false = false) → wpListIn F n P l.toArray Q (l.drop m) (frameOf l.toArray (oneV val b cs) (fun k => listed.getD k false) a l.toArray.size) w' := by
    intro b listed w' hc hall hno
    have e1 : frameOf l.toArray (oneV val b cs) (fun k => listed.getD k false) a m = frameOf l.toArray (oneV val b cs) (fun _ => true) a m := frameOf_congr m fun j hj => ⟨hall j hj, fun _ => rfl⟩
    have e2 : ∀ k, m ≤ k → frameOf l.toArray (oneV val b cs) (fun k => listed.getD k false) a k = frameOf l.toArray (oneV val b cs) (fun k => listed.getD k false) a m := by
      intro k
      induction k with
      | zero => intro hm'; obtain rfl : m = 0 := by omega
                rfl
      | succ k ih =>
        intro hm'
        rcases Nat.eq_or_lt_of_le hm' with e | e
        · rw [e]
        · rw [frameOf, ih (by omega), if_neg]; rw [hno k (by omega)]; exact Bool.false_ne_true
    rw [e2 _ hnl, e1]
    exact (key0 b).2 w' hc
  refine wpIn_region_any hm ?_
  refine wpAnyIn_inv (fun listed a' w' => ((∀ j, m ≤ j → listed.getD j false = false) ∧ ∃ b ob, (listed.getD i0 false = true → ob = some b) ∧ (listed.getD i0 false = false → ob = none) ∧ a' = frameOf l.toArray (oneV val b cs) (fun k => listed.getD k false) a l.toArray.size ∧ Cl ob w') ∨
      ∃ k, m ≤ k ∧ (∀ j, j < k → listed.getD j false = true) ∧ (∀ j, k ≤ j → listed.getD j false = false) ∧ wpListIn F n P l.toArray Q (l.drop k) a' w') ?_ ?_ _ _ _ _ (left_le _ _) Shut.none (.inl ⟨fun j _ => ?_, 0, none, fun h => ?_, fun _ => rfl, ?_, h0⟩)
  · intro listed a' w' i hsh hI hr
    obtain ⟨hun, oi, hoi, _⟩ := mem_ready.1 hr
    have hi : i < l.toArray.size := (Array.getElem?_eq_some_iff.1 hoi).1
    have hil : i < listed.size := by rw [hsh.size]; exact hi
    have hunf := listed_both hun
    have hset : (listed.setIfInBounds i true).getD i false = true := set_same hil false
    have tailstep : ∀ k, m ≤ k → (∀ j, j < k → listed.getD j false = true) → (∀ j, k ≤ j → listed.getD j false = false) → m ≤ i → wpListIn F n P l.toArray Q (l.drop k) a' w' →
        wpOpIn F n P l.toArray Q i (fun a'' w'' => ((∀ j, m ≤ j → (listed.setIfInBounds i true).getD j false = false) ∧ ∃ b ob, ((listed.setIfInBounds i true).getD i0 false = true → ob = some b) ∧ ((listed.setIfInBounds i true).getD i0 false = false → ob = none) ∧ a'' = frameOf l.toArray (oneV val b cs) (fun k => (listed.setIfInBounds i true).getD k false) a l.toArray.size ∧ Cl ob w'') ∨
          ∃ k, m ≤ k ∧ (∀ j, j < k → (listed.setIfInBounds i true).getD j false = true) ∧ (∀ j, k ≤ j → (listed.setIfInBounds i true).getD j false = false) ∧ wpListIn F n P l.toArray Q (l.drop k) a'' w'') a' w' := by
      intro k hnk hall hno hni hw
      have him : i = k := by
        rcases Nat.lt_trichotomy i k with h' | h' | h'
        · rw [hall i h'] at hunf; cases hunf
        · exact h'
        · have h1 := ((htail i hi).resolve_left (by omega)) k h'
          have h2 := reach_listed hsh 6 i k (fun j hj => waits_listed hr hj) h1
          rw [hno k (Nat.le_refl _)] at h2; cases h2
      subst him
      have hli : l[i]? = some oi := by simpa using hoi
      have hdrop : l.drop i = oi :: l.drop (i + 1) := by
        have hlt : i < l.length := by omega
        rw [List.drop_eq_getElem_cons hlt]
        congr 1
        rw [List.getElem?_eq_getElem hlt] at hli
        exact Option.some.inj hli
      rw [hdrop] at hw
      simp only [wpListIn] at hw
      have hall' : ∀ j, j < i + 1 → (listed.setIfInBounds i true).getD j false = true := fun j hj => by
        rcases Nat.lt_or_ge j i with h' | h'
        · rw [getD_set_ne false (by omega)]; exact hall j h'
        · obtain rfl : j = i := by omega
          exact hset
      have hno' : ∀ j, i + 1 ≤ j → (listed.setIfInBounds i true).getD j false = false := fun j hj => by
        rw [getD_set_ne false (by omega)]; exact hno j (by omega)
      unfold Go.wpOpIn
      simp only [hoi]
      split
      · rename_i hwt
        rw [if_pos hwt] at hw
        exact Oper.wpIn_mono (fun a'' w'' h'' => .inr ⟨i + 1, by omega, hall', hno', h''⟩) hw
      · rename_i hwt
        rw [if_neg hwt] at hw
        exact ⟨fun f _ => hF.fn f, .inr ⟨i + 1, by omega, hall', hno', by first | exact hw.2 | exact hw⟩⟩
    rcases hI with ⟨hno, b, ob, hob, hob', rfl, hc⟩ | ⟨k, hnk, hall, hno, hw⟩
    · rcases Nat.lt_or_ge i m with hin | hin
      · obtain ⟨o', ho', hask⟩ := (key0 b).1 i (Nat.zero_le _) hin
        obtain rfl : oi = o' := Option.some.inj (hoi.symm.trans ho')
        have hsee := H.sees (V := oneV val b cs) (V' := oneV val b cs) (M := fun _ => true) (a := a) hsh hoi hr (fun k _ hk => by cases hk) (fun _ _ => rfl)
        have hput : ∀ b', (∀ k, listed.getD k false = true → oneV val b cs k = oneV val b' cs k) → (frameOf l.toArray (oneV val b cs) (fun k => listed.getD k false) a l.toArray.size).put oi.dst (oneV val b' cs i) = frameOf l.toArray (oneV val b' cs) (fun k => (listed.setIfInBounds i true).getD k false) a l.toArray.size := fun b' hbb => by
          have e1 : dstOf l.toArray i = oi.dst := by simp [dstOf, hoi]
          rw [H.frame_put hsh hi hun, e1]
          congr 1
          exact frameOf_congr _ fun j _ => ⟨rfl, fun hj => hbb j hj⟩
        unfold Go.wpOpIn
        simp only [hoi]
        rw [wanted_of_slots hsee]
        by_cases hii : i = i0
        · subst hii
          obtain ⟨hg, hask⟩ := hask.1 hi0
          have hwt : Region.wanted oi (yielded l.toArray (frameOf l.toArray (oneV val b cs) (fun _ => true) a i).tmps) = true := by unfold Region.wanted; rw [hg]
          rw [if_pos hwt]
          obtain rfl := hob' hunf
          obtain ⟨b', h1⟩ := hask w' hc
          refine wpIn_of_cls hF (noDefer_spec hnd hoi) (Cl := Cl (some b')) (v := val b') ?_ fun w'' hc' => .inl ⟨fun j hj => by rw [getD_set_ne false (by omega)]; exact hno j hj, b', some b', fun _ => rfl, fun h => (by rw [hset] at h; cases h), ?_, hc'⟩
          · unfold clsAt at h1 ⊢
            rwa [exec_of_slots (ops := l.toArray) (fun cs b => Region.noSelect_spec H.sel i oi cs b hoi) hsee]
          · rw [← hV0 b']
            exact hput b' fun k hk => hVne b b' k fun e => by subst e; rw [hunf] at hk; cases hk
        · replace hask := hask.2 (fun e => hii (hone' i e))
          have hother : (listed.setIfInBounds i true).getD i0 false = listed.getD i0 false := getD_set_ne false hii
          have hnext : ∀ w'', Cl ob w'' → ((∀ j, m ≤ j → (listed.setIfInBounds i true).getD j false = false) ∧ ∃ b2 ob2, ((listed.setIfInBounds i true).getD i0 false = true → ob2 = some b2) ∧ ((listed.setIfInBounds i true).getD i0 false = false → ob2 = none) ∧ (frameOf l.toArray (oneV val b cs) (fun k => listed.getD k false) a l.toArray.size).put oi.dst (oneV val b cs i) = frameOf l.toArray (oneV val b2 cs) (fun k => (listed.setIfInBounds i true).getD k false) a l.toArray.size ∧ Cl ob2 w'') := fun w'' hc' =>
            ⟨fun j hj => by rw [getD_set_ne false (by omega)]; exact hno j hj, b, ob, fun h => hob (hother ▸ h), fun h => hob' (hother ▸ h), hput b fun _ _ => rfl, hc'⟩
          by_cases hwt : Region.wanted oi (yielded l.toArray (frameOf l.toArray (oneV val b cs) (fun _ => true) a i).tmps) = true
          · rw [if_pos hwt] at hask
            rw [if_pos hwt]
            refine wpIn_of_cls hF (noDefer_spec hnd hoi) (Cl := Cl ob) (v := oneV val b cs i) ?_ fun w'' hc' => .inl (hnext w'' hc')
            have h1 := hask ob w' hc
            unfold clsAt at h1 ⊢
            rwa [exec_of_slots (ops := l.toArray) (fun cs b => Region.noSelect_spec H.sel i oi cs b hoi) hsee]
          · rw [if_neg hwt] at hask
            rw [if_neg hwt]
            refine ⟨fun f _ => hF.fn f, .inl ?_⟩
            rw [← hask]
            exact hnext w' hc
      · have hall : ∀ j, j < m → listed.getD j false = true := fun j hj => reach_listed hsh 6 i j (fun k hk => waits_listed hr hk) (((htail i hi).resolve_left (by omega)) j (by omega))
        obtain rfl := hob (hall i0 hi0m)
        exact tailstep m (Nat.le_refl _) hall hno hin (final b listed w' hc hall hno)
    · have hni : m ≤ i := by
        rcases Nat.lt_or_ge i m with h' | h'
        · rw [hall i (by omega)] at hunf; cases hunf
        · exact h'
      exact tailstep k hnk hall hno hni hw
  · intro listed a' w' hsh hI hr
    have hall := H.all hsh hr
    rcases hI with ⟨hno, b, ob, hob, hob', rfl, hc⟩ | ⟨k, hnk, hall', hno, hw⟩
    · have hnn : m = l.length := by
        rcases Nat.lt_or_ge m l.length with h' | h'
        · have := hall m (by omega); rw [hno m (Nat.le_refl _)] at this; cases this
        · omega
      obtain rfl := hob (hall i0 (by omega))
      have := final b listed w' hc (fun j hj => hall j (by omega)) hno
      rw [hnn, List.drop_length] at this
      exact this
    · have hmm : l.length ≤ k := by
        rcases Nat.lt_or_ge k l.length with h' | h'
        · have := hall k (by omega); rw [hno k (Nat.le_refl _)] at this; cases this
        · exact h'
      rw [List.drop_eq_nil_of_le hmm] at hw
      exact hw
  · rcases Nat.lt_or_ge j l.length with h' | h' <;> simp [h']
  · rcases Nat.lt_or_ge i0 l.length with h' | h' <;> simp [h'] at h
  · refine (frameOf_none (fun k => ?_) _).symm
    rcases Nat.lt_or_ge k l.length with h' | h' <;> simp [h']
end
end Go.Proofs.YtchhodikgllgnaaDoor
/- Walk of the package quarrels: Next. Conditions: lengths are Go's; the listed table holds what it holds. -/
namespace Go.Proofs.YtchhodikgllgnaaDoor
open Go.RowKit Go.Sort Go.Shelf
attribute [local go_sem] Oper.semAt_some
/-- what Next finds -/
def Qt.nextP (t : Qt) (L : List Int) : Option Tp := if 0 < t.depth L then t.tests.find? (fun x => 1 + t.afterP x L == t.depth L) else none
noncomputable def Qt.nextErr (t : Qt) : Int := if t.knowErr true = 0 then (if (t.nextP t.leftL).isSome then 0 else 3) else t.knowErr true
noncomputable def Qt.nextOut (t : Qt) : Tp := if t.knowErr true = 0 then (t.nextP t.leftL).getD (0, 0) else (0, 0)
theorem grown_cell {w w' : World} {r : Option Nat} {b : Nat} (h : w.grownBy w' r) (hb : w.heap.size ≤ b) (o : Nat) (v : Value) : w.grownBy (w'.setCell ⟨b, o, none⟩ v) r :=
  ⟨h.os, h.tape, h.output, by simpa [World.setCell] using h.size, fun k hk hr => (Below.heap_setCell w' ⟨b, o, none⟩ v k (by show k ≠ b; omega)).trans (h.block k hk hr)⟩
def Qt.nextB (t : Qt) (L : List Int) (x : Tp) : Bool := decide (0 < t.depth L) && (1 + t.afterP x L == t.depth L)
theorem nextP_find (t : Qt) (L : List Int) : t.nextP L = t.tests.find? (t.nextB L) := by
  unfold Qt.nextP
  split
  · rename_i h
    congr 1
    funext x
    unfold Qt.nextB
    rw [decide_eq_true h, Bool.true_and]
  · rename_i h
    symm
    rw [List.find?_eq_none]
    intro x _
    unfold Qt.nextB
    simp [h]
theorem find_prefix {α : Type} {p : α → Bool} {l l' : List α} {x : α} (h : l <+: l') (hf : l.find? p = some x) : l'.find? p = some x := by
  obtain ⟨r, rfl⟩ := h
  rw [List.find?_append, hf]
  rfl
theorem find_snoc_none {α : Type} {p : α → Bool} {l : List α} {x : α} (h : l.find? p = none) (hx : p x = false) : (l ++ [x]).find? p = none := by
  rw [List.find?_append, h]
  simp [hx]
theorem find_snoc_some {α : Type} {p : α → Bool} {l : List α} {x : α} (h : l.find? p = none) (hx : p x = true) : (l ++ [x]).find? p = some x := by
  rw [List.find?_append, h]
  simp [hx]
section
variable {P : Program} {ops : Array Oper} {Cl : World → Prop}
theorem wpCls_on {Q : Act → Prop} {o : Oper} {rest : List Oper} {c : Value} {cs : List Value} {a : Act} (hw : Region.wanted o (yielded ops a.tmps) = true) (h1 : ∀ w', Cl w' → clsAt P Cl o a w' c) (h2 : wpCls P ops Cl Q rest cs (a.put o.dst c)) : wpCls P ops Cl Q (o :: rest) (c :: cs) a := by
  refine wpCls_step ?_ h2
  rw [if_pos hw]
  exact h1
theorem wpCls_off {Q : Act → Prop} {o : Oper} {rest : List Oper} {cs : List Value} {a : Act} (hw : Region.wanted o (yielded ops a.tmps) = false) (h2 : wpCls P ops Cl Q rest cs (a.put o.dst undef)) : wpCls P ops Cl Q (o :: rest) (undef :: cs) a := by
  refine wpCls_step ?_ h2
  rw [if_neg (by rw [hw]; decide)]
end
theorem next_set {w W : World} {b : Nat} {x y z x0 y0 z0 : Value} (hb : Below w.heap.size w W) (h1 : w.heap.size ≤ b) (hlt : b + 1 < W.heap.size) (t0 : W.cell? ⟨b, 0, none⟩ = some x0) (t1 : W.cell? ⟨b, 1, none⟩ = some y0) (t2 : W.cell? ⟨b + 1, 0, none⟩ = some z0) (B : Nat) :
    BoxAt (((W.setCell ⟨b, 0, none⟩ x).setCell ⟨b, 1, none⟩ y).setCell ⟨b + 1, 0, none⟩ z) b [x, y] ∧ BoxAt (((W.setCell ⟨b, 0, none⟩ x).setCell ⟨b, 1, none⟩ y).setCell ⟨b + 1, 0, none⟩ z) (b + 1) [z] ∧ Below w.heap.size w (((W.setCell ⟨b, 0, none⟩ x).setCell ⟨b, 1, none⟩ y).setCell ⟨b + 1, 0, none⟩ z) ∧ KeepsFrom B W (((W.setCell ⟨b, 0, none⟩ x).setCell ⟨b, 1, none⟩ y).setCell ⟨b + 1, 0, none⟩ z) := by
  have k1 : (W.setCell ⟨b, 0, none⟩ x).cell? ⟨b, 0, none⟩ = some x := World.cell?_setCell_same _ _ _ t0
  have k2 : (W.setCell ⟨b, 0, none⟩ x).cell? ⟨b, 1, none⟩ = some y0 := (World.cell?_setCell_other _ _ _ _ (fun e => by injection e with _ e; cases e)).trans t1
  have k3 : (W.setCell ⟨b, 0, none⟩ x).cell? ⟨b + 1, 0, none⟩ = some z0 := (World.cell?_setCell_other _ _ _ _ (fun e => by injection e with e; omega)).trans t2
  have l1 : ((W.setCell ⟨b, 0, none⟩ x).setCell ⟨b, 1, none⟩ y).cell? ⟨b, 0, none⟩ = some x := (World.cell?_setCell_other _ _ _ _ (fun e => by injection e with _ e; cases e)).trans k1
  have l2 : ((W.setCell ⟨b, 0, none⟩ x).setCell ⟨b, 1, none⟩ y).cell? ⟨b, 1, none⟩ = some y := World.cell?_setCell_same _ _ _ k2
  have l3 : ((W.setCell ⟨b, 0, none⟩ x).setCell ⟨b, 1, none⟩ y).cell? ⟨b + 1, 0, none⟩ = some z0 := (World.cell?_setCell_other _ _ _ _ (fun e => by injection e with e; omega)).trans k3
  refine ⟨BoxAt.two (by simp [World.setCell]; omega) ((World.cell?_setCell_other _ _ _ _ (fun e => by injection e with e; omega)).trans l1) ((World.cell?_setCell_other _ _ _ _ (fun e => by injection e with e; omega)).trans l2), ⟨by simp [World.setCell]; omega, fun i v hi => ?_⟩, ?_, ?_⟩
  · match i, hi with
    | 0, hi => injection hi with hi; subst hi; exact World.cell?_setCell_same _ _ _ l3
  · exact Below.setCell (p := ⟨b + 1, 0, none⟩) (Below.setCell (p := ⟨b, 1, none⟩) (Below.setCell (p := ⟨b, 0, none⟩) hb h1 _) h1 _) (by show w.heap.size ≤ b + 1; omega) _
  · exact (((KeepsOthers.setCell W _ _).trans (KeepsOthers.setCell _ _ _)).trans (KeepsOthers.setCell _ _ _)).from _
/-- the worlds of the region: the map is right; the new box is there -/
def NextCl (w : World) (mp : Nat) (t : Qt) (ob : Option Nat) (w' : World) : Prop := w.grownBy w' (some mp) ∧ DepMap w' mp t ∧ ∀ b, ob = some b → w.heap.size ≤ b ∧ Boxed w' b 3 (.int .i64 0)
theorem NextCl.step {w w' w'' : World} {mp : Nat} {t : Qt} {ob : Option Nat} (h : NextCl w mp t ob w') (hmp : mp < w.heap.size) (hg : w'.grownBy w'' (some mp)) (hd : DepMap w'' mp t) : NextCl w mp t ob w'' :=
  ⟨grown_trans h.1 hg, hd, fun b hb => ⟨(h.2.2 b hb).1, (h.2.2 b hb).2.kept hg (fun e => by injection e with e; have := (h.2.2 b hb).1; omega)⟩⟩
theorem NextCl.start {w : World} {mp : Nat} {t : Qt} (h : DepMap w mp t) : NextCl w mp t none { w with drawn := w.drawn + 1 } := by
  have hb : Below w.heap.size w { w with drawn := w.drawn + 1 } := (Below.refl _ _).drew
  exact ⟨grown_below hb, h.mono hb, fun b e => by cases e⟩
theorem NextCl.new {w w' : World} {mp : Nat} {t : Qt} (h : NextCl w mp t none w') : NextCl w mp t (some w'.heap.size) (w'.alloc (.cells #[.int .i64 0] 3)) :=
  ⟨grown_alloc h.1 _, h.2.1.mono (bAlloc (Below.refl _ _) _), fun b hb => by injection hb with hb; subst hb; exact ⟨h.1.size, Boxed.new _ _ _⟩⟩
set_option maxHeartbeats 4000000 in
set_option maxRecDepth 100000 in
theorem nextQ_any (Aw Af : Option Addr) (cw cf : Nat) (t : Qt) (w : World) (hs : t.Small) (hT : QAt w Aw Af t) (hB : TabAt w) :
    Calls Tryd.prog 44 #[.agg #[.int .i64 t.wells, .slice Aw t.nw cw, .slice Af t.nf cf]] w fun e w' => e = .returned (.tuple #[.agg #[.int .i64 t.nextOut.1, .int .i64 t.nextOut.2], .int .i64 t.nextErr]) ∧ Below w.heap.size w w' := by
  have hb0 := bAlloc (bAlloc (bAlloc (Below.refl w.heap.size w) (.cells #[.int .i64 t.wells, .slice Aw t.nw cw, .slice Af t.nf cf] 25)) (.cells #[.int .i64 0, .int .i64 0] 27)) (.cells #[.int .i64 0] 31)
  have HT := Lib.hid (hT.mono hb0)
  have HTB := Lib.hid (hB.mono hb0)
  have HB := Lib.hid hb0
  clear hT hb0 hB
  refine (callsIn_wide (n := 9)).1 ?_
  refine callsIn_of_wp_marks Tryd.func44 rfl trivial ?_ rfl
  simp only [Tryd.ntmps44, List.size_toArray, List.length_cons, List.length_nil, Nat.reduceAdd, Nat.reduceSub, Array.replicate_succ, Array.replicate_zero, List.push_toArray, List.append_toArray, List.nil_append, List.cons_append]
  by_cases he : t.knowErr true = 0
  · obtain ⟨ok, _, _⟩ := knowErr_zero he
    have HKE := Lib.hid he
    have HOK := Lib.hid ok
    obtain ⟨s, hsk⟩ : ∃ s, t.maskTo t.nw = s := ⟨_, rfl⟩
    have HBM := Lib.hid (show bitsL s = t.leftL by rw [← hsk]; exact bits_mask t ok.nw)
    have H64 := Lib.hid (show s < 64 by rw [← hsk]; exact mask_64 t ok.nw)
    have HSUB := Lib.hid (show ∀ i : Nat, s.testBit i = true → i < t.nw by rw [← hsk]; exact mask_sub)
    have HSK := Lib.hid hsk
    clear hsk ok he
    gi_wp2
    refine ⟨trivial, (callsIn_wide.2 (openQ_any _ _ _ _ t _ _ hs HT.out)).mono ?_⟩
    rintro e w1 ⟨⟨_, hk⟩, hb1⟩
    obtain ⟨C, mp, rfl, hc, hCb, hm, hbm⟩ := hk HKE.out
    rw [HSK.out] at hc
    have HD := Lib.hid (denv_ask hb1 hc hm HT.out HTB.out hbm)
    have HB1 := Lib.hid hb1
    have z1 := hb1.size
    simp only [World.size_alloc] at z1
    clear hk hc hb1 hm hbm
    gi_wp2
    generalize hw4 : w1.alloc (.cells #[.pointer (some ⟨C, 0, none⟩)] 89) = w4
    have hb4 : Below w1.heap.size w1 w4 := hw4 ▸ bAlloc (Below.refl _ _) _
    have hz4 : w4.heap.size = w1.heap.size + 1 := by rw [← hw4]; simp
    have y4 : w4.cell? ⟨w1.heap.size, 0, none⟩ = some (.pointer (some ⟨C, 0, none⟩)) := by rw [← hw4]; simp [go_sem]
    have HD4 := Lib.hid (HD.out.mono hb4)
    have HB4 := Lib.hid (bTrans HB1.out hb4)
    have x1 := HD4.out.court.box.lt
    have x2 := HD4.out.dep.lt
    obtain ⟨n, hn⟩ : ∃ n, t.depth (bitsL s) = n := ⟨_, rfl⟩
    have HEN := Lib.hid (fun (W' : World) (hg : w4.grownBy W' (some mp)) (hd : DepMap W' mp t) => (hn ▸ enough_any HOK.out (s + 1) s (Nat.lt_succ_self s) H64.out HSUB.out W' (HD4.out.step hg hd) : Calls Tryd.prog 93 #[.pointer (some ⟨C, 0, none⟩), .int .u64 s] W' fun e w' => e = .returned (.int .i64 n) ∧ W'.grownBy w' (some mp) ∧ DepMap w' mp t))
    have HN := Lib.hid hn
    clear hb4 hn hw4
    refine wpIn_region_one (openWide _) 7 6 [some (.pointer (some ⟨C, 0, none⟩)), some (.pointer (some ⟨C, 0, none⟩)), some (.pointer (some ⟨C, 0, none⟩)), some (.pointer (some ⟨C, 3, none⟩)), some (.int .u64 (s : Int)), some (.int .i64 n), none] (NextCl w4 mp t) (fun b => .pointer (some ⟨b, 0, none⟩)) (by kernel_rfl) (by kernel_rfl) rfl rfl rfl (NextCl.start HD4.out.dep) (fun b6 => ?_)
    iterate 6
      refine wpOne_do rfl (fun ob W' hw' => ?_) ?_
      · have hw' : NextCl w4 mp t ob W' := hw'
        have g4 := (cell_of_heap (hw'.1.block w1.heap.size (by omega) (fun e => by injection e with e; have := HD.out.dep.lt; omega)) 0).trans y4
        have gC := (cell_of_heap (hw'.1.block C x1 (fun e => HD.out.ne (by injection e))) 3).trans (HD4.out.court.box.cell 3 _ rfl)
        have HW := Lib.hid hw'
        clear hw' y4
        go_simp
        try
          (refine (HEN.out W' HW.out.1 HW.out.2.1).mono ?_
           rintro e w'' ⟨rfl, h1, h2⟩
           exact ⟨rfl, HW.out.step x2 h1 h2⟩)
        try exact HW.out
      try simp only [Act.put, List.setIfInBounds_toArray, List.set_cons_succ, List.set_cons_zero]
    refine wpOne_new rfl (fun W' hw' => ⟨W'.heap.size, ?_⟩) ?_
    · have HW := Lib.hid hw'
      clear hw' y4
      go_simp
      exact HW.out.new
    simp only [Act.put, List.setIfInBounds_toArray, List.set_cons_succ, List.set_cons_zero]
    refine wpOne_nil ?_
    intro W' hw'
    have HCL := Lib.hid hw'
    obtain ⟨hg', hd', hbx⟩ := hw'
    obtain ⟨hb6, hbx⟩ := hbx b6 rfl
    have q1 := hbx.cell
    have q2 := hbx.frozen
    have q3 := hbx.lt
    have q4 := (cell_of_heap (hg'.block w1.heap.size (by omega) (fun e => by injection e with e; have := HD.out.dep.lt; omega)) 0).trans y4
    have q6 : b6 ≠ w1.heap.size := by omega
    have q7 : w1.heap.size ≠ b6 := by omega
    have q5 : w1.heap.size < W'.heap.size := Nat.lt_of_lt_of_le (by omega) hg'.size
    have HB6 := Lib.hid hb6
    have HBX := Lib.hid hbx
    have Y4 := Lib.hid y4
    clear hg' hd' hbx hb6 y4
    simp only [List.drop_succ_cons, List.drop_zero]
    gi_wp2
    generalize hw5 : W'.setCell ⟨b6, 0, none⟩ (.int .i64 n) = w5
    have HCT := Lib.hid HD4.out.court
    obtain ⟨m, hm⟩ : ∃ m : Nat, t.wells = (m : Int) := ⟨t.wells.toNat, by have := HOK.out.w0; omega⟩
    have HM := Lib.hid hm
    have m4 : m ≤ 4 := by have := HOK.out.w1; omega
    have HTE := Lib.hid (show t.tests = testsL m by unfold Qt.tests; rw [hm]; rfl)
    have hg5 : w4.grownBy w5 (some mp) := hw5 ▸ grown_cell HCL.out.1 HB6.out _ _
    have hd5 : DepMap w5 mp t := hw5 ▸ HCL.out.2.1.set (by have := HB6.out; omega) _ _
    have hx5 : Boxed w5 b6 3 (.int .i64 n) := hw5 ▸ HBX.out.set _
    have HG5 := Lib.hid hg5
    have HX5 := Lib.hid hx5
    have HE5 := Lib.hid (HD4.out.step hg5 hd5)
    have hc5 := HE5.out.court.box.cell 0 _ rfl
    rw [hm] at hc5
    have hl5 := HE5.out.court.box.lt
    have hz5 := hg5.size
    have hb6 := hx5.lt
    have hmp := HD.out.dep.lt
    have hbm := HD.out.base
    simp only [World.size_alloc] at hbm
    have r1 := (cell_of_heap (hg5.block w1.heap.size (by omega) (fun e => by injection e with e; omega)) 0).trans Y4.out
    clear hm hg5 hd5 hx5 hw5 q1 q2 q3 q4 q5 q6 q7
    have HSEQ := Lib.hid (tests_seq 8 C m w5 (by decide) m4 hl5 hc5)
    have HFL := Lib.hid (fun (W : World) (hg : w5.grownBy W (some mp)) (hd : DepMap W mp t) => (HE5.out.step hg hd : DEnv _ W C mp s Aw Af cw cf t))
    refine wpIn_range_bound (gf := 77) (bnd := #[.pointer (some ⟨C, 0, none⟩)]) rfl (by decide) rfl trivial (enters_of Tryd.func77 (by kernel_rfl)) HSEQ.out kpC_t (kpC_b hl5) (fun _ => rfl)
      (fun pre W => pre.find? (t.nextB (bitsL s)) = none ∧ w5.grownBy W (some mp) ∧ DepMap W mp t)
      (fun c pre W => c = .ret ∧ ∃ x : Tp, pre.find? (t.nextB (bitsL s)) = some x ∧ BoxAt W (w.heap.size + 1) [.int .i64 x.1, .int .i64 x.2] ∧ BoxAt W (w.heap.size + 1 + 1) [.int .i64 0] ∧ Below w.heap.size w W)
      ((ownFrom_pure _ _).and ((ownFrom_grown (Nat.le_refl _)).and (ownFrom_dep (by omega))))
      (fun c _ X Y row hs hg hr => by
        obtain ⟨h1, x, h2, h3, h4, h5⟩ := hs
        exact ⟨h1, x, h2, ownFrom_box (β := Unit) _ _ (by simp) () X Y row h3 hg hr, ownFrom_box (β := Unit) _ _ (by simp) () X Y row h4 hg hr, ownFrom_below (β := Unit) (Nat.le_refl _) (by omega) () X Y row h5 hg hr⟩)
      ⟨rfl, grownR _ _, HE5.out.dep⟩
      (fun x a' W => ∃ bx, w5.heap.size ≤ bx ∧ BoxAt W bx [.int .i64 x.1, .int .i64 x.2] ∧ a' = { tmps := #[.agg #[.int .i64 t.wells, .slice Aw t.nw cw, .slice Af t.nf cf], .pointer (some ⟨w.heap.size, 0, none⟩), .pointer (some ⟨w.heap.size + 1, 0, none⟩), .pointer (some ⟨w.heap.size + 1 + 1, 0, none⟩), .pointer (some ⟨w1.heap.size, 0, none⟩), .int .i64 0, .pointer (some ⟨b6, 0, none⟩), .pointer (some ⟨bx, 0, none⟩), .tuple #[.pointer (some ⟨C, 0, none⟩), .int .i64 0], .agg #[.int .i64 t.wells, .slice Aw t.nw cw, .slice Af t.nf cf], .tuple #[.pointer (some ⟨C, 0, none⟩), .int .i64 0], .pointer (some ⟨C, 0, none⟩), .int .i64 0, .int .i64 0, .bool false, undef, undef, .pointer (some ⟨C, 0, none⟩), .pointer (some ⟨C, 0, none⟩), .pointer (some ⟨C, 0, none⟩), .pointer (some ⟨C, 3, none⟩), .int .u64 (s : Int), .int .i64 n, .pointer (some ⟨C, 0, none⟩), .func (.func 77) #[.pointer (some ⟨C, 0, none⟩)] #[], .agg #[.int .i64 x.1, .int .i64 x.2], undef, undef, undef, undef, undef, undef, undef, undef, undef, undef, undef, undef, undef, undef, undef, undef], defers := [] })
      (fun x a' _ X Y row hs hg hr => by
        obtain ⟨bx, h1, h2, h3⟩ := hs
        exact ⟨bx, h1, ownFrom_box (β := Unit) bx _ (by simp) () X Y row h2 hg hr, h3⟩) ?assign ?body ?done ?stop
    case assign =>
      rintro l pre x W K hsz ⟨hpre, hgr, hdp⟩ hK
      have HPRE := Lib.hid hpre
      have HGR := Lib.hid hgr
      have HDP := Lib.hid hdp
      clear hpre hgr hdp
      simp only [encT]
      have hbx : BoxAt (W.alloc (.cells #[.int .i64 x.1, .int .i64 x.2] 27)) W.heap.size [.int .i64 x.1, .int .i64 x.2] := BoxAt.two (by simp) (by simp [go_sem]) (by simp [go_sem])
      have HNX := Lib.hid hbx
      clear hbx
      gi_wp2
      exact hK _ _ (keeps_below (bAlloc (Below.refl _ _) _)) (kpC_of (bAlloc (Below.refl W.heap.size W) _) (by omega)) ⟨HPRE.out, grown_alloc HGR.out _, HDP.out.mono (bAlloc (Below.refl _ _) _)⟩ ⟨W.heap.size, hsz, HNX.out, rfl⟩
    case body =>
      rintro l pre x a' W hsz ⟨hpre, hgr, hdp⟩ ⟨bx, hbb, hX, rfl⟩ hlen
      have HPRE := Lib.hid hpre
      have HGR := Lib.hid hgr
      have HDP := Lib.hid hdp
      have HXX := Lib.hid hX
      have hxm := testsL_mem.1 (hlen.subset (List.mem_append_right _ (List.mem_singleton.2 rfl)))
      obtain ⟨p, q⟩ := x
      have HP := Lib.hid (show (p : Int) < t.wells by rw [HM.out]; have := hxm.1; simp at this; omega)
      have HQ := Lib.hid (show (q : Int) < t.wells by rw [HM.out]; have := hxm.2; simp at this; omega)
      obtain ⟨a, ha⟩ : ∃ a, t.afterP (p, q) (bitsL s) = a := ⟨_, rfl⟩
      have habd := afterP_bd t (p, q) (bitsL s) (by have := bitsL_len s; omega)
      rw [ha] at habd
      have e1 : IntKind.i64.wrap (1 + a) = 1 + a := IntWalk.i64_in _ (by omega)
      obtain ⟨g, hg⟩ : ∃ g, (1 + a == n) = g := ⟨_, rfl⟩
      have HNB := Lib.hid (show t.nextB (bitsL s) (p, q) = (decide (0 < n) && g) by unfold Qt.nextB; rw [ha, HN.out, hg])
      have HAF := Lib.hid (fun (W' : World) (hg : W.grownBy W' (some mp)) (hd : DepMap W' mp t) => (ha ▸ after_any HOK.out H64.out HSUB.out (fun s' hs' hsub' => enough_any HOK.out (s' + 1) s' (Nat.lt_succ_self _) (by have := H64.out; omega) hsub') p q HP.out HQ.out W' (HFL.out W' (grown_trans HGR.out hg) hd) : Calls Tryd.prog 95 #[.pointer (some ⟨C, 0, none⟩), .int .u64 (s : Int), .agg #[.int .i64 p, .int .i64 q]] W' fun e w' => e = .returned (.int .i64 a) ∧ W'.grownBy w' (some mp) ∧ DepMap w' mp t))
      have HCELL := Lib.hid (fun (W' : World) (hg : W.grownBy W' (some mp)) (k o : Nat) (hk : k < W.heap.size) (hne : k ≠ mp) => (cell_of_heap (hg.block k hk (fun e => hne (Option.some.inj e))) o : W'.cell? ⟨k, o, none⟩ = W.cell? ⟨k, o, none⟩))
      have hEW := HFL.out W hgr hdp
      have HEW := Lib.hid hEW
      have y1 := (cell_of_heap (hgr.block w1.heap.size (by omega) (fun e => by injection e with e; omega)) 0).trans r1
      have yC := hEW.court.box.cell 3 _ rfl
      have yD := hEW.court.box.lt
      have hnC := HE5.out.ne
      have HX6 := Lib.hid (HX5.out.kept hgr (fun e => by injection e with e; have := HB6.out; omega))
      have h6m : b6 ≠ mp := by have := HB6.out; omega
      clear hpre hgr hdp hX hlen hxm ha habd hEW
      by_cases hn0 : 0 < n
      · have g0 : decide (n > 0) = true := decide_eq_true hn0
        have g1 : decide (0 < n) = true := decide_eq_true hn0
        gi_wp2
        refine wpIn_region_cls (openRound _ l) 14 [.int .i64 n, .bool true, .bool true, .pointer (some ⟨C, 0, none⟩), .pointer (some ⟨C, 0, none⟩), .pointer (some ⟨C, 0, none⟩), .pointer (some ⟨C, 3, none⟩), .int .u64 (s : Int), .agg #[.int .i64 p, .int .i64 q], .int .i64 a, .int .i64 (1 + a), .int .i64 n, .bool g, .bool g] (fun W' => W.grownBy W' (some mp) ∧ DepMap W' mp t) (by kernel_rfl) (by kernel_rfl) rfl ⟨grown_below (Below.refl _ _).drew, HDP.out.mono (Below.refl _ _).drew⟩ ?_
        iterate 14
          refine wpCls_on rfl (fun W' hw' => ?_) ?_
          · obtain ⟨hg', hd'⟩ : W.grownBy W' (some mp) ∧ DepMap W' mp t := hw'
            have g2 := (HX6.out.kept hg' (fun e => by injection e with e; omega)).cell
            have g3 := (HCELL.out W' hg' w1.heap.size 0 (by omega) (by omega)).trans y1
            have g4 := (HCELL.out W' hg' C 3 yD hnC).trans yC
            have gx := (HCELL.out W' hg' bx 0 HXX.out.lt (by omega)).trans (HXX.out.cell 0 _ rfl)
            have gy := (HCELL.out W' hg' bx 1 HXX.out.lt (by omega)).trans (HXX.out.cell 1 _ rfl)
            have HG' := Lib.hid hg'
            have HD' := Lib.hid hd'
            clear y1 yC
            go_simp
            all_goals
              refine (HAF.out W' HG'.out HD'.out).mono ?_
              rintro e w'' ⟨rfl, h1, h2⟩
              exact ⟨rfl, grown_trans HG'.out h1, h2⟩
          try simp only [Act.put, List.setIfInBounds_toArray, List.set_cons_succ, List.set_cons_zero]
        refine wpCls_nil ?_
        intro W' hw'
        obtain ⟨hg', hd'⟩ : W.grownBy W' (some mp) ∧ DepMap W' mp t := hw'
        have gC := HCELL.out W' hg' C 0 yD hnC
        have gx := (HCELL.out W' hg' bx 0 HXX.out.lt (by omega)).trans (HXX.out.cell 0 _ rfl)
        have gy := (HCELL.out W' hg' bx 1 HXX.out.lt (by omega)).trans (HXX.out.cell 1 _ rfl)
        have HG' := Lib.hid hg'
        have HD' := Lib.hid hd'
        have HGC := Lib.hid gC
        have HE' := Lib.hid (HEW.out.step hg' hd')
        have zW := hg'.size
        have z0 := HE'.out.below
        have t0 := (z0.cell (p := ⟨w.heap.size + 1, 0, none⟩) (by simp <;> omega)).trans (show _ = some (.int .i64 0) by simp [go_sem])
        have t1 := (z0.cell (p := ⟨w.heap.size + 1, 1, none⟩) (by simp <;> omega)).trans (show _ = some (.int .i64 0) by simp [go_sem])
        have t2 := (z0.cell (p := ⟨w.heap.size + 1 + 1, 0, none⟩) (by simp)).trans (show _ = some (.int .i64 0) by simp [go_sem])
        have t3 := (z0.frozen (p := ⟨w.heap.size + 1, 0, none⟩) (by simp <;> omega)).trans (show _ = false by simp [go_sem])
        have t4 := (z0.frozen (p := ⟨w.heap.size + 1, 1, none⟩) (by simp <;> omega)).trans (show _ = false by simp [go_sem])
        have t5 := (z0.frozen (p := ⟨w.heap.size + 1 + 1, 0, none⟩) (by simp)).trans (show _ = false by simp [go_sem])
        simp only [List.drop_succ_cons, List.drop_zero]
        clear hg' hd' gC y1 yC z0
        cases g
        · have HNO := Lib.hid (find_snoc_none HPRE.out (show t.nextB (bitsL s) (p, q) = false by rw [HNB.out]; simp))
          gi_wp2
          exact ⟨KeepsFrom.of_grownBy HG'.out (fun j e => by injection e with e; omega), HGC.out, HNO.out, grown_trans HGR.out HG'.out, HD'.out⟩
        · have HYES := Lib.hid (find_snoc_some HPRE.out (show t.nextB (bitsL s) (p, q) = true by rw [HNB.out]; simp [hn0]))
          have HNS := Lib.hid (next_set (x := .int .i64 p) (y := .int .i64 q) (z := .int .i64 0) (bTrans HB.out HE'.out.below) (show w.heap.size ≤ w.heap.size + 1 by omega) (show w.heap.size + 1 + 1 < W'.heap.size by omega) t0 t1 t2 w5.heap.size)
          gi_wp2
          exact ⟨(KeepsFrom.of_grownBy HG'.out (fun j e => by injection e with e; omega)).trans HNS.out.2.2.2, rfl, (p, q), HYES.out, HNS.out.1, HNS.out.2.1, HNS.out.2.2.1⟩
      · have g0 : decide (n > 0) = false := decide_eq_false hn0
        have g1 : decide (0 < n) = false := decide_eq_false hn0
        gi_wp2
        refine wpIn_region_cls (openRound _ l) 14 [.int .i64 n, .bool false, .bool false, undef, undef, undef, undef, undef, undef, undef, undef, undef, undef, .bool false] (fun W' => W.grownBy W' (some mp) ∧ DepMap W' mp t) (by kernel_rfl) (by kernel_rfl) rfl ⟨grown_below (Below.refl _ _).drew, HDP.out.mono (Below.refl _ _).drew⟩ ?_
        iterate 14
          first
          | (refine wpCls_off rfl ?_
             try simp only [Act.put, List.setIfInBounds_toArray, List.set_cons_succ, List.set_cons_zero])
          | (refine wpCls_on rfl (fun W' hw' => ?_) ?_
             · obtain ⟨hg', hd'⟩ : W.grownBy W' (some mp) ∧ DepMap W' mp t := hw'
               have g2 := (HX6.out.kept hg' (fun e => by injection e with e; omega)).cell
               have HG' := Lib.hid hg'
               have HD' := Lib.hid hd'
               clear y1 yC hg' hd'
               go_simp
               exact ⟨HG'.out, HD'.out⟩
             try simp only [Act.put, List.setIfInBounds_toArray, List.set_cons_succ, List.set_cons_zero])
        refine wpCls_nil ?_
        intro W' hw'
        obtain ⟨hg', hd'⟩ : W.grownBy W' (some mp) ∧ DepMap W' mp t := hw'
        have gC := HCELL.out W' hg' C 0 yD hnC
        have HG' := Lib.hid hg'
        have HD' := Lib.hid hd'
        have HGC := Lib.hid gC
        have zW := hg'.size
        have HNO := Lib.hid (find_snoc_none HPRE.out (show t.nextB (bitsL s) (p, q) = false by rw [HNB.out]; simp [g1]))
        simp only [List.drop_succ_cons, List.drop_zero]
        clear hg' hd' gC y1 yC
        gi_wp2
        exact ⟨KeepsFrom.of_grownBy HG'.out (fun j e => by injection e with e; omega), HGC.out, HNO.out, grown_trans HGR.out HG'.out, HD'.out⟩
    case done =>
      rintro D xs W hD rfl ⟨hpre, hgr, hdp⟩ hK
      have HNO := Lib.hid hpre
      have HNE := Lib.hid (show t.nextP (bitsL s) = none by rw [nextP_find, HTE.out]; exact hpre)
      have HE' := Lib.hid (HFL.out W hgr hdp)
      have zW := hgr.size
      have z0 := HE'.out.below
      have t0 := (z0.cell (p := ⟨w.heap.size + 1, 0, none⟩) (by simp <;> omega)).trans (show _ = some (.int .i64 0) by simp [go_sem])
      have t1 := (z0.cell (p := ⟨w.heap.size + 1, 1, none⟩) (by simp <;> omega)).trans (show _ = some (.int .i64 0) by simp [go_sem])
      have t2 := (z0.cell (p := ⟨w.heap.size + 1 + 1, 0, none⟩) (by simp)).trans (show _ = some (.int .i64 0) by simp [go_sem])
      have t3 := (z0.frozen (p := ⟨w.heap.size + 1, 0, none⟩) (by simp <;> omega)).trans (show _ = false by simp [go_sem])
      have t4 := (z0.frozen (p := ⟨w.heap.size + 1, 1, none⟩) (by simp <;> omega)).trans (show _ = false by simp [go_sem])
      have t5 := (z0.frozen (p := ⟨w.heap.size + 1 + 1, 0, none⟩) (by simp)).trans (show _ = false by simp [go_sem])
      have HNS := Lib.hid (next_set (x := .int .i64 0) (y := .int .i64 0) (z := .int .i64 3) (bTrans HB.out HE'.out.below) (show w.heap.size ≤ w.heap.size + 1 by omega) (show w.heap.size + 1 + 1 < W.heap.size by omega) t0 t1 t2 0)
      have hK' := HNS.out.2.2.2.same D _ (Nat.zero_le _) hK rfl
      have HK := Lib.hid hK'
      clear hpre hgr hdp z0 hK hK'
      gi_wp2
      refine ⟨by simp, .inl ⟨_, _, rfl, run_takeDeferred HK.out, ?_⟩⟩
      have c0 := cell_kept (HNS.out.1.cell 0 _ rfl) (grownBy_putObj' _ D (.deferred none)) (fun r e => by cases e; exact ⟨_, HK.out, rfl⟩)
      have c1 := cell_kept (HNS.out.1.cell 1 _ rfl) (grownBy_putObj' _ D (.deferred none)) (fun r e => by cases e; exact ⟨_, HK.out, rfl⟩)
      have c2 := cell_kept (HNS.out.2.1.cell 0 _ rfl) (grownBy_putObj' _ D (.deferred none)) (fun r e => by cases e; exact ⟨_, HK.out, rfl⟩)
      refine ⟨.tuple #[.agg #[.int .i64 0, .int .i64 0], .int .i64 3], ?_, ?_, below_put HNS.out.2.2.1 HNS.out.2.2.1.size (by omega) _⟩
      · simp [results, Tryd.results44, go_sem, c0, c1, c2]
      · unfold Qt.nextOut Qt.nextErr
        rw [if_pos HKE.out, if_pos HKE.out, ← HBM.out, HNE.out]
        rfl
    case stop =>
      rintro D c pre W hD hpre ⟨rfl, x, hf, hx1, hx2, hbel⟩ hK
      have HNE := Lib.hid (show t.nextP (bitsL s) = some x by rw [nextP_find, HTE.out]; exact find_prefix hpre hf)
      have HBL := Lib.hid hbel
      have c0 := cell_kept (hx1.cell 0 _ rfl) (grownBy_putObj' _ D (.deferred none)) (fun r e => by cases e; exact ⟨_, hK, rfl⟩)
      have c1 := cell_kept (hx1.cell 1 _ rfl) (grownBy_putObj' _ D (.deferred none)) (fun r e => by cases e; exact ⟨_, hK, rfl⟩)
      have c2 := cell_kept (hx2.cell 0 _ rfl) (grownBy_putObj' _ D (.deferred none)) (fun r e => by cases e; exact ⟨_, hK, rfl⟩)
      have HK := Lib.hid hK
      clear hbel hf hx1 hx2 hpre hK
      gi_wp2
      refine ⟨by simp, .inl ⟨_, _, rfl, run_takeDeferred HK.out, ?_⟩⟩
      refine ⟨.tuple #[.agg #[.int .i64 x.1, .int .i64 x.2], .int .i64 0], ?_, ?_, below_put HBL.out HBL.out.size (by omega) _⟩
      · simp [results, Tryd.results44, go_sem, c0, c1, c2]
      · unfold Qt.nextOut Qt.nextErr
        rw [if_pos HKE.out, if_pos HKE.out, ← HBM.out, HNE.out]
        rfl
  · have HDO := Lib.hid (show t.nextOut = (0, 0) by unfold Qt.nextOut; rw [if_neg he])
    have HDE := Lib.hid (show t.nextErr = t.knowErr true by unfold Qt.nextErr; rw [if_neg he])
    obtain ⟨er, her⟩ : ∃ er, t.knowErr true = er := ⟨_, rfl⟩
    have HKE := Lib.hid her
    rw [her] at he
    have HNZ := Lib.hid he
    have hd1 : decide (er = 0) = false := by simp [he]
    have hd2 : (er == 0) = false := by simp [he]
    have hd3 : (er != 0) = true := by simp [he]
    clear he her
    gi_wp2
    refine ⟨trivial, (callsIn_wide.2 (openQ_any _ _ _ _ t _ _ hs HT.out)).mono ?_⟩
    rintro e w1 ⟨⟨hk, _⟩, hb1⟩
    rw [HKE.out] at hk
    obtain rfl := hk HNZ.out
    have HB1 := Lib.hid hb1
    have z0 := hb1
    have t0 := (z0.cell (p := ⟨w.heap.size + 1, 0, none⟩) (by simp <;> omega)).trans (show _ = some (.int .i64 0) by simp [go_sem])
    have t1 := (z0.cell (p := ⟨w.heap.size + 1, 1, none⟩) (by simp <;> omega)).trans (show _ = some (.int .i64 0) by simp [go_sem])
    have t2 := (z0.cell (p := ⟨w.heap.size + 1 + 1, 0, none⟩) (by simp)).trans (show _ = some (.int .i64 0) by simp [go_sem])
    have t3 := (z0.frozen (p := ⟨w.heap.size + 1, 0, none⟩) (by simp <;> omega)).trans (show _ = false by simp [go_sem])
    have t4 := (z0.frozen (p := ⟨w.heap.size + 1, 1, none⟩) (by simp <;> omega)).trans (show _ = false by simp [go_sem])
    have t5 := (z0.frozen (p := ⟨w.heap.size + 1 + 1, 0, none⟩) (by simp)).trans (show _ = false by simp [go_sem])
    have zz := z0.size
    simp only [World.size_alloc] at zz
    have hba := bAlloc (Below.refl w1.heap.size w1) (.cells #[.pointer none] 89)
    have HBA := Lib.hid hba
    have u1 : w.heap.size + 1 < w1.heap.size := by omega
    have u2 : w.heap.size + 1 + 1 < w1.heap.size := by omega
    have HNS := Lib.hid (next_set (x := .int .i64 0) (y := .int .i64 0) (z := .int .i64 er) (bTrans HB.out HB1.out) (show w.heap.size ≤ w.heap.size + 1 by omega) u2 t0 t1 t2 0)
    clear hk hb1 z0 hba
    gi_wp2
    have hbw := HNS.out.2.2.1
    have HBW := Lib.hid (bAlloc hbw (.cells #[.pointer none] 89))
    have c0 := (bAlloc (Below.refl _ _) (.cells #[.pointer none] 89)).cell (p := ⟨w.heap.size + 1, 0, none⟩) HNS.out.1.lt |>.trans (HNS.out.1.cell 0 _ rfl)
    have c1 := (bAlloc (Below.refl _ _) (.cells #[.pointer none] 89)).cell (p := ⟨w.heap.size + 1, 1, none⟩) HNS.out.1.lt |>.trans (HNS.out.1.cell 1 _ rfl)
    have c2 := (bAlloc (Below.refl _ _) (.cells #[.pointer none] 89)).cell (p := ⟨w.heap.size + 1 + 1, 0, none⟩) HNS.out.2.1.lt |>.trans (HNS.out.2.1.cell 0 _ rfl)
    refine ⟨.tuple #[.agg #[.int .i64 0, .int .i64 0], .int .i64 er], ?_, ?_, HBW.out⟩
    · simp [results, Tryd.results44, go_sem, c0, c1, c2]
    · rw [HDO.out, HDE.out, HKE.out]
      rfl
end Go.Proofs.YtchhodikgllgnaaDoor
