/- Parts joined. -/
import Derived.Test.YtcdlbpmffkoejaaDoorNQB
import Derived.Test.YtcdlbpmffkoejaaDoorNQF
set_option linter.unusedSimpArgs false
set_option linter.unusedVariables false
/- A region that draws its order: values told by shapes and by what stands, then a store, for which one operation need not wait. No program in sight. -/
namespace Go.Proofs.YtcdlbpmffkoejaaDoor
open Go.RowKit Go.Sort
section
variable {P : Program}
/-- a store (op n) waits for all but perhaps op i0; what comes behind waits for all -/
def lateB2 (md : Region.Mode) (ops : Array Oper) (n i0 : Nat) : Bool :=
  orderedB md ops && decide (n < ops.size) && (List.range ops.size).all fun i => decide (i < n) || (List.range i).all fun j => reach md ops 6 i j || (i == n && j == i0)
/-- what is owed where the store comes: it is carried out, and the rest goes on -/
def LateFin2 (P : Program) (ops : Array Oper) (Q : Exit → Act → World → Prop) (on : Oper) (rest : List Oper) (a : Act) (w : World) : Prop := ∃ w'', (execOp a.eval on).run P w = .ok .skip w'' ∧ wpList P ops Q rest a w''
theorem wp_region_late {rid : Nat} {Q : Exit → Act → World → Prop} {a : Act} {w : World} {l : List Oper} (n i0 : Nat) (hs : List Stir) {on : Oper} (hm : P.follows .mixedOrders = true) (hB : lateB2 .any l.toArray n i0 = true) (hn : hs.length = n) (hg : goodAllS hs) (hx : crossAll .any l.toArray w.heap.size hs)
    (hon : l[n]? = some on) (hond : on.dst = none) (hong : on.guard = none) (hi0 : i0 < n → ∃ c0 o0 x j, hs[i0]? = some (.const c0) ∧ l[i0]? = some o0 ∧ o0.op = .extract x j ∧ o0.guard = none)
    (h : wpStir P .any l.toArray w (LateFin2 P l.toArray Q on (l.drop (n + 1))) 0 l hs a []) : (Code.region rid l.toArray true).wp P Q a w := by
  unfold lateB2 at hB
  simp only [Bool.and_eq_true, decide_eq_true_eq, List.all_eq_true, List.mem_range, Bool.or_eq_true, beq_iff_eq] at hB
  obtain ⟨⟨hord, hnl⟩, htail⟩ := hB
  have H := ordered_of hord
  have hsz : l.toArray.size = l.length := by simp
  have honA : l.toArray[n]? = some on := by simpa using hon
  have key : ∀ V : Nat → Value, (∀ (k : Nat) (h : Stir), hs[k]? = some h → h.sh (V k)) → _ := fun V hV =>
    wpStir_at (P := P) (md := .any) (ops := l.toArray) (W := w) (Q := LateFin2 P l.toArray Q on (l.drop (n + 1))) (a0 := a) hV hs 0 l (fun j => by simp) (fun j => by simp) (by omega) h
  have hwit : ∃ V : Nat → Value, ∀ (k : Nat) (h : Stir), hs[k]? = some h → h.sh (V k) := by
    have hx : ∀ k : Nat, ∃ v : Value, ∀ h : Stir, hs[k]? = some h → h.sh v := fun k => by
      cases e : hs[k]? with
      | none => exact ⟨undef, fun h hh => by cases hh⟩
      | some h =>
        obtain ⟨v, hv⟩ := Stir.some (goodAllS_at hg e)
        exact ⟨v, fun h' hh => by injection hh with hh; subst hh; exact hv⟩
    exact ⟨fun k => (hx k).choose, fun k => (hx k).choose_spec⟩
  have final : ∀ (V : Nat → Value) (listed : Array Bool) (w' : World), (∀ (k : Nat) (h : Stir), hs[k]? = some h → h.sh (V k)) → Below w.heap.size w w' → (∀ j, j < n → listed.getD j false = true) → (∀ j, n ≤ j → listed.getD j false = false) → (∀ (j : Nat) (h : Stir), hs[j]? = some h → h.r w' (V j)) →
      LateFin2 P l.toArray Q on (l.drop (n + 1)) (frameOf l.toArray V (fun k => listed.getD k false) a l.toArray.size) w' := by
    intro V listed w' hV hb hall hno hr
    obtain ⟨p, rfl⟩ := regrown_of_below hb
    have := (key V hV).2 p (allS_all _ fun j h hj hjh => hr j h hjh)
    rw [hn] at this
    have e1 : frameOf l.toArray V (fun k => listed.getD k false) a n = frameOf l.toArray V (fun _ => true) a n := frameOf_congr n fun j hj => ⟨hall j hj, fun _ => rfl⟩
    have e2 : ∀ m, n ≤ m → frameOf l.toArray V (fun k => listed.getD k false) a m = frameOf l.toArray V (fun k => listed.getD k false) a n := by
      intro m
      induction m with
      | zero => intro hm'; obtain rfl : n = 0 := by omega
                rfl
      | succ m ih =>
        intro hm'
        rcases Nat.eq_or_lt_of_le hm' with e | e
        · rw [e]
        · rw [frameOf, ih (by omega), if_neg]; rw [hno m (by omega)]; exact Bool.false_ne_true
    rw [e2 _ (Nat.le_of_lt hnl), e1]
    exact this
  have storeOp : ∀ (a1 : Act) (w1 w2 : World) (K : Act → World → Prop), (execOp a1.eval on).run P w1 = .ok .skip w2 → K a1 w2 → wpOp P l.toArray Q n K a1 w1 := fun a1 w1 w2 K hrun hK => by
    unfold Go.wpOp
    simp only [honA]
    have hw : Region.wanted on (yielded l.toArray a1.tmps) = true := by unfold Region.wanted; rw [hong]
    rw [if_pos hw]
    refine .inl ?_
    unfold Oper.wp
    rw [hrun]
    simp only [Oper.upon]
    rw [hond]
    exact hK
  refine wp_region_any hm ?_
  refine wpAny_inv (fun listed a' w' => ((∀ j, n ≤ j → listed.getD j false = false) ∧ ∃ V : Nat → Value, (∀ (k : Nat) (h : Stir), hs[k]? = some h → h.sh (V k)) ∧ a' = frameOf l.toArray V (fun k => listed.getD k false) a l.toArray.size ∧ Below w.heap.size w w' ∧ ∀ (j : Nat) (h : Stir), hs[j]? = some h → listed.getD j false = true → h.r w' (V j)) ∨
      (i0 < n ∧ listed.getD i0 false = false ∧ (∀ j, j ≤ n → j ≠ i0 → listed.getD j false = true) ∧ (∀ j, n + 1 ≤ j → listed.getD j false = false) ∧ ∃ A c0 o0 a0, l.toArray[i0]? = some o0 ∧ o0.guard = none ∧ a'.put o0.dst c0 = A ∧ (∀ w, (execOp a0 o0).run P w = .ok (.value c0) w) ∧ (execOp a'.eval o0) = execOp a0 o0 ∧ wpList P l.toArray Q (l.drop (n + 1)) A w') ∨
      ∃ m, n + 1 ≤ m ∧ (∀ j, j < m → listed.getD j false = true) ∧ (∀ j, m ≤ j → listed.getD j false = false) ∧ wpList P l.toArray Q (l.drop m) a' w') ?_ ?_ _ _ _ _ (left_le _ _) Shut.none (.inl ⟨fun j _ => ?_, ?_⟩)
  · intro listed a' w' i hsh hI hr
    obtain ⟨hun, oi, hoi, _⟩ := mem_ready.1 hr
    have hi : i < l.toArray.size := (Array.getElem?_eq_some_iff.1 hoi).1
    have hil : i < listed.size := by rw [hsh.size]; exact hi
    have hunf := listed_both hun
    have hset : (listed.setIfInBounds i true).getD i false = true := set_same hil false
    rcases hI with ⟨hno, V, hV, rfl, hb, hrr⟩ | ⟨h0n, h0u, hall, hno, A, c0, o0, a0, ho0, hg0, hA, hex, hea, hw⟩ | ⟨m, hnm, hall, hno, hw⟩
    · rcases Nat.lt_trichotomy i n with hin | hin | hin
      · -- an operation of the first part
        have hx' : ∃ h, hs[i]? = some h := ⟨hs[i]'(by omega), by simp⟩
        obtain ⟨hh, hhi⟩ := hx'
        obtain ⟨o', ho', hask⟩ := (key V hV).1 i hh (Nat.zero_le _) hhi
        obtain rfl : oi = o' := Option.some.inj (hoi.symm.trans ho')
        have hsee := H.sees (V := V) (V' := V) (M := fun _ => true) (a := a) hsh hoi hr (fun k _ hk => by cases hk) (fun _ _ => rfl)
        have hput : ∀ v, (frameOf l.toArray V (fun k => listed.getD k false) a l.toArray.size).put oi.dst v = frameOf l.toArray (fun k => if k = i then v else V k) (fun k => (listed.setIfInBounds i true).getD k false) a l.toArray.size := fun v => by
          have e1 : dstOf l.toArray i = oi.dst := by simp [dstOf, hoi]
          rw [H.frame_put hsh hi hun, e1, if_pos rfl]
          congr 1
          exact frameOf_congr _ fun j _ => ⟨rfl, fun hj => by rw [if_neg (fun e => by subst e; rw [hunf] at hj; cases hj)]⟩
        have hnext : ∀ v w'', Below w.heap.size w' w'' → (∀ (j : Nat) (h : Stir), hs[j]? = some h → j ≠ i → listed.getD j false = true → h.r w' (V j) → h.r w'' (V j)) → hh.r w'' v → ((∀ j, n ≤ j → (listed.setIfInBounds i true).getD j false = false) ∧ ∃ V' : Nat → Value, (∀ (k : Nat) (h : Stir), hs[k]? = some h → h.sh (V' k)) ∧ (frameOf l.toArray V (fun k => listed.getD k false) a l.toArray.size).put oi.dst v = frameOf l.toArray V' (fun k => (listed.setIfInBounds i true).getD k false) a l.toArray.size ∧ Below w.heap.size w w'' ∧ ∀ (j : Nat) (h : Stir), hs[j]? = some h → (listed.setIfInBounds i true).getD j false = true → h.r w'' (V' j)) := by
          intro v w'' hb' hkeep hrv
          refine ⟨fun j hj => by rw [getD_set_ne false (by omega)]; exact hno j hj, fun k => if k = i then v else V k, fun k h hk => ?_, hput v, hb.trans hb', fun j h hjh hj => ?_⟩
          · by_cases e : k = i
            · subst e
              obtain rfl : hh = h := Option.some.inj (hhi.symm.trans hk)
              simp only [if_true]
              exact Stir.r_sh hrv
            · simp only [if_neg e]; exact hV k h hk
          · by_cases e : j = i
            · subst e
              obtain rfl : hh = h := Option.some.inj (hhi.symm.trans hjh)
              simp only [if_true]
              exact hrv
            · simp only [if_neg e]
              rw [getD_set_ne false (Ne.symm e)] at hj
              exact hkeep j h hjh e hj (hrr j h hjh hj)
        unfold Go.wpOp
        simp only [hoi]
        rw [wanted_of_slots hsee]
        unfold Oper.stirAsk at hask
        by_cases hwt : Region.wanted oi (yielded l.toArray (frameOf l.toArray V (fun _ => true) a i).tmps) = true
        · rw [if_pos hwt] at hask
          rw [if_pos hwt]
          obtain ⟨p, rfl⟩ := regrown_of_below hb
          have h1 := hask p (depsS_all _ fun j h hj hjh hw => hrr j h hjh (waits_listed hr hw))
          have hst : ∀ v w'', hh.K (grow (redrawn w p.d) p.os) w'' → hh.r w'' v → _ := fun v w'' hk hrv => hnext v w'' (by
            cases hh with
            | const c => exact (show Below _ _ _ from hk).mono hb.size
            | held s r => exact (show Below _ _ _ from hk).mono hb.size
            | stir s r K => exact (hx i s r K hhi).1 _ _ hb.size hk) (fun j h hjh hji hj hr1 => by
            cases hh with
            | const c => exact Stir.r_mono (goodAllS_at hg hjh) hk hr1
            | held s r => exact Stir.r_mono (goodAllS_at hg hjh) hk hr1
            | stir s r K =>
              rcases (hx i s r K hhi).2 j h hjh hji with h1 | h1
              · have h2 := reach_listed2 hsh 6 j i hj h1
                rw [hunf] at h2
                cases h2
              · exact h1 _ _ _ hk hr1) hrv
          refine .inl (Oper.wp_of_stir (S := hh.K) (r := hh.r) ?_ fun v w'' hb' hrv => .inl (hst v w'' hb' hrv))
          unfold Oper.stirAt at h1 ⊢
          rwa [exec_of_slots (ops := l.toArray) (fun cs b => Region.noSelect_spec H.sel i oi cs b hoi) hsee]
        · rw [if_neg hwt] at hask
          rw [if_neg hwt]
          exact .inl (hnext undef w' (Below.refl _ _) (fun j h _ _ _ h1 => h1) (hask _))
      · -- the store
        subst hin
        have hall : ∀ j, j < i → j ≠ i0 → listed.getD j false = true := fun j hj hne => reach_listed hsh 6 i j (fun k hk => waits_listed hr hk) ((((htail i hi).resolve_left (by omega)) j hj).resolve_right (fun e => hne e.2))
        by_cases h0 : i0 < i ∧ listed.getD i0 false = false
        · obtain ⟨h0n, h0u⟩ := h0
          obtain ⟨c0, o0, x, j0, hc0, ho0, hop0, hg0⟩ := hi0 h0n
          have ho0A : l.toArray[i0]? = some o0 := by simpa using ho0
          have hi0s : i0 < l.toArray.size := (Array.getElem?_eq_some_iff.1 ho0A).1
          have hi0l : i0 < listed.size := by rw [hsh.size]; exact hi0s
          have hun0 : listed.getD i0 true = false := by simp [hi0l] at h0u ⊢; exact h0u
          have hV0 : V i0 = c0 := hV i0 _ hc0
          have hput0 : frameOf l.toArray V (fun k => (listed.setIfInBounds i0 true).getD k false) a l.toArray.size = (frameOf l.toArray V (fun k => listed.getD k false) a l.toArray.size).put o0.dst c0 := by
            have e1 : dstOf l.toArray i0 = o0.dst := by simp [dstOf, ho0A]
            rw [H.frame_put hsh hi0s hun0, e1, hV0]
          obtain ⟨w'', hrun, hlist⟩ := final V (listed.setIfInBounds i0 true) w' hV hb (fun j hj => by
            by_cases e : j = i0
            · subst e; exact set_same hi0l false
            · rw [getD_set_ne false (Ne.symm e)]; exact hall j hj e) (fun j hj => by rw [getD_set_ne false (by omega)]; exact hno j hj) (fun j h hjh => by
            by_cases e : j = i0
            · subst e
              obtain rfl : Stir.const c0 = h := Option.some.inj (hc0.symm.trans hjh)
              exact hV0
            · have hjn : j < i := by rw [← hn]; exact (List.getElem?_eq_some_iff.1 hjh).1
              exact hrr j h hjh (hall j hjn e))
          rw [hput0] at hrun hlist
          have hnw : waits .any l.toArray i i0 = false := by
            cases hw : waits .any l.toArray i i0 with
            | false => rfl
            | true => rw [waits_listed hr hw] at h0u; cases h0u
          have hap := (H.apart i0 i h0n hi).resolve_left (by rw [hnw]; decide)
          have hrun2 : (execOp (frameOf l.toArray V (fun k => listed.getD k false) a l.toArray.size).eval on).run P w' = .ok .skip w'' := by
            rw [← hrun]
            rw [exec_of_slots (ops := l.toArray) (o := on) (b := (frameOf l.toArray V (fun k => listed.getD k false) a l.toArray.size).put o0.dst c0) (fun cs b => Region.noSelect_spec H.sel i on cs b honA) fun t ht => ?_]
            refine (put_ne (fun e => ?_) _).symm
            have hd0 : dstOf l.toArray i0 = some t := by simp [dstOf, ho0A, e]
            have := (hap.1 t hd0).1
            rw [looks_of honA ht] at this
            cases this
          -- what the late operation yields
          obtain ⟨o', ho', hask⟩ := (key V hV).1 i0 (.const c0) (Nat.zero_le _) hc0
          obtain rfl : o0 = o' := Option.some.inj (ho0A.symm.trans ho')
          unfold Oper.stirAsk at hask
          have hw0 : Region.wanted o0 (yielded l.toArray (frameOf l.toArray V (fun _ => true) a i0).tmps) = true := by unfold Region.wanted; rw [hg0]
          rw [if_pos hw0] at hask
          have hwt0 : ∀ j, j < i0 → waits .any l.toArray i0 j = true → listed.getD j false = true := fun j hj _ => hall j (by omega) (by omega)
          have hr0 : i0 ∈ Region.ready .any l.toArray listed := by
            refine mem_ready.2 ⟨hun0, o0, ho0A, ?_⟩
            intro e he hb0
            have hlt := H.back i0 o0 e ho0A he hb0
            exact hall e.on (by omega) (by omega)
          have hsee0 := H.sees (V := V) (V' := V) (M := fun _ => true) (a := a) hsh ho0A hr0 (fun k _ hk => by cases hk) (fun _ _ => rfl)
          obtain ⟨p, hp⟩ := regrown_of_below hb
          have hst0 := hask p (depsS_all _ fun j h hj hjh hw => by rw [← hp]; exact hrr j h hjh (waits_listed hr0 hw))
          have hexa : ∀ w, (execOp (frameOf l.toArray V (fun _ => true) a i0).eval o0).run P w = .ok (.value c0) w := by
            unfold Oper.stirAt at hst0
            simp only [execOp, hop0, Instr.extract] at hst0 ⊢
            intro w9
            cases hev : (frameOf l.toArray V (fun _ => true) a i0).eval x <;> simp only [hev, stuck, Sem.run_bind, Sem.run_pure, Result.andThen] at hst0 ⊢ <;> first | (simp [Oper.stirUpon, Sem.run] at hst0; done) | skip
            rename_i vs
            cases hvs : vs[j0]? with
            | none => simp [hvs, Oper.stirUpon, stuck, Sem.run] at hst0
            | some v =>
              simp only [hvs, Sem.run_pure, Oper.stirUpon, Stir.r] at hst0 ⊢
              rw [hst0.2]
          refine storeOp _ _ w'' _ hrun2 (.inr (.inl ⟨h0n, by rw [getD_set_ne false (by omega)]; exact h0u, fun j hj hne => ?_, fun j hj => by rw [getD_set_ne false (by omega)]; exact hno j (by omega), _, c0, o0, (frameOf l.toArray V (fun _ => true) a i0).eval, ho0A, hg0, rfl, hexa, ?_, hlist⟩))
          · by_cases e : j = i
            · subst e; exact hset
            · rw [getD_set_ne false (Ne.symm e)]; exact hall j (by omega) hne
          · exact exec_of_slots (ops := l.toArray) (fun cs b => Region.noSelect_spec H.sel i0 o0 cs b ho0A) hsee0
        · have hall' : ∀ j, j < i → listed.getD j false = true := fun j hj => by
            by_cases e : j = i0
            · subst e
              cases hl : listed.getD j false with
              | true => rfl
              | false => exact absurd ⟨hj, hl⟩ h0
            · exact hall j hj e
          obtain ⟨w'', hrun, hlist⟩ := final V listed w' hV hb hall' hno (fun j h hjh => hrr j h hjh (hall' j (by rw [← hn]; exact (List.getElem?_eq_some_iff.1 hjh).1)))
          refine storeOp _ _ w'' _ hrun (.inr (.inr ⟨i + 1, Nat.le_refl _, fun j hj => ?_, fun j hj => by rw [getD_set_ne false (by omega)]; exact hno j (by omega), hlist⟩))
          by_cases e : j = i
          · subst e; exact hset
          · rw [getD_set_ne false (Ne.symm e)]; exact hall' j (by omega)
      · -- none behind the store can come yet
        have h1 := (((htail i hi).resolve_left (by omega)) n hin).resolve_right (by omega)
        have h2 := reach_listed hsh 6 i n (fun k hk => waits_listed hr hk) h1
        rw [hno n (Nat.le_refl _)] at h2
        cases h2
    · -- the store is done, the late operation is not
      have hii : i = i0 := by
        rcases Nat.lt_or_ge n i with h' | h'
        · have h1 := (((htail i hi).resolve_left (by omega)) i0 (by omega)).resolve_right (by omega)
          have h2 := reach_listed hsh 6 i i0 (fun k hk => waits_listed hr hk) h1
          rw [h0u] at h2
          cases h2
        · by_cases e : i = i0
          · exact e
          · rw [hall i h' e] at hunf; cases hunf
      subst hii
      obtain rfl : oi = o0 := Option.some.inj (hoi.symm.trans ho0)
      unfold Go.wpOp
      simp only [hoi]
      have hw0 : Region.wanted oi (yielded l.toArray a'.tmps) = true := by unfold Region.wanted; rw [hg0]
      rw [if_pos hw0]
      refine .inl ?_
      unfold Oper.wp
      rw [hea, hex w']
      show _ ∨ _ ∨ _
      rw [hA]
      refine .inr (.inr ⟨n + 1, Nat.le_refl _, fun j hj => ?_, fun j hj => by rw [getD_set_ne false (by omega)]; exact hno j hj, hw⟩)
      by_cases e : j = i
      · subst e; exact hset
      · rw [getD_set_ne false (Ne.symm e)]; exact hall j (by omega) e
    · -- behind the store
      have hni : n + 1 ≤ i := by
        rcases Nat.lt_or_ge i (n + 1) with h' | h'
        · rw [hall i (by omega)] at hunf; cases hunf
        · exact h'
      have him : i = m := by
        rcases Nat.lt_trichotomy i m with h' | h' | h'
        · rw [hall i h'] at hunf; cases hunf
        · exact h'
        · have h1 := (((htail i hi).resolve_left (by omega)) m h').resolve_right (by omega)
          have h2 := reach_listed hsh 6 i m (fun k hk => waits_listed hr hk) h1
          rw [hno m (Nat.le_refl _)] at h2; cases h2
      subst him
      have hli : l[i]? = some oi := by simpa using hoi
      have hdrop : l.drop i = oi :: l.drop (i + 1) := by
        have hlt : i < l.length := by omega
        rw [List.drop_eq_getElem_cons hlt]
        congr 1
        rw [List.getElem?_eq_getElem hlt] at hli
        exact Option.some.inj hli
      rw [hdrop] at hw
      simp only [wpList] at hw
      have hall' : ∀ j, j < i + 1 → (listed.setIfInBounds i true).getD j false = true := fun j hj => by
        rcases Nat.lt_or_ge j i with h' | h'
        · rw [getD_set_ne false (by omega)]; exact hall j h'
        · obtain rfl : j = i := by omega
          exact hset
      have hno' : ∀ j, i + 1 ≤ j → (listed.setIfInBounds i true).getD j false = false := fun j hj => by
        rw [getD_set_ne false (by omega)]; exact hno j (by omega)
      unfold Go.wpOp
      simp only [hoi]
      split
      · rename_i hwt
        rw [if_pos hwt] at hw
        exact hw.imp (Oper.wp_mono fun a'' w'' h'' => .inr (.inr ⟨i + 1, by omega, hall', hno', h''⟩)) (fun h => h)
      · rename_i hwt
        rw [if_neg hwt] at hw
        exact .inr (.inr ⟨i + 1, by omega, hall', hno', hw⟩)
  · intro listed a' w' hsh hI hr
    have hall := H.all hsh hr
    rcases hI with ⟨hno, _⟩ | ⟨h0n, h0u, _⟩ | ⟨m, hnm, hall', hno, hw⟩
    · have := hall n hnl
      rw [hno n (Nat.le_refl _)] at this
      cases this
    · have := hall i0 (by omega)
      rw [h0u] at this
      cases this
    · have hmm : l.length ≤ m := by
        rcases Nat.lt_or_ge m l.length with h' | h'
        · have := hall m (by omega); rw [hno m (Nat.le_refl _)] at this; cases this
        · exact h'
      rw [List.drop_eq_nil_of_le hmm] at hw
      exact hw
  · rcases Nat.lt_or_ge j l.length with h' | h' <;> simp [h']
  · obtain ⟨V, hV⟩ := hwit
    refine ⟨V, hV, ?_, (Below.refl _ _).drew, fun j h _ hj => ?_⟩
    · symm
      refine frameOf_none (fun k => ?_) _
      rcases Nat.lt_or_ge k l.length with h' | h' <;> simp [h']
    · rcases Nat.lt_or_ge j l.length with h' | h' <;> simp [h'] at hj
end
end Go.Proofs.YtcdlbpmffkoejaaDoor
