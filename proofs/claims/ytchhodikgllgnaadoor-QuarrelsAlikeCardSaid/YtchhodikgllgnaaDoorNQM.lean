/- Parts joined. -/
import Derived.Test.YtchhodikgllgnaaDoorNQL
import Derived.Test.YtchhodikgllgnaaDoorNQG
set_option linter.unusedSimpArgs false
set_option linter.unusedVariables false
/- A region that draws its order, in a fence: values told by shapes and by what stands, then a store, for which one operation need not wait. No program in sight. -/
namespace Go.Proofs.YtchhodikgllgnaaDoor
open Go.RowKit Go.Sort Go.Shelf
section
variable {P : Program} {ops : Array Oper} {md : Region.Mode} {F : Fence} {k : Nat}
theorem wpIn_of_stir (hF : Open F P) {o : Oper} {a : Act} {w : World} {S : World → World → Prop} {r : World → Value → Prop} {K : Act → World → Prop} {Q : Exit → Act → World → Prop} (hdf : ∀ c, o.op ≠ .defer c) (h : Oper.stirAt P o a w S r) (hK : ∀ v w', S w w' → r w' v → K (a.put o.dst v) w') : o.wpIn F k P a w K Q := by
  unfold Oper.stirAt at h
  unfold Oper.wpIn
  refine ⟨fun f _ => hF.fn f, ?_⟩
  rw [Oper.semAt_eq _ _ _ hdf]
  generalize (execOp a.eval o).run P w = x at *
  cases x with
  | ok n' w' =>
    cases n' <;> simp only [Oper.stirUpon] at h <;> simp only [Oper.uponIn]
    case value u => exact hK _ _ h.1 h.2
    case skip =>
      obtain ⟨e1, e3, e2⟩ := h
      rw [e1]
      exact hK _ _ e3 e2
    case enter f args =>
      obtain ⟨e1, hc⟩ := h
      rw [e1]
      exact ⟨(fun h => by rw [hF.depth] at h; cases h), (hF.call hc).mono fun e w'' ⟨v, he, hw'', hr⟩ => by subst he; exact hK _ _ hw'' hr⟩
  | halt x w' => simp only [Oper.stirUpon] at h
/-- a store (op n) waits for all but perhaps op i0; what comes behind waits for all -/
def lateB (md : Region.Mode) (ops : Array Oper) (n i0 : Nat) : Bool :=
  orderedB md ops && noDefer ops && decide (n < ops.size) && (List.range ops.size).all fun i => decide (i < n) || (List.range i).all fun j => reach md ops 6 i j || (i == n && j == i0)
/-- what is owed where the store comes: it is carried out, and the rest goes on -/
def LateFin (F : Fence) (k : Nat) (P : Program) (ops : Array Oper) (Q : Exit → Act → World → Prop) (on : Oper) (rest : List Oper) (a : Act) (w : World) : Prop := ∃ w'', (execOp a.eval on).run P w = .ok .skip w'' ∧ wpListIn F k P ops Q rest a w''
theorem wpIn_region_late {rid : Nat} {Q : Exit → Act → World → Prop} {a : Act} {w : World} {l : List Oper} (hF : Open F P) (n i0 : Nat) (hs : List Stir) {on : Oper} (hm : P.follows .mixedOrders = true) (hB : lateB .any l.toArray n i0 = true) (hn : hs.length = n) (hg : goodAllS hs) (hx : crossAll .any l.toArray w.heap.size hs)
    (hon : l[n]? = some on) (hond : on.dst = none) (hong : on.guard = none) (hi0 : i0 < n → ∃ c0 o0 x j, hs[i0]? = some (.const c0) ∧ l[i0]? = some o0 ∧ o0.op = .extract x j ∧ o0.guard = none)
    (h : wpStir P .any l.toArray w (LateFin F k P l.toArray Q on (l.drop (n + 1))) 0 l hs a []) : (Code.region rid l.toArray true).wpIn F k P Q a w := by
  unfold lateB at hB
  simp only [Bool.and_eq_true, decide_eq_true_eq, List.all_eq_true, List.mem_range, Bool.or_eq_true, beq_iff_eq] at hB
  obtain ⟨⟨⟨hord, hnd⟩, hnl⟩, htail⟩ := hB
  have H := ordered_of hord
  have hsz : l.toArray.size = l.length := by simp
  have honA : l.toArray[n]? = some on := by simpa using hon
  have key : ∀ V : Nat → Value, (∀ (k : Nat) (h : Stir), hs[k]? = some h → h.sh (V k)) → _ := fun V hV =>
    wpStir_at (P := P) (md := .any) (ops := l.toArray) (W := w) (Q := LateFin F k P l.toArray Q on (l.drop (n + 1))) (a0 := a) hV hs 0 l (fun j => by simp) (fun j => by simp) (by omega) h
  have hwit : ∃ V : Nat → Value, ∀ (k : Nat) (h : Stir), hs[k]? = some h → h.sh (V k) := by
    have hx : ∀ k : Nat, ∃ v : Value, ∀ h : Stir, hs[k]? = some h → h.sh v := fun k => by
      cases e : hs[k]? with
      | none => exact ⟨undef, fun h hh => by cases hh⟩
      | some h =>
        obtain ⟨v, hv⟩ := Stir.some (goodAllS_at hg e)
        exact ⟨v, fun h' hh => by injection hh with hh; subst hh; exact hv⟩
    exact ⟨fun k => (hx k).choose, fun k => (hx k).choose_spec⟩
  have final : ∀ (V : Nat → Value) (listed : Array Bool) (w' : World), (∀ (k : Nat) (h : Stir), hs[k]? = some h → h.sh (V k)) → Below w.heap.size w w' → (∀ j, j < n → listed.getD j false = true) → (∀ j, n ≤ j → listed.getD j false = false) → (∀ (j : Nat) (h : Stir), hs[j]? = some h → h.r w' (V j)) →
      LateFin F k P l.toArray Q on (l.drop (n + 1)) (frameOf l.toArray V (fun k => listed.getD k false) a l.toArray.size) w' := by
    intro V listed w' hV hb hall hno hr
    obtain ⟨p, rfl⟩ := regrown_of_below hb
    have := (key V hV).2 p (allS_all _ fun j h hj hjh => hr j h hjh)
    rw [hn] at this
    have e1 : frameOf l.toArray V (fun k => listed.getD k false) a n = frameOf l.toArray V (fun _ => true) a n := frameOf_congr n fun j hj => ⟨hall j hj, fun _ => rfl⟩
    have e2 : ∀ m, n ≤ m → frameOf l.toArray V (fun k => listed.getD k false) a m = frameOf l.toArray V (fun k => listed.getD k false) a n := by
      intro m
      induction m with
      | zero => intro hm'; obtain rfl : n = 0 := by omega
                rfl
      | succ m ih =>
        intro hm'
        rcases Nat.eq_or_lt_of_le hm' with e | e
        · rw [e]
        · rw [frameOf, ih (by omega), if_neg]; rw [hno m (by omega)]; exact Bool.false_ne_true
    rw [e2 _ (Nat.le_of_lt hnl), e1]
    exact this
  have storeOp : ∀ (a1 : Act) (w1 w2 : World) (K : Act → World → Prop), (execOp a1.eval on).run P w1 = .ok .skip w2 → K a1 w2 → wpOpIn F k P l.toArray Q n K a1 w1 := fun a1 w1 w2 K hrun hK => by
    unfold Go.wpOpIn
    simp only [honA]
    have hw : Region.wanted on (yielded l.toArray a1.tmps) = true := by unfold Region.wanted; rw [hong]
    rw [if_pos hw]
    unfold Oper.wpIn
    refine ⟨fun f _ => hF.fn f, ?_⟩
    rw [Oper.semAt_eq _ _ _ (noDefer_spec hnd honA), hrun]
    simp only [Oper.uponIn]
    rw [hond]
    exact hK
  refine wpIn_region_any hm ?_
  refine wpAnyIn_inv (fun listed a' w' => ((∀ j, n ≤ j → listed.getD j false = false) ∧ ∃ V : Nat → Value, (∀ (k : Nat) (h : Stir), hs[k]? = some h → h.sh (V k)) ∧ a' = frameOf l.toArray V (fun k => listed.getD k false) a l.toArray.size ∧ Below w.heap.size w w' ∧ ∀ (j : Nat) (h : Stir), hs[j]? = some h → listed.getD j false = true → h.r w' (V j)) ∨
      (i0 < n ∧ listed.getD i0 false = false ∧ (∀ j, j ≤ n → j ≠ i0 → listed.getD j false = true) ∧ (∀ j, n + 1 ≤ j → listed.getD j false = false) ∧ ∃ A c0 o0 a0, l.toArray[i0]? = some o0 ∧ o0.guard = none ∧ a'.put o0.dst c0 = A ∧ (∀ w, (execOp a0 o0).run P w = .ok (.value c0) w) ∧ (execOp a'.eval o0) = execOp a0 o0 ∧ wpListIn F k P l.toArray Q (l.drop (n + 1)) A w') ∨
      ∃ m, n + 1 ≤ m ∧ (∀ j, j < m → listed.getD j false = true) ∧ (∀ j, m ≤ j → listed.getD j false = false) ∧ wpListIn F k P l.toArray Q (l.drop m) a' w') ?_ ?_ _ _ _ _ (left_le _ _) Shut.none (.inl ⟨fun j _ => ?_, ?_⟩)
  · intro listed a' w' i hsh hI hr
    obtain ⟨hun, oi, hoi, _⟩ := mem_ready.1 hr
    have hi : i < l.toArray.size := (Array.getElem?_eq_some_iff.1 hoi).1
    have hil : i < listed.size := by rw [hsh.size]; exact hi
    have hunf := listed_both hun
    have hset : (listed.setIfInBounds i true).getD i false = true := set_same hil false
    rcases hI with ⟨hno, V, hV, rfl, hb, hrr⟩ | ⟨h0n, h0u, hall, hno, A, c0, o0, a0, ho0, hg0, hA, hex, hea, hw⟩ | ⟨m, hnm, hall, hno, hw⟩
    · rcases Nat.lt_trichotomy i n with hin | hin | hin
      · -- an operation of the first part
        refine wpOpIn_mono (fun _ _ h => .inl h) ?_
        have hx' : ∃ h, hs[i]? = some h := ⟨hs[i]'(by omega), by simp⟩
        obtain ⟨hh, hhi⟩ := hx'
        obtain ⟨o', ho', hask⟩ := (key V hV).1 i hh (Nat.zero_le _) hhi
        obtain rfl : oi = o' := Option.some.inj (hoi.symm.trans ho')
        have hsee := H.sees (V := V) (V' := V) (M := fun _ => true) (a := a) hsh hoi hr (fun k _ hk => by cases hk) (fun _ _ => rfl)
        have hput : ∀ v, (frameOf l.toArray V (fun k => listed.getD k false) a l.toArray.size).put oi.dst v = frameOf l.toArray (fun k => if k = i then v else V k) (fun k => (listed.setIfInBounds i true).getD k false) a l.toArray.size := fun v => by
          have e1 : dstOf l.toArray i = oi.dst := by simp [dstOf, hoi]
          rw [H.frame_put hsh hi hun, e1, if_pos rfl]
          congr 1
          exact frameOf_congr _ fun j _ => ⟨rfl, fun hj => by rw [if_neg (fun e => by subst e; rw [hunf] at hj; cases hj)]⟩
        have hnext : ∀ v w'', Below w.heap.size w' w'' → (∀ (j : Nat) (h : Stir), hs[j]? = some h → j ≠ i → listed.getD j false = true → h.r w' (V j) → h.r w'' (V j)) → hh.r w'' v → ((∀ j, n ≤ j → (listed.setIfInBounds i true).getD j false = false) ∧ ∃ V' : Nat → Value, (∀ (k : Nat) (h : Stir), hs[k]? = some h → h.sh (V' k)) ∧ (frameOf l.toArray V (fun k => listed.getD k false) a l.toArray.size).put oi.dst v = frameOf l.toArray V' (fun k => (listed.setIfInBounds i true).getD k false) a l.toArray.size ∧ Below w.heap.size w w'' ∧ ∀ (j : Nat) (h : Stir), hs[j]? = some h → (listed.setIfInBounds i true).getD j false = true → h.r w'' (V' j)) := by
          intro v w'' hb' hkeep hrv
          refine ⟨fun j hj => by rw [getD_set_ne false (by omega)]; exact hno j hj, fun k => if k = i then v else V k, fun k h hk => ?_, hput v, hb.trans hb', fun j h hjh hj => ?_⟩
          · by_cases e : k = i
            · subst e
              obtain rfl : hh = h := Option.some.inj (hhi.symm.trans hk)
              simp only [if_true]
              exact Stir.r_sh hrv
            · simp only [if_neg e]; exact hV k h hk
          · by_cases e : j = i
            · subst e
              obtain rfl : hh = h := Option.some.inj (hhi.symm.trans hjh)
              simp only [if_true]
              exact hrv
            · simp only [if_neg e]
              rw [getD_set_ne false (Ne.symm e)] at hj
              exact hkeep j h hjh e hj (hrr j h hjh hj)
        unfold Go.wpOpIn
        simp only [hoi]
        rw [wanted_of_slots hsee]
        unfold Oper.stirAsk at hask
        by_cases hwt : Region.wanted oi (yielded l.toArray (frameOf l.toArray V (fun _ => true) a i).tmps) = true
        · rw [if_pos hwt] at hask
          rw [if_pos hwt]
          obtain ⟨p, rfl⟩ := regrown_of_below hb
          have h1 := hask p (depsS_all _ fun j h hj hjh hw => hrr j h hjh (waits_listed hr hw))
          have hst : ∀ v w'', hh.K (grow (redrawn w p.d) p.os) w'' → hh.r w'' v → _ := fun v w'' hk hrv => hnext v w'' (by
            cases hh with
            | const c => exact (show Below _ _ _ from hk).mono hb.size
            | held s r => exact (show Below _ _ _ from hk).mono hb.size
            | stir s r K => exact (hx i s r K hhi).1 _ _ hb.size hk) (fun j h hjh hji hj hr1 => by
            cases hh with
            | const c => exact Stir.r_mono (goodAllS_at hg hjh) hk hr1
            | held s r => exact Stir.r_mono (goodAllS_at hg hjh) hk hr1
            | stir s r K =>
              rcases (hx i s r K hhi).2 j h hjh hji with h1 | h1
              · have h2 := reach_listed2 hsh 6 j i hj h1
                rw [hunf] at h2
                cases h2
              · exact h1 _ _ _ hk hr1) hrv
          refine wpIn_of_stir hF (noDefer_spec hnd hoi) (S := hh.K) (r := hh.r) ?_ fun v w'' hb' hrv => hst v w'' hb' hrv
          unfold Oper.stirAt at h1 ⊢
          rwa [exec_of_slots (ops := l.toArray) (fun cs b => Region.noSelect_spec H.sel i oi cs b hoi) hsee]
        · rw [if_neg hwt] at hask
          rw [if_neg hwt]
          exact ⟨fun f _ => hF.fn f, hnext undef w' (Below.refl _ _) (fun j h _ _ _ h1 => h1) (hask _)⟩
      · -- the store
        subst hin
        have hall : ∀ j, j < i → j ≠ i0 → listed.getD j false = true := fun j hj hne => reach_listed hsh 6 i j (fun k hk => waits_listed hr hk) ((((htail i hi).resolve_left (by omega)) j hj).resolve_right (fun e => hne e.2))
        by_cases h0 : i0 < i ∧ listed.getD i0 false = false
        · obtain ⟨h0n, h0u⟩ := h0
          obtain ⟨c0, o0, x, j0, hc0, ho0, hop0, hg0⟩ := hi0 h0n
          have ho0A : l.toArray[i0]? = some o0 := by simpa using ho0
          have hi0s : i0 < l.toArray.size := (Array.getElem?_eq_some_iff.1 ho0A).1
          have hi0l : i0 < listed.size := by rw [hsh.size]; exact hi0s
          have hun0 : listed.getD i0 true = false := by simp [hi0l] at h0u ⊢; exact h0u
          have hV0 : V i0 = c0 := hV i0 _ hc0
          have hput0 : frameOf l.toArray V (fun k => (listed.setIfInBounds i0 true).getD k false) a l.toArray.size = (frameOf l.toArray V (fun k => listed.getD k false) a l.toArray.size).put o0.dst c0 := by
            have e1 : dstOf l.toArray i0 = o0.dst := by simp [dstOf, ho0A]
            rw [H.frame_put hsh hi0s hun0, e1, hV0]
          obtain ⟨w'', hrun, hlist⟩ := final V (listed.setIfInBounds i0 true) w' hV hb (fun j hj => by
            by_cases e : j = i0
            · subst e; exact set_same hi0l false
            · rw [getD_set_ne false (Ne.symm e)]; exact hall j hj e) (fun j hj => by rw [getD_set_ne false (by omega)]; exact hno j hj) (fun j h hjh => by
            by_cases e : j = i0
            · subst e
              obtain rfl : Stir.const c0 = h := Option.some.inj (hc0.symm.trans hjh)
              exact hV0
            · have hjn : j < i := by rw [← hn]; exact (List.getElem?_eq_some_iff.1 hjh).1
              exact hrr j h hjh (hall j hjn e))
          rw [hput0] at hrun hlist
          have hnw : waits .any l.toArray i i0 = false := by
            cases hw : waits .any l.toArray i i0 with
            | false => rfl
            | true => rw [waits_listed hr hw] at h0u; cases h0u
          have hap := (H.apart i0 i h0n hi).resolve_left (by rw [hnw]; decide)
          have hrun2 : (execOp (frameOf l.toArray V (fun k => listed.getD k false) a l.toArray.size).eval on).run P w' = .ok .skip w'' := by
            rw [← hrun]
            rw [exec_of_slots (ops := l.toArray) (o := on) (b := (frameOf l.toArray V (fun k => listed.getD k false) a l.toArray.size).put o0.dst c0) (fun cs b => Region.noSelect_spec H.sel i on cs b honA) fun t ht => ?_]
            refine (put_ne (fun e => ?_) _).symm
            have hd0 : dstOf l.toArray i0 = some t := by simp [dstOf, ho0A, e]
            have := (hap.1 t hd0).1
            rw [looks_of honA ht] at this
            cases this
          -- what the late operation yields
          obtain ⟨o', ho', hask⟩ := (key V hV).1 i0 (.const c0) (Nat.zero_le _) hc0
          obtain rfl : o0 = o' := Option.some.inj (ho0A.symm.trans ho')
          unfold Oper.stirAsk at hask
          have hw0 : Region.wanted o0 (yielded l.toArray (frameOf l.toArray V (fun _ => true) a i0).tmps) = true := by unfold Region.wanted; rw [hg0]
          rw [if_pos hw0] at hask
          have hwt0 : ∀ j, j < i0 → waits .any l.toArray i0 j = true → listed.getD j false = true := fun j hj _ => hall j (by omega) (by omega)
          have hr0 : i0 ∈ Region.ready .any l.toArray listed := by
            refine mem_ready.2 ⟨hun0, o0, ho0A, ?_⟩
            intro e he hb0
            have hlt := H.back i0 o0 e ho0A he hb0
            exact hall e.on (by omega) (by omega)
          have hsee0 := H.sees (V := V) (V' := V) (M := fun _ => true) (a := a) hsh ho0A hr0 (fun k _ hk => by cases hk) (fun _ _ => rfl)
          obtain ⟨p, hp⟩ := regrown_of_below hb
          have hst0 := hask p (depsS_all _ fun j h hj hjh hw => by rw [← hp]; exact hrr j h hjh (waits_listed hr0 hw))
          have hexa : ∀ w, (execOp (frameOf l.toArray V (fun _ => true) a i0).eval o0).run P w = .ok (.value c0) w := by
            unfold Oper.stirAt at hst0
            simp only [execOp, hop0, Instr.extract] at hst0 ⊢
            intro w9
            cases hev : (frameOf l.toArray V (fun _ => true) a i0).eval x <;> simp only [hev, stuck, Sem.run_bind, Sem.run_pure, Result.andThen] at hst0 ⊢ <;> first | (simp [Oper.stirUpon, Sem.run] at hst0; done) | skip
            rename_i vs
            cases hvs : vs[j0]? with
            | none => simp [hvs, Oper.stirUpon, stuck, Sem.run] at hst0
            | some v =>
              simp only [hvs, Sem.run_pure, Oper.stirUpon, Stir.r] at hst0 ⊢
              rw [hst0.2]
          refine storeOp _ _ w'' _ hrun2 (.inr (.inl ⟨h0n, by rw [getD_set_ne false (by omega)]; exact h0u, fun j hj hne => ?_, fun j hj => by rw [getD_set_ne false (by omega)]; exact hno j (by omega), _, c0, o0, (frameOf l.toArray V (fun _ => true) a i0).eval, ho0A, hg0, rfl, hexa, ?_, hlist⟩))
          · by_cases e : j = i
            · subst e; exact hset
            · rw [getD_set_ne false (Ne.symm e)]; exact hall j (by omega) hne
          · exact exec_of_slots (ops := l.toArray) (fun cs b => Region.noSelect_spec H.sel i0 o0 cs b ho0A) hsee0
        · have hall' : ∀ j, j < i → listed.getD j false = true := fun j hj => by
            by_cases e : j = i0
            · subst e
              cases hl : listed.getD j false with
              | true => rfl
              | false => exact absurd ⟨hj, hl⟩ h0
            · exact hall j hj e
          obtain ⟨w'', hrun, hlist⟩ := final V listed w' hV hb hall' hno (fun j h hjh => hrr j h hjh (hall' j (by rw [← hn]; exact (List.getElem?_eq_some_iff.1 hjh).1)))
          refine storeOp _ _ w'' _ hrun (.inr (.inr ⟨i + 1, Nat.le_refl _, fun j hj => ?_, fun j hj => by rw [getD_set_ne false (by omega)]; exact hno j (by omega), hlist⟩))
          by_cases e : j = i
          · subst e; exact hset
          · rw [getD_set_ne false (Ne.symm e)]; exact hall' j (by omega)
      · -- none behind the store can come yet
        have h1 := (((htail i hi).resolve_left (by omega)) n hin).resolve_right (by omega)
        have h2 := reach_listed hsh 6 i n (fun k hk => waits_listed hr hk) h1
        rw [hno n (Nat.le_refl _)] at h2
        cases h2
    · -- the store is done, the late operation is not
      have hii : i = i0 := by
        rcases Nat.lt_or_ge n i with h' | h'
        · have h1 := (((htail i hi).resolve_left (by omega)) i0 (by omega)).resolve_right (by omega)
          have h2 := reach_listed hsh 6 i i0 (fun k hk => waits_listed hr hk) h1
          rw [h0u] at h2
          cases h2
        · by_cases e : i = i0
          · exact e
          · rw [hall i h' e] at hunf; cases hunf
      subst hii
      obtain rfl : oi = o0 := Option.some.inj (hoi.symm.trans ho0)
      unfold Go.wpOpIn
      simp only [hoi]
      have hw0 : Region.wanted oi (yielded l.toArray a'.tmps) = true := by unfold Region.wanted; rw [hg0]
      rw [if_pos hw0]
      unfold Oper.wpIn
      refine ⟨fun f _ => hF.fn f, ?_⟩
      rw [Oper.semAt_eq _ _ _ (noDefer_spec hnd hoi), hea, hex w']
      show _ ∨ _ ∨ _
      rw [hA]
      refine .inr (.inr ⟨n + 1, Nat.le_refl _, fun j hj => ?_, fun j hj => by rw [getD_set_ne false (by omega)]; exact hno j hj, hw⟩)
      by_cases e : j = i
      · subst e; exact hset
      · rw [getD_set_ne false (Ne.symm e)]; exact hall j (by omega) e
    · -- behind the store
      have hni : n + 1 ≤ i := by
        rcases Nat.lt_or_ge i (n + 1) with h' | h'
        · rw [hall i (by omega)] at hunf; cases hunf
        · exact h'
      have him : i = m := by
        rcases Nat.lt_trichotomy i m with h' | h' | h'
        · rw [hall i h'] at hunf; cases hunf
        · exact h'
        · have h1 := (((htail i hi).resolve_left (by omega)) m h').resolve_right (by omega)
          have h2 := reach_listed hsh 6 i m (fun k hk => waits_listed hr hk) h1
          rw [hno m (Nat.le_refl _)] at h2; cases h2
      subst him
      have hli : l[i]? = some oi := by simpa using hoi
      have hdrop : l.drop i = oi :: l.drop (i + 1) := by
        have hlt : i < l.length := by omega
        rw [List.drop_eq_getElem_cons hlt]
        congr 1
        rw [List.getElem?_eq_getElem hlt] at hli
        exact Option.some.inj hli
      rw [hdrop] at hw
      simp only [wpListIn] at hw
      have hall' : ∀ j, j < i + 1 → (listed.setIfInBounds i true).getD j false = true := fun j hj => by
        rcases Nat.lt_or_ge j i with h' | h'
        · rw [getD_set_ne false (by omega)]; exact hall j h'
        · obtain rfl : j = i := by omega
          exact hset
      have hno' : ∀ j, i + 1 ≤ j → (listed.setIfInBounds i true).getD j false = false := fun j hj => by
        rw [getD_set_ne false (by omega)]; exact hno j (by omega)
      unfold Go.wpOpIn
      simp only [hoi]
      split
      · rename_i hwt
        rw [if_pos hwt] at hw
        exact Oper.wpIn_mono (fun a'' w'' h'' => .inr (.inr ⟨i + 1, by omega, hall', hno', h''⟩)) hw
      · rename_i hwt
        rw [if_neg hwt] at hw
        exact ⟨fun f _ => hF.fn f, .inr (.inr ⟨i + 1, by omega, hall', hno', hw.2⟩)⟩
  · intro listed a' w' hsh hI hr
    have hall := H.all hsh hr
    rcases hI with ⟨hno, _⟩ | ⟨h0n, h0u, _⟩ | ⟨m, hnm, hall', hno, hw⟩
    · have := hall n hnl
      rw [hno n (Nat.le_refl _)] at this
      cases this
    · have := hall i0 (by omega)
      rw [h0u] at this
      cases this
    · have hmm : l.length ≤ m := by
        rcases Nat.lt_or_ge m l.length with h' | h'
        · have := hall m (by omega); rw [hno m (Nat.le_refl _)] at this; cases this
        · exact h'
      rw [List.drop_eq_nil_of_le hmm] at hw
      exact hw
  · rcases Nat.lt_or_ge j l.length with h' | h' <;> simp [h']
  · obtain ⟨V, hV⟩ := hwit
    refine ⟨V, hV, ?_, (Below.refl _ _).drew, fun j h _ hj => ?_⟩
    · symm
      refine frameOf_none (fun k => ?_) _
      rcases Nat.lt_or_ge k l.length with h' | h' <;> simp [h']
    · rcases Nat.lt_or_ge j l.length with h' | h' <;> simp [h'] at hj
end
end Go.Proofs.YtchhodikgllgnaaDoor
/- Walk of the package quarrels: Depth. Conditions: lengths are Go's; the listed table holds what it holds. -/
namespace Go.Proofs.YtchhodikgllgnaaDoor
open Go.RowKit Go.Sort Go.Shelf
theorem BoxAt.not_map {w : World} {a mp : Nat} {v : Value} {cs : List Value} {es : Array MapEntry} {clock : Nat} (h : BoxAt w a (v :: cs)) (hm : w.heap[mp]? = some (.map es clock)) : a ≠ mp := by
  intro e
  subst e
  have := h.cell 0 v rfl
  simp [World.cell?, hm] at this
theorem denv_ask {W0 w1 : World} {C mp s0 : Nat} {Aw Af : Option Addr} {cw cf : Nat} {t : Qt} (hb : Below W0.heap.size W0 w1) (hc : CourtAt w1 C Aw Af cw cf t s0 mp) (hm : w1.heap[mp]? = some (.map #[] 0)) (hT : QAt W0 Aw Af t) (hB : TabAt W0) (hbase : W0.heap.size ≤ mp) : DEnv W0 w1 C mp s0 Aw Af cw cf t :=
  ⟨hb, hc, DepMap.empty hm, hT, hB, hbase, hc.box.not_map hm⟩
/-- what Depth hands back -/
noncomputable def Qt.depthOut (t : Qt) : Int := if t.knowErr true = 0 then t.depth t.leftL else 0
set_option maxHeartbeats 2000000 in
set_option maxRecDepth 100000 in
theorem depthQ_any (Aw Af : Option Addr) (cw cf : Nat) (t : Qt) (w : World) (hs : t.Small) (hT : QAt w Aw Af t) (hB : TabAt w) :
    Calls Tryd.prog 42 #[.agg #[.int .i64 t.wells, .slice Aw t.nw cw, .slice Af t.nf cf]] w fun e w' => e = .returned (.tuple #[.int .i64 t.depthOut, .int .i64 (t.knowErr true)]) ∧ Below w.heap.size w w' := by
  have hb0 := bAlloc (Below.refl w.heap.size w) (.cells #[.int .i64 t.wells, .slice Aw t.nw cw, .slice Af t.nf cf] 25)
  have HT := Lib.hid (hT.mono hb0)
  have HTB := Lib.hid (hB.mono hb0)
  have HB := Lib.hid hb0
  clear hT hb0 hB
  by_cases he : t.knowErr true = 0
  · obtain ⟨ok, _, _⟩ := knowErr_zero he
    have HKE := Lib.hid he
    have HOK := Lib.hid ok
    obtain ⟨s, hsk⟩ : ∃ s, t.maskTo t.nw = s := ⟨_, rfl⟩
    have HBM := Lib.hid (show bitsL s = t.leftL by rw [← hsk]; exact bits_mask t ok.nw)
    have H64 := Lib.hid (show s < 64 by rw [← hsk]; exact mask_64 t ok.nw)
    have HSUB := Lib.hid (show ∀ i : Nat, s.testBit i = true → i < t.nw by rw [← hsk]; exact mask_sub)
    have HSK := Lib.hid hsk
    clear hsk ok he
    go_enter Tryd.func42, Tryd.ntmps42
    go_wp2_with fail
    refine (openQ_any _ _ _ _ t _ _ hs HT.out).mono ?_
    rintro e w1 ⟨⟨_, hk⟩, hb1⟩
    obtain ⟨C, mp, rfl, hc, _, hm, hbm⟩ := hk HKE.out
    rw [HSK.out] at hc
    have HD := Lib.hid (denv_ask hb1 hc hm HT.out HTB.out hbm)
    have x1 := hc.box.lt
    have y1 := hc.box.cell 3 _ rfl
    clear hk hc hb1 hm hbm
    go_wp2_with fail
    refine (enough_any HOK.out (s + 1) s (Nat.lt_succ_self s) H64.out HSUB.out w1 HD.out).mono ?_
    rintro e w2 ⟨rfl, hg, hd⟩
    have HD2 := Lib.hid (HD.out.step hg hd)
    clear hg hd
    go_wp2_with fail
    go_ret2
    refine ⟨?_, bTrans HB.out HD2.out.below⟩
    rw [HKE.out, HBM.out]
    unfold Qt.depthOut
    rw [if_pos HKE.out]
    rfl
  · have HDO := Lib.hid (show t.depthOut = 0 by unfold Qt.depthOut; rw [if_neg he])
    obtain ⟨er, her⟩ : ∃ er, t.knowErr true = er := ⟨_, rfl⟩
    have HKE := Lib.hid her
    rw [her] at he
    have HNZ := Lib.hid he
    have hd1 : decide (er = 0) = false := by simp [he]
    have hd2 : (er == 0) = false := by simp [he]
    clear he her
    go_enter Tryd.func42, Tryd.ntmps42
    go_wp2_with fail
    refine (openQ_any _ _ _ _ t _ _ hs HT.out).mono ?_
    rintro e w1 ⟨⟨hk, _⟩, hb1⟩
    rw [HKE.out] at hk
    obtain rfl := hk HNZ.out
    have HB1 := Lib.hid hb1
    clear hk hb1
    go_wp2_with fail
    go_ret2
    exact ⟨by rw [HDO.out, HKE.out]; rfl, bTrans HB.out HB1.out⟩
end Go.Proofs.YtchhodikgllgnaaDoor
/- A region that draws its order, in a fence: known values over a class of worlds, but one operation's value is a letter (a new box), then a tail. No program in sight. -/
namespace Go.Proofs.YtchhodikgllgnaaDoor
open Go.RowKit Go.Sort Go.Shelf
section
variable {P : Program} {ops : Array Oper} {md : Region.Mode} {n : Nat} {F : Fence} {Cl : Option Nat → World → Prop} {val : Nat → Value}
/-- the values of the first operations; none: a letter -/
def wpOne (P : Program) (ops : Array Oper) (Cl : Option Nat → World → Prop) (val : Nat → Value) (b : Nat) (Q : Act → Prop) : List Oper → List (Option Value) → Act → Prop
  | _, [], a => Q a
  | o :: rest, some c :: cs, a => (if Region.wanted o (yielded ops a.tmps) then ∀ ob w', Cl ob w' → clsAt P (Cl ob) o a w' c else c = undef) ∧ wpOne P ops Cl val b Q rest cs (a.put o.dst c)
  | o :: rest, none :: cs, a => (o.guard = none ∧ ∀ w', Cl none w' → ∃ b', clsAt P (Cl (some b')) o a w' (val b')) ∧ wpOne P ops Cl val b Q rest cs (a.put o.dst (val b))
  | [], _ :: _, _ => False
def oneV (val : Nat → Value) (b : Nat) (cs : List (Option Value)) (k : Nat) : Value :=
  match cs[k]? with
  | some (some c) => c
  | some none => val b
  | none => undef
theorem wpOne_nil {b : Nat} {Q : Act → Prop} {l : List Oper} {a : Act} (h : Q a) : wpOne P ops Cl val b Q l [] a := by cases l <;> exact h
theorem wpOne_do {b : Nat} {Q : Act → Prop} {o : Oper} {rest : List Oper} {c : Value} {cs : List (Option Value)} {a : Act} (hg : o.guard = none) (h1 : ∀ ob w', Cl ob w' → clsAt P (Cl ob) o a w' c) (h2 : wpOne P ops Cl val b Q rest cs (a.put o.dst c)) : wpOne P ops Cl val b Q (o :: rest) (some c :: cs) a := by
  refine ⟨?_, h2⟩
  unfold Region.wanted
  rw [hg, if_pos rfl]
  exact h1
theorem wpOne_new {b : Nat} {Q : Act → Prop} {o : Oper} {rest : List Oper} {cs : List (Option Value)} {a : Act} (hg : o.guard = none) (h1 : ∀ w', Cl none w' → ∃ b', clsAt P (Cl (some b')) o a w' (val b')) (h2 : wpOne P ops Cl val b Q rest cs (a.put o.dst (val b))) : wpOne P ops Cl val b Q (o :: rest) (none :: cs) a := ⟨⟨hg, h1⟩, h2⟩
theorem wpOne_at {b : Nat} {Q : Act → Prop} {cs0 : List (Option Value)} {a0 : Act} :
    ∀ (cs : List (Option Value)) (k : Nat) (l : List Oper), (∀ j, l[j]? = ops[k + j]?) → (∀ j, cs[j]? = cs0[k + j]?) → k + cs.length = cs0.length → wpOne P ops Cl val b Q l cs (frameOf ops (oneV val b cs0) (fun _ => true) a0 k) →
      (∀ j, k ≤ j → j < cs0.length → ∃ o, ops[j]? = some o ∧ ((cs0[j]? = some none → o.guard = none ∧ ∀ w', Cl none w' → ∃ b', clsAt P (Cl (some b')) o (frameOf ops (oneV val b cs0) (fun _ => true) a0 j) w' (val b')) ∧ (cs0[j]? ≠ some none → if Region.wanted o (yielded ops (frameOf ops (oneV val b cs0) (fun _ => true) a0 j).tmps) then ∀ ob w', Cl ob w' → clsAt P (Cl ob) o (frameOf ops (oneV val b cs0) (fun _ => true) a0 j) w' (oneV val b cs0 j) else oneV val b cs0 j = undef))) ∧ Q (frameOf ops (oneV val b cs0) (fun _ => true) a0 cs0.length)
  | [], k, l, _, hh, hn, H => by
    have e : k = cs0.length := by simpa using hn
    subst e
    exact ⟨fun j hj hj2 => by omega, by cases l <;> exact H⟩
  | c :: cs, k, [], hl, hh, hn, H => by cases c <;> exact H.elim
  | c :: cs, k, o :: l, hl, hh, hn, H => by
    have h0 : ops[k]? = some o := by simpa using (hl 0).symm
    have h1 : cs0[k]? = some c := by simpa using (hh 0).symm
    have step : ∀ v, oneV val b cs0 k = v → wpOne P ops Cl val b Q l cs ((frameOf ops (oneV val b cs0) (fun _ => true) a0 k).put o.dst v) → _ := fun v hv H2 => by
      have e1 : frameOf ops (oneV val b cs0) (fun _ => true) a0 (k + 1) = (frameOf ops (oneV val b cs0) (fun _ => true) a0 k).put o.dst v := by
        rw [frameOf, if_pos rfl]; simp [dstOf, h0, hv]
      exact wpOne_at cs (k + 1) l (fun j => by have := hl (j + 1); simpa [Nat.add_assoc, Nat.add_comm 1 j] using this) (fun j => by have := hh (j + 1); simpa [Nat.add_assoc, Nat.add_comm 1 j] using this) (by simp only [List.length_cons] at hn; omega) (by rw [e1]; exact H2)
    cases c with
    | some c =>
      have hv : oneV val b cs0 k = c := by unfold oneV; rw [h1]
      obtain ⟨H1, H2⟩ := H
      obtain ⟨g1, g2⟩ := step c hv H2
      refine ⟨fun j hj hj2 => ?_, g2⟩
      rcases Nat.eq_or_lt_of_le hj with e | e
      · subst e
        refine ⟨o, h0, ?_⟩
        refine ⟨fun e => (by rw [h1] at e; cases e), fun _ => ?_⟩
        rw [hv]
        exact H1
      · exact g1 j e hj2
    | none =>
      have hv : oneV val b cs0 k = val b := by unfold oneV; rw [h1]
      obtain ⟨H1, H2⟩ := H
      obtain ⟨g1, g2⟩ := step (val b) hv H2
      refine ⟨fun j hj hj2 => ?_, g2⟩
      rcases Nat.eq_or_lt_of_le hj with e | e
      · subst e
        refine ⟨o, h0, ?_⟩
        exact ⟨fun _ => H1, fun e => absurd h1 e⟩
      · exact g1 j e hj2
/-- the law -/
theorem wpIn_region_one {rid : Nat} {Q : Exit → Act → World → Prop} {a : Act} {w : World} {l : List Oper} (hF : Open F P) (m i0 : Nat) (cs : List (Option Value)) (Cl : Option Nat → World → Prop) (val : Nat → Value) (hm : P.follows .mixedOrders = true) (hB : (stirB .any l.toArray m && noDefer l.toArray) = true) (hn : cs.length = m)
    (hone : (List.range m).all (fun j => j == i0 || !((cs.map Option.isNone).getD j false)) = true) (hi0 : cs[i0]? = some none) (h0 : Cl none { w with drawn := w.drawn + 1 })
    (h : ∀ b, wpOne P l.toArray Cl val b (fun a' => ∀ w', Cl (some b) w' → wpListIn F n P l.toArray Q (l.drop m) a' w') l cs a) : (Code.region rid l.toArray true).wpIn F n P Q a w := by
  have hone' : ∀ j, cs[j]? = some none → j = i0 := fun j hj => by
    have hjm : j < m := by rw [← hn]; exact (List.getElem?_eq_some_iff.1 hj).1
    have := List.all_eq_true.1 hone j (List.mem_range.2 hjm)
    simp [List.getD, hj] at this
    exact this
  have hi0m : i0 < m := by rw [← hn]; exact (List.getElem?_eq_some_iff.1 hi0).1
  rw [Bool.and_eq_true] at hB
  obtain ⟨hB, hnd⟩ := hB
  unfold stirB at hB
  simp only [Bool.and_eq_true, decide_eq_true_eq, List.all_eq_true, List.mem_range, Bool.or_eq_true] at hB
  obtain ⟨⟨hord, hnl⟩, htail⟩ := hB
  have H := ordered_of hord
  have hsz : l.toArray.size = l.length := by simp
  have key0 := fun b => wpOne_at (P := P) (ops := l.toArray) (Cl := Cl) (val := val) (cs0 := cs) (a0 := a) cs 0 l (fun j => by simp) (fun j => by simp) (by omega) (h b)
  rw [hn] at key0
  have hVne : ∀ b b' k, k ≠ i0 → oneV val b cs k = oneV val b' cs k := fun b b' k hk => by
    unfold oneV
    cases e : cs[k]? with
    | none => rfl
    | some c => cases c with
      | none => exact absurd (hone' k e) hk
      | some c => rfl
  have hV0 : ∀ b, oneV val b cs i0 = val b := fun b => by unfold oneV; rw [hi0]
  have final : ∀ (b : Nat) (listed : Array Bool) (w' : World), Cl (some b) w' → (∀ j, j < m → listed.getD j false = true) → (∀ j, m ≤ j → listed.getD j false = false) → wpListIn F n P l.toArray Q (l.drop m) (frameOf l.toArray (oneV val b cs) (fun k => listed.getD k false) a l.toArray.size) w' := by
    intro b listed w' hc hall hno
    have e1 : frameOf l.toArray (oneV val b cs) (fun k => listed.getD k false) a m = frameOf l.toArray (oneV val b cs) (fun _ => true) a m := frameOf_congr m fun j hj => ⟨hall j hj, fun _ => rfl⟩
    have e2 : ∀ k, m ≤ k → frameOf l.toArray (oneV val b cs) (fun k => listed.getD k false) a k = frameOf l.toArray (oneV val b cs) (fun k => listed.getD k false) a m := by
      intro k
      induction k with
      | zero => intro hm'; obtain rfl : m = 0 := by omega
                rfl
      | succ k ih =>
        intro hm'
        rcases Nat.eq_or_lt_of_le hm' with e | e
        · rw [e]
        · rw [frameOf, ih (by omega), if_neg]; rw [hno k (by omega)]; exact Bool.false_ne_true
    rw [e2 _ hnl, e1]
    exact (key0 b).2 w' hc
  refine wpIn_region_any hm ?_
  refine wpAnyIn_inv (fun listed a' w' => ((∀ j, m ≤ j → listed.getD j false = false) ∧ ∃ b ob, (listed.getD i0 false = true → ob = some b) ∧ (listed.getD i0 false = false → ob = none) ∧ a' = frameOf l.toArray (oneV val b cs) (fun k => listed.getD k false) a l.toArray.size ∧ Cl ob w') ∨
      ∃ k, m ≤ k ∧ (∀ j, j < k → listed.getD j false = true) ∧ (∀ j, k ≤ j → listed.getD j false = false) ∧ wpListIn F n P l.toArray Q (l.drop k) a' w') ?_ ?_ _ _ _ _ (left_le _ _) Shut.none (.inl ⟨fun j _ => ?_, 0, none, fun h => ?_, fun _ => rfl, ?_, h0⟩)
  · intro listed a' w' i hsh hI hr
    obtain ⟨hun, oi, hoi, _⟩ := mem_ready.1 hr
    have hi : i < l.toArray.size := (Array.getElem?_eq_some_iff.1 hoi).1
    have hil : i < listed.size := by rw [hsh.size]; exact hi
    have hunf := listed_both hun
    have hset : (listed.setIfInBounds i true).getD i false = true := set_same hil false
    have tailstep : ∀ k, m ≤ k → (∀ j, j < k → listed.getD j false = true) → (∀ j, k ≤ j → listed.getD j false = false) → m ≤ i → wpListIn F n P l.toArray Q (l.drop k) a' w' →
        wpOpIn F n P l.toArray Q i (fun a'' w'' => ((∀ j, m ≤ j → (listed.setIfInBounds i true).getD j false = false) ∧ ∃ b ob, ((listed.setIfInBounds i true).getD i0 false = true → ob = some b) ∧ ((listed.setIfInBounds i true).getD i0 false = false → ob = none) ∧ a'' = frameOf l.toArray (oneV val b cs) (fun k => (listed.setIfInBounds i true).getD k false) a l.toArray.size ∧ Cl ob w'') ∨
          ∃ k, m ≤ k ∧ (∀ j, j < k → (listed.setIfInBounds i true).getD j false = true) ∧ (∀ j, k ≤ j → (listed.setIfInBounds i true).getD j false = false) ∧ wpListIn F n P l.toArray Q (l.drop k) a'' w'') a' w' := by
      intro k hnk hall hno hni hw
      have him : i = k := by
        rcases Nat.lt_trichotomy i k with h' | h' | h'
        · rw [hall i h'] at hunf; cases hunf
        · exact h'
        · have h1 := ((htail i hi).resolve_left (by omega)) k h'
          have h2 := reach_listed hsh 6 i k (fun j hj => waits_listed hr hj) h1
          rw [hno k (Nat.le_refl _)] at h2; cases h2
      subst him
      have hli : l[i]? = some oi := by simpa using hoi
      have hdrop : l.drop i = oi :: l.drop (i + 1) := by
        have hlt : i < l.length := by omega
        rw [List.drop_eq_getElem_cons hlt]
        congr 1
        rw [List.getElem?_eq_getElem hlt] at hli
        exact Option.some.inj hli
      rw [hdrop] at hw
      simp only [wpListIn] at hw
      have hall' : ∀ j, j < i + 1 → (listed.setIfInBounds i true).getD j false = true := fun j hj => by
        rcases Nat.lt_or_ge j i with h' | h'
        · rw [getD_set_ne false (by omega)]; exact hall j h'
        · obtain rfl : j = i := by omega
          exact hset
      have hno' : ∀ j, i + 1 ≤ j → (listed.setIfInBounds i true).getD j false = false := fun j hj => by
        rw [getD_set_ne false (by omega)]; exact hno j (by omega)
      unfold Go.wpOpIn
      simp only [hoi]
      split
      · rename_i hwt
        rw [if_pos hwt] at hw
        exact Oper.wpIn_mono (fun a'' w'' h'' => .inr ⟨i + 1, by omega, hall', hno', h''⟩) hw
      · rename_i hwt
        rw [if_neg hwt] at hw
        exact ⟨fun f _ => hF.fn f, .inr ⟨i + 1, by omega, hall', hno', by first | exact hw.2 | exact hw⟩⟩
    rcases hI with ⟨hno, b, ob, hob, hob', rfl, hc⟩ | ⟨k, hnk, hall, hno, hw⟩
    · rcases Nat.lt_or_ge i m with hin | hin
      · obtain ⟨o', ho', hask⟩ := (key0 b).1 i (Nat.zero_le _) hin
        obtain rfl : oi = o' := Option.some.inj (hoi.symm.trans ho')
        have hsee := H.sees (V := oneV val b cs) (V' := oneV val b cs) (M := fun _ => true) (a := a) hsh hoi hr (fun k _ hk => by cases hk) (fun _ _ => rfl)
        have hput : ∀ b', (∀ k, listed.getD k false = true → oneV val b cs k = oneV val b' cs k) → (frameOf l.toArray (oneV val b cs) (fun k => listed.getD k false) a l.toArray.size).put oi.dst (oneV val b' cs i) = frameOf l.toArray (oneV val b' cs) (fun k => (listed.setIfInBounds i true).getD k false) a l.toArray.size := fun b' hbb => by
          have e1 : dstOf l.toArray i = oi.dst := by simp [dstOf, hoi]
          rw [H.frame_put hsh hi hun, e1]
          congr 1
          exact frameOf_congr _ fun j _ => ⟨rfl, fun hj => hbb j hj⟩
        unfold Go.wpOpIn
        simp only [hoi]
        rw [wanted_of_slots hsee]
        by_cases hii : i = i0
        · subst hii
          obtain ⟨hg, hask⟩ := hask.1 hi0
          have hwt : Region.wanted oi (yielded l.toArray (frameOf l.toArray (oneV val b cs) (fun _ => true) a i).tmps) = true := by unfold Region.wanted; rw [hg]
          rw [if_pos hwt]
          obtain rfl := hob' hunf
          obtain ⟨b', h1⟩ := hask w' hc
          refine wpIn_of_cls hF (noDefer_spec hnd hoi) (Cl := Cl (some b')) (v := val b') ?_ fun w'' hc' => .inl ⟨fun j hj => by rw [getD_set_ne false (by omega)]; exact hno j hj, b', some b', fun _ => rfl, fun h => (by rw [hset] at h; cases h), ?_, hc'⟩
          · unfold clsAt at h1 ⊢
            rwa [exec_of_slots (ops := l.toArray) (fun cs b => Region.noSelect_spec H.sel i oi cs b hoi) hsee]
          · rw [← hV0 b']
            exact hput b' fun k hk => hVne b b' k fun e => by subst e; rw [hunf] at hk; cases hk
        · replace hask := hask.2 (fun e => hii (hone' i e))
          have hother : (listed.setIfInBounds i true).getD i0 false = listed.getD i0 false := getD_set_ne false hii
          have hnext : ∀ w'', Cl ob w'' → ((∀ j, m ≤ j → (listed.setIfInBounds i true).getD j false = false) ∧ ∃ b2 ob2, ((listed.setIfInBounds i true).getD i0 false = true → ob2 = some b2) ∧ ((listed.setIfInBounds i true).getD i0 false = false → ob2 = none) ∧ (frameOf l.toArray (oneV val b cs) (fun k => listed.getD k false) a l.toArray.size).put oi.dst (oneV val b cs i) = frameOf l.toArray (oneV val b2 cs) (fun k => (listed.setIfInBounds i true).getD k false) a l.toArray.size ∧ Cl ob2 w'') := fun w'' hc' =>
            ⟨fun j hj => by rw [getD_set_ne false (by omega)]; exact hno j hj, b, ob, fun h => hob (hother ▸ h), fun h => hob' (hother ▸ h), hput b fun _ _ => rfl, hc'⟩
          by_cases hwt : Region.wanted oi (yielded l.toArray (frameOf l.toArray (oneV val b cs) (fun _ => true) a i).tmps) = true
          · rw [if_pos hwt] at hask
            rw [if_pos hwt]
            refine wpIn_of_cls hF (noDefer_spec hnd hoi) (Cl := Cl ob) (v := oneV val b cs i) ?_ fun w'' hc' => .inl (hnext w'' hc')
            have h1 := hask ob w' hc
            unfold clsAt at h1 ⊢
            rwa [exec_of_slots (ops := l.toArray) (fun cs b => Region.noSelect_spec H.sel i oi cs b hoi) hsee]
          · rw [if_neg hwt] at hask
            rw [if_neg hwt]
            refine ⟨fun f _ => hF.fn f, .inl ?_⟩
            rw [← hask]
            exact hnext w' hc
      · have hall : ∀ j, j < m → listed.getD j false = true := fun j hj => reach_listed hsh 6 i j (fun k hk => waits_listed hr hk) (((htail i hi).resolve_left (by omega)) j (by omega))
        obtain rfl := hob (hall i0 hi0m)
        exact tailstep m (Nat.le_refl _) hall hno hin (final b listed w' hc hall hno)
    · have hni : m ≤ i := by
        rcases Nat.lt_or_ge i m with h' | h'
        · rw [hall i (by omega)] at hunf; cases hunf
        · exact h'
      exact tailstep k hnk hall hno hni hw
  · intro listed a' w' hsh hI hr
    have hall := H.all hsh hr
    rcases hI with ⟨hno, b, ob, hob, hob', rfl, hc⟩ | ⟨k, hnk, hall', hno, hw⟩
    · have hnn : m = l.length := by
        rcases Nat.lt_or_ge m l.length with h' | h'
        · have := hall m (by omega); rw [hno m (Nat.le_refl _)] at this; cases this
        · omega
      obtain rfl := hob (hall i0 (by omega))
      have := final b listed w' hc (fun j hj => hall j (by omega)) hno
      rw [hnn, List.drop_length] at this
      exact this
    · have hmm : l.length ≤ k := by
        rcases Nat.lt_or_ge k l.length with h' | h'
        · have := hall k (by omega); rw [hno k (Nat.le_refl _)] at this; cases this
        · exact h'
      rw [List.drop_eq_nil_of_le hmm] at hw
      exact hw
  · rcases Nat.lt_or_ge j l.length with h' | h' <;> simp [h']
  · rcases Nat.lt_or_ge i0 l.length with h' | h' <;> simp [h'] at h
  · refine (frameOf_none (fun k => ?_) _).symm
    rcases Nat.lt_or_ge k l.length with h' | h' <;> simp [h']
end
end Go.Proofs.YtchhodikgllgnaaDoor
