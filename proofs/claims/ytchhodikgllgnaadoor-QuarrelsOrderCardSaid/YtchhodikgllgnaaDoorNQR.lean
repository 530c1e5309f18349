/- Parts joined. -/
import Derived.Test.YtchhodikgllgnaaDoorNQQ
import Derived.Test.YtchhodikgllgnaaDoorNQN
import Derived.Test.YtchhodikgllgnaaDoorNQP
set_option linter.unusedSimpArgs false
set_option linter.unusedVariables false
/- What the statement of step by step says of the plain values. Plain Lean. Conditions: a valid town. -/
namespace Go.Proofs.YtchhodikgllgnaaDoor
open Go.RowKit Go.Sort
theorem shown_ok {t : Qt} (ok : t.Ok) (h5 : t.nf ≤ 5) {x : Tp} (hx : x ∈ t.tests) {f : Nat} (hf : f < 10) : (t.add (shownF x (f : Int))).Ok := by
  have hm := testsL_mem.1 hx
  have w0 := ok.w0
  refine ⟨ok.w0, ok.w1, ok.nw, by show t.nf + 1 ≤ 6; omega, ok.world, fun i hi => ?_⟩
  show Fact.Ok t.wells (if i < t.nf then t.fact i else shownF x (f : Int))
  split
  · rename_i h
    exact ok.fact i h
  · exact ⟨by show (0 : Int) ≤ (x.1 : Int); omega, by show (x.1 : Int) < t.wells; omega, by show (0 : Int) ≤ (x.2 : Int); omega, by show (x.2 : Int) < t.wells; omega, by show (1 : Int) ≤ 1; omega, by show (1 : Int) ≤ 9; omega, by show (0 : Int) ≤ (f : Int); omega, by show (f : Int) ≤ (f : Int); omega, by show (f : Int) ≤ 99; omega⟩
theorem shown_depth {t : Qt} (ok : t.Ok) (h5 : t.nf ≤ 5) {x : Tp} (hx : x ∈ t.tests) {f : Nat} (hf : f < 10) (hne : t.shown x t.leftL (f : Int) ≠ []) :
    (t.add (shownF x (f : Int))).knowErr true = 0 ∧ (t.add (shownF x (f : Int))).depthOut = t.depth (t.shown x t.leftL (f : Int)) := by
  have h1 : (t.add (shownF x (f : Int))).knowErr true = 0 := knowErr_ok (shown_ok ok h5 hx hf) (by rw [leftL_shown]; exact hne)
  refine ⟨h1, ?_⟩
  unfold Qt.depthOut
  rw [if_pos h1, leftL_shown]
  exact depth_same (t := t.add (shownF x (f : Int))) (t' := t) rfl rfl _
def stepG (t : Qt) (x : Tp) (f : Nat) : Int := t.depth (t.shown x t.leftL (f : Int))
theorem step_worst {t : Qt} (ok : t.Ok) {x : Tp} (h : t.next t.leftL = some x) : maxTo (stepG t x) 10 = t.depth t.leftL - 1 := next_behind ok.fallsL h
theorem step_less {t : Qt} (ok : t.Ok) {x : Tp} (h : t.next t.leftL = some x) {f : Nat} (hf : f < 10) : 0 ≤ stepG t x f ∧ stepG t x f < t.depth t.leftL := by
  have h1 := step_worst ok h
  have h2 := maxTo_at (g := stepG t x) hf
  exact ⟨depth_nonneg _ _, by omega⟩
theorem step_empty {t : Qt} {x : Tp} {f : Nat} (h : t.shown x t.leftL (f : Int) = []) : stepG t x f = 0 := by
  unfold stepG
  rw [h, depth_step, allApart_short (by simp)]
  rfl
/-- what stands at the beginning: how many tests are enough, the fewest, the next one -/
theorem step_none {t : Qt} (ok : t.Ok) (h : t.leftL = []) : t.knowErr true = 3 ∧ t.nextErr = 3 := by
  have h1 := knowErr_none ok h
  refine ⟨h1, ?_⟩
  unfold Qt.nextErr
  rw [h1, if_neg (by decide)]
theorem step_some {t : Qt} (ok : t.Ok) (h : t.leftL ≠ []) : t.knowErr true = 0 ∧ 0 ≤ t.depthOut ∧ t.depthOut = t.depth t.leftL ∧ t.depthOut ≤ (lstO 0 (t.fewest t.leftL)).length ∧ t.depthOut < t.leftL.length ∧ (t.depthOut = 0 ∧ t.nextErr = 3 ∧ t.allApart [] t.leftL = true ∨ 0 < t.depthOut ∧ t.nextErr = 0 ∧ t.allApart [] t.leftL = false ∧ t.next t.leftL = some t.nextOut ∧ t.nextOut ∈ t.tests) := by
  have h1 := knowErr_ok ok h
  have h2 : t.depthOut = t.depth t.leftL := by unfold Qt.depthOut; rw [if_pos h1]
  have h3 := nextP_eq ok.fallsL (by have := left_six ok; omega)
  have h4 : t.nextErr = if (t.next t.leftL).isSome then 0 else 3 := by unfold Qt.nextErr; rw [if_pos h1, h3]
  have h5 : t.nextOut = (t.next t.leftL).getD (0, 0) := by unfold Qt.nextOut; rw [if_pos h1, h3]
  have h6 := next_zero (t := t) (L := t.leftL)
  refine ⟨h1, by rw [h2]; exact depth_nonneg _ _, h2, ?_, by rw [h2]; exact depth_below t h, ?_⟩
  · unfold lstO
    rw [if_pos rfl, h2]
    exact depth_fewest t t.leftL
  · have h7 := depth_nonneg t t.leftL
    by_cases h0 : t.depth t.leftL = 0
    · refine .inl ⟨by rw [h2]; exact h0, ?_, depth_zero.1 h0⟩
      rw [h4, h6, h0]
      rfl
    · refine .inr ⟨by rw [h2]; omega, ?_, ?_, ?_⟩
      · rw [h4, h6, decide_eq_true (by omega)]
        rfl
      · cases hal : t.allApart [] t.leftL with
        | false => rfl
        | true => exact absurd (depth_zero.2 hal) h0
      · rw [decide_eq_true (show 0 < t.depth t.leftL by omega)] at h6
        obtain ⟨x, hx⟩ := Option.isSome_iff_exists.1 h6
        rw [h5, hx]
        exact ⟨rfl, (next_some hx).1⟩
end Go.Proofs.YtchhodikgllgnaaDoor
/- A region that draws its order, in a fence: values told by shapes and by what stands, then a tail. No program in sight. -/
namespace Go.Proofs.YtchhodikgllgnaaDoor
open Go.RowKit Go.Sort Go.Shelf
section
variable {P : Program} {ops : Array Oper} {md : Region.Mode} {F : Fence} {k : Nat}
theorem wpIn_region_stir {rid : Nat} {Q : Exit → Act → World → Prop} {a : Act} {w : World} {l : List Oper} (hF : Open F P) (n : Nat) (hs : List Stir) (hm : P.follows .mixedOrders = true) (hB : (stirB .any l.toArray n && noDefer l.toArray) = true) (hn : hs.length = n) (hg : goodAllS hs) (hx : crossAll .any l.toArray w.heap.size hs)
    (h : wpStir P .any l.toArray w (fun a' w' => wpListIn F k P l.toArray Q (l.drop n) a' w') 0 l hs a []) : (Code.region rid l.toArray true).wpIn F k P Q a w := by
  rw [Bool.and_eq_true] at hB
  obtain ⟨hB, hnd⟩ := hB
  unfold stirB at hB
  simp only [Bool.and_eq_true, decide_eq_true_eq, List.all_eq_true, List.mem_range, Bool.or_eq_true] at hB
  obtain ⟨⟨hord, hnl⟩, htail⟩ := hB
  have H := ordered_of hord
  have hsz : l.toArray.size = l.length := by simp
  have key : ∀ V : Nat → Value, (∀ (k : Nat) (h : Stir), hs[k]? = some h → h.sh (V k)) → _ := fun V hV =>
    wpStir_at (P := P) (md := .any) (ops := l.toArray) (W := w) (Q := fun a' w' => wpListIn F k P l.toArray Q (l.drop n) a' w') (a0 := a) hV hs 0 l (fun j => by simp) (fun j => by simp) (by omega) h
  have hwit : ∃ V : Nat → Value, ∀ (k : Nat) (h : Stir), hs[k]? = some h → h.sh (V k) := by
    have hx : ∀ k : Nat, ∃ v : Value, ∀ h : Stir, hs[k]? = some h → h.sh v := fun k => by
      cases e : hs[k]? with
      | none => exact ⟨undef, fun h hh => by cases hh⟩
      | some h =>
        obtain ⟨v, hv⟩ := Stir.some (goodAllS_at hg e)
        exact ⟨v, fun h' hh => by injection hh with hh; subst hh; exact hv⟩
    exact ⟨fun k => (hx k).choose, fun k => (hx k).choose_spec⟩
  have final : ∀ (V : Nat → Value) (listed : Array Bool) (w' : World), (∀ (k : Nat) (h : Stir), hs[k]? = some h → h.sh (V k)) → Below w.heap.size w w' → (∀ j, j < n → listed.getD j false = true) → (∀ j, n ≤ j → listed.getD j false = false) → (∀ (j : Nat) (h : Stir), hs[j]? = some h → h.r w' (V j)) →
      wpListIn F k P l.toArray Q (l.drop n) (frameOf l.toArray V (fun k => listed.getD k false) a l.toArray.size) w' := by
    intro V listed w' hV hb hall hno hr
    obtain ⟨p, rfl⟩ := regrown_of_below hb
    have := (key V hV).2 p (allS_all _ fun j h hj hjh => hr j h hjh)
    rw [hn] at this
    have e1 : frameOf l.toArray V (fun k => listed.getD k false) a n = frameOf l.toArray V (fun _ => true) a n := frameOf_congr n fun j hj => ⟨hall j hj, fun _ => rfl⟩
    have e2 : ∀ m, n ≤ m → frameOf l.toArray V (fun k => listed.getD k false) a m = frameOf l.toArray V (fun k => listed.getD k false) a n := by
      intro m
      induction m with
      | zero => intro hm'; obtain rfl : n = 0 := by omega
                rfl
      | succ m ih =>
        intro hm'
        rcases Nat.eq_or_lt_of_le hm' with e | e
        · rw [e]
        · rw [frameOf, ih (by omega), if_neg]; rw [hno m (by omega)]; exact Bool.false_ne_true
    rw [e2 _ hnl, e1]
    exact this
  refine wpIn_region_any hm ?_
  refine wpAnyIn_inv (fun listed a' w' => ((∀ j, n ≤ j → listed.getD j false = false) ∧ ∃ V : Nat → Value, (∀ (k : Nat) (h : Stir), hs[k]? = some h → h.sh (V k)) ∧ a' = frameOf l.toArray V (fun k => listed.getD k false) a l.toArray.size ∧ Below w.heap.size w w' ∧ ∀ (j : Nat) (h : Stir), hs[j]? = some h → listed.getD j false = true → h.r w' (V j)) ∨
      ∃ m, n ≤ m ∧ (∀ j, j < m → listed.getD j false = true) ∧ (∀ j, m ≤ j → listed.getD j false = false) ∧ wpListIn F k P l.toArray Q (l.drop m) a' w') ?_ ?_ _ _ _ _ (left_le _ _) Shut.none (.inl ⟨fun j _ => ?_, ?_⟩)
  · intro listed a' w' i hsh hI hr
    obtain ⟨hun, oi, hoi, _⟩ := mem_ready.1 hr
    have hi : i < l.toArray.size := (Array.getElem?_eq_some_iff.1 hoi).1
    have hil : i < listed.size := by rw [hsh.size]; exact hi
    have hunf := listed_both hun
    have hset : (listed.setIfInBounds i true).getD i false = true := set_same hil false
    have tailstep : ∀ m, n ≤ m → (∀ j, j < m → listed.getD j false = true) → (∀ j, m ≤ j → listed.getD j false = false) → n ≤ i → wpListIn F k P l.toArray Q (l.drop m) a' w' →
        wpOpIn F k P l.toArray Q i (fun a'' w'' => ((∀ j, n ≤ j → (listed.setIfInBounds i true).getD j false = false) ∧ ∃ V : Nat → Value, (∀ (k : Nat) (h : Stir), hs[k]? = some h → h.sh (V k)) ∧ a'' = frameOf l.toArray V (fun k => (listed.setIfInBounds i true).getD k false) a l.toArray.size ∧ Below w.heap.size w w'' ∧ ∀ (j : Nat) (h : Stir), hs[j]? = some h → (listed.setIfInBounds i true).getD j false = true → h.r w'' (V j)) ∨
          ∃ m, n ≤ m ∧ (∀ j, j < m → (listed.setIfInBounds i true).getD j false = true) ∧ (∀ j, m ≤ j → (listed.setIfInBounds i true).getD j false = false) ∧ wpListIn F k P l.toArray Q (l.drop m) a'' w'') a' w' := by
      intro m hnk hall hno hni hw
      have him : i = m := by
        rcases Nat.lt_trichotomy i m with h' | h' | h'
        · rw [hall i h'] at hunf; cases hunf
        · exact h'
        · have h1 := ((htail i hi).resolve_left (by omega)) m h'
          have h2 := reach_listed hsh 6 i m (fun j hj => waits_listed hr hj) h1
          rw [hno m (Nat.le_refl _)] at h2; cases h2
      subst him
      have hli : l[i]? = some oi := by simpa using hoi
      have hdrop : l.drop i = oi :: l.drop (i + 1) := by
        have hlt : i < l.length := by omega
        rw [List.drop_eq_getElem_cons hlt]
        congr 1
        rw [List.getElem?_eq_getElem hlt] at hli
        exact Option.some.inj hli
      rw [hdrop] at hw
      simp only [wpListIn] at hw
      have hall' : ∀ j, j < i + 1 → (listed.setIfInBounds i true).getD j false = true := fun j hj => by
        rcases Nat.lt_or_ge j i with h' | h'
        · rw [getD_set_ne false (by omega)]; exact hall j h'
        · obtain rfl : j = i := by omega
          exact hset
      have hno' : ∀ j, i + 1 ≤ j → (listed.setIfInBounds i true).getD j false = false := fun j hj => by
        rw [getD_set_ne false (by omega)]; exact hno j (by omega)
      unfold Go.wpOpIn
      simp only [hoi]
      split
      · rename_i hwt
        rw [if_pos hwt] at hw
        exact Oper.wpIn_mono (fun a'' w'' h'' => .inr ⟨i + 1, by omega, hall', hno', h''⟩) hw
      · rename_i hwt
        rw [if_neg hwt] at hw
        exact ⟨fun f _ => hF.fn f, .inr ⟨i + 1, by omega, hall', hno', by first | exact hw.2 | exact hw⟩⟩
    rcases hI with ⟨hno, V, hV, rfl, hb, hrr⟩ | ⟨m, hnm, hall, hno, hw⟩
    · rcases Nat.lt_or_ge i n with hin | hin
      · -- an operation of the first part
        refine wpOpIn_mono (fun _ _ h => .inl h) ?_
        have hx' : ∃ h, hs[i]? = some h := ⟨hs[i]'(by omega), by simp⟩
        obtain ⟨hh, hhi⟩ := hx'
        obtain ⟨o', ho', hask⟩ := (key V hV).1 i hh (Nat.zero_le _) hhi
        obtain rfl : oi = o' := Option.some.inj (hoi.symm.trans ho')
        have hsee := H.sees (V := V) (V' := V) (M := fun _ => true) (a := a) hsh hoi hr (fun k _ hk => by cases hk) (fun _ _ => rfl)
        have hput : ∀ v, (frameOf l.toArray V (fun k => listed.getD k false) a l.toArray.size).put oi.dst v = frameOf l.toArray (fun k => if k = i then v else V k) (fun k => (listed.setIfInBounds i true).getD k false) a l.toArray.size := fun v => by
          have e1 : dstOf l.toArray i = oi.dst := by simp [dstOf, hoi]
          rw [H.frame_put hsh hi hun, e1, if_pos rfl]
          congr 1
          exact frameOf_congr _ fun j _ => ⟨rfl, fun hj => by rw [if_neg (fun e => by subst e; rw [hunf] at hj; cases hj)]⟩
        have hnext : ∀ v w'', Below w.heap.size w' w'' → (∀ (j : Nat) (h : Stir), hs[j]? = some h → j ≠ i → listed.getD j false = true → h.r w' (V j) → h.r w'' (V j)) → hh.r w'' v → ((∀ j, n ≤ j → (listed.setIfInBounds i true).getD j false = false) ∧ ∃ V' : Nat → Value, (∀ (k : Nat) (h : Stir), hs[k]? = some h → h.sh (V' k)) ∧ (frameOf l.toArray V (fun k => listed.getD k false) a l.toArray.size).put oi.dst v = frameOf l.toArray V' (fun k => (listed.setIfInBounds i true).getD k false) a l.toArray.size ∧ Below w.heap.size w w'' ∧ ∀ (j : Nat) (h : Stir), hs[j]? = some h → (listed.setIfInBounds i true).getD j false = true → h.r w'' (V' j)) := by
          intro v w'' hb' hkeep hrv
          refine ⟨fun j hj => by rw [getD_set_ne false (by omega)]; exact hno j hj, fun k => if k = i then v else V k, fun k h hk => ?_, hput v, hb.trans hb', fun j h hjh hj => ?_⟩
          · by_cases e : k = i
            · subst e
              obtain rfl : hh = h := Option.some.inj (hhi.symm.trans hk)
              simp only [if_true]
              exact Stir.r_sh hrv
            · simp only [if_neg e]; exact hV k h hk
          · by_cases e : j = i
            · subst e
              obtain rfl : hh = h := Option.some.inj (hhi.symm.trans hjh)
              simp only [if_true]
              exact hrv
            · simp only [if_neg e]
              rw [getD_set_ne false (Ne.symm e)] at hj
              exact hkeep j h hjh e hj (hrr j h hjh hj)
        unfold Go.wpOpIn
        simp only [hoi]
        rw [wanted_of_slots hsee]
        unfold Oper.stirAsk at hask
        by_cases hwt : Region.wanted oi (yielded l.toArray (frameOf l.toArray V (fun _ => true) a i).tmps) = true
        · rw [if_pos hwt] at hask
          rw [if_pos hwt]
          obtain ⟨p, rfl⟩ := regrown_of_below hb
          have h1 := hask p (depsS_all _ fun j h hj hjh hw => hrr j h hjh (waits_listed hr hw))
          have hst : ∀ v w'', hh.K (grow (redrawn w p.d) p.os) w'' → hh.r w'' v → _ := fun v w'' hk hrv => hnext v w'' (by
            cases hh with
            | const c => exact (show Below _ _ _ from hk).mono hb.size
            | held s r => exact (show Below _ _ _ from hk).mono hb.size
            | stir s r K => exact (hx i s r K hhi).1 _ _ hb.size hk) (fun j h hjh hji hj hr1 => by
            cases hh with
            | const c => exact Stir.r_mono (goodAllS_at hg hjh) hk hr1
            | held s r => exact Stir.r_mono (goodAllS_at hg hjh) hk hr1
            | stir s r K =>
              rcases (hx i s r K hhi).2 j h hjh hji with h1 | h1
              · have h2 := reach_listed2 hsh 6 j i hj h1
                rw [hunf] at h2
                cases h2
              · exact h1 _ _ _ hk hr1) hrv
          refine wpIn_of_stir hF (noDefer_spec hnd hoi) (S := hh.K) (r := hh.r) ?_ fun v w'' hb' hrv => hst v w'' hb' hrv
          unfold Oper.stirAt at h1 ⊢
          rwa [exec_of_slots (ops := l.toArray) (fun cs b => Region.noSelect_spec H.sel i oi cs b hoi) hsee]
        · rw [if_neg hwt] at hask
          rw [if_neg hwt]
          exact ⟨fun f _ => hF.fn f, hnext undef w' (Below.refl _ _) (fun j h _ _ _ h1 => h1) (hask _)⟩
      · have hall : ∀ j, j < n → listed.getD j false = true := fun j hj => reach_listed hsh 6 i j (fun k hk => waits_listed hr hk) (((htail i hi).resolve_left (by omega)) j (by omega))
        exact tailstep n (Nat.le_refl _) hall hno hin (final V listed w' hV hb hall hno fun j h hjh => hrr j h hjh (hall j (by rw [← hn]; exact (List.getElem?_eq_some_iff.1 hjh).1)))
    · have hni : n ≤ i := by
        rcases Nat.lt_or_ge i n with h' | h'
        · rw [hall i (by omega)] at hunf; cases hunf
        · exact h'
      exact tailstep m hnm hall hno hni hw
  · intro listed a' w' hsh hI hr
    have hall := H.all hsh hr
    rcases hI with ⟨hno, V, hV, rfl, hb, hrr⟩ | ⟨m, hnm, hall', hno, hw⟩
    · have hnn : n = l.length := by
        rcases Nat.lt_or_ge n l.length with h' | h'
        · have := hall n (by omega); rw [hno n (Nat.le_refl _)] at this; cases this
        · omega
      have hall2 : ∀ j, j < n → listed.getD j false = true := fun j hj => hall j (by omega)
      have := final V listed w' hV hb hall2 hno fun j h hjh => hrr j h hjh (hall2 j (by rw [← hn]; exact (List.getElem?_eq_some_iff.1 hjh).1))
      rw [hnn, List.drop_length] at this
      exact this
    · have hmm : l.length ≤ m := by
        rcases Nat.lt_or_ge m l.length with h' | h'
        · have := hall m (by omega); rw [hno m (Nat.le_refl _)] at this; cases this
        · exact h'
      rw [List.drop_eq_nil_of_le hmm] at hw
      exact hw
  · rcases Nat.lt_or_ge j l.length with h' | h' <;> simp [h']
  · obtain ⟨V, hV⟩ := hwit
    refine ⟨V, hV, ?_, (Below.refl _ _).drew, fun j h _ hj => ?_⟩
    · symm
      refine frameOf_none (fun k => ?_) _
      rcases Nat.lt_or_ge k l.length with h' | h' <;> simp [h']
    · rcases Nat.lt_or_ge j l.length with h' | h' <;> simp [h'] at hj
end
end Go.Proofs.YtchhodikgllgnaaDoor
/- The walk of Decide of the package quarrels. Conditions: lengths are Go's; the listed table holds what it holds. -/
namespace Go.Proofs.YtchhodikgllgnaaDoor
open Go.RowKit Go.Sort Go.Shelf
theorem others_at : ∀ m, m < 5 → ∀ p, p < m → ∀ q, q < m → (testsL m).eraseIdx (p * m + q) = (testsL m).filter (fun y => y != (p, q)) ∧ p * m + q < (testsL m).length ∧ ∀ i, i < (testsL m).length → decide (tget (testsL m) i = (p, q)) = decide (i = p * m + q) := by decide +kernel
/-- what open hands back, in a region -/
def CrtS (v : Value) : Prop := ∃ C, v = .tuple #[.pointer (some ⟨C, 0, none⟩), .int .i64 0]
def CrtR (Aw Af : Option Addr) (cw cf : Nat) (t : Qt) (s : Nat) (w : World) (v : Value) : Prop := ∀ C, v = .tuple #[.pointer (some ⟨C, 0, none⟩), .int .i64 0] → ∃ mp, CourtAt w C Aw Af cw cf t s mp
def CpS (v : Value) : Prop := ∃ C, v = .pointer (some ⟨C, 0, none⟩)
def CpR (Aw Af : Option Addr) (cw cf : Nat) (t : Qt) (s : Nat) (w : World) (v : Value) : Prop := ∀ C, v = .pointer (some ⟨C, 0, none⟩) → ∃ mp, CourtAt w C Aw Af cw cf t s mp
theorem crtG (Aw Af : Option Addr) (cw cf : Nat) (t : Qt) (s : Nat) : (Stir.held CrtS (CrtR Aw Af cw cf t s)).good := ⟨⟨_, 0, rfl⟩, fun _ _ _ hb h C e => (h C e).imp fun _ h => h.mono hb⟩
theorem cpG (Aw Af : Option Addr) (cw cf : Nat) (t : Qt) (s : Nat) : (Stir.held CpS (CpR Aw Af cw cf t s)).good := ⟨⟨_, 0, rfl⟩, fun _ _ _ hb h C e => (h C e).imp fun _ h => h.mono hb⟩
theorem CrtR.of {Aw Af : Option Addr} {cw cf : Nat} {t : Qt} {s : Nat} {w : World} {C mp : Nat} (h : CourtAt w C Aw Af cw cf t s mp) : CrtR Aw Af cw cf t s w (.tuple #[.pointer (some ⟨C, 0, none⟩), .int .i64 0]) := fun C' e => by
  obtain rfl : C = C' := by simpa using e
  exact ⟨mp, h⟩
theorem CpR.of {Aw Af : Option Addr} {cw cf : Nat} {t : Qt} {s : Nat} {w : World} {C : Nat} (h : ∃ mp, CourtAt w C Aw Af cw cf t s mp) : CpR Aw Af cw cf t s w (.pointer (some ⟨C, 0, none⟩)) := fun C' e => by
  obtain rfl : C = C' := by simpa using e
  exact h
theorem court_ne {w : World} {C b : Nat} {Aw Af : Option Addr} {cw cf : Nat} {t : Qt} {s mp : Nat} {v : Value} {ty : TypeId} (h : CourtAt w C Aw Af cw cf t s mp) (hp : w.heap[b]? = some (.cells #[v] ty (0, 0))) : b ≠ C := by
  intro e
  subst e
  have := h.box.cell 1 _ rfl
  simp [World.cell?, hp] at this
theorem CourtAt.set {w : World} {C b : Nat} {Aw Af : Option Addr} {cw cf : Nat} {t : Qt} {s mp : Nat} (h : CourtAt w C Aw Af cw cf t s mp) (hne : b ≠ C) (o : Nat) (v : Value) : CourtAt (w.setCell ⟨b, o, none⟩ v) C Aw Af cw cf t s mp :=
  ⟨h.box.set hne o v, fun k => by rw [World.frozen?_setCell]; exact h.frz k⟩
set_option maxHeartbeats 4000000 in
set_option maxRecDepth 100000 in
theorem decideQ_ok (Aw Af : Option Addr) (cw cf : Nat) (t : Qt) (p q : Nat) (law : Int) (w : World) (ok : t.Ok) (hs : t.Small) (hT : QAt w Aw Af t) (hB : TabAt w) (hp : (p : Int) < t.wells) (hq : (q : Int) < t.wells) (hlaw : inR law 0 99 = true) (hkn : t.knowErr true = 0) :
    Calls Tryd.prog 60 #[.agg #[.int .i64 t.wells, .slice Aw t.nw cw, .slice Af t.nf cf], .int .i64 p, .int .i64 q, .int .i64 law] w fun e w' => LstOut w' (if t.decides (t.others (p, q)) t.leftL (p, q) law then 0 else 3) (t.decL p q law) e ∧ Below w.heap.size w w' := by
  have hb0 := bAlloc (bAlloc (Below.refl w.heap.size w) (.cells #[.int .i64 t.wells, .slice Aw t.nw cw, .slice Af t.nf cf] 25)) (.cells #[.int .i64 law] 3)
  have HT := Lib.hid (hT.mono hb0)
  have HTB := Lib.hid (hB.mono hb0)
  have HB := Lib.hid hb0
  have HOK := Lib.hid ok
  have HP := Lib.hid hp
  have HQ := Lib.hid hq
  obtain ⟨m, hm⟩ : ∃ m : Nat, t.wells = (m : Int) := ⟨t.wells.toNat, by have := ok.w0; omega⟩
  have HM := Lib.hid hm
  have m4 : m ≤ 4 := by have := ok.w1; omega
  have HTE := Lib.hid (show t.tests = testsL m by unfold Qt.tests; rw [hm]; rfl)
  have h64 := mask_64 t ok.nw
  obtain ⟨s, hsk⟩ : ∃ s, t.maskTo t.nw = s := ⟨_, rfl⟩
  have HBM := Lib.hid (show bitsL s = t.leftL by rw [← hsk]; exact bits_mask t ok.nw)
  rw [hsk] at h64
  have HC1 := Lib.hid (fun w => ((wellB_ok ok (p : Int)).trans (inR_iff.2 (by omega))) ▸ isWellQ_any Aw Af cw cf t p w : ∀ w : World, Calls Tryd.prog 71 #[.agg #[.int .i64 t.wells, .slice Aw t.nw cw, .slice Af t.nf cf], .int .i64 p] w fun e w' => e = .returned (.bool true) ∧ Below w.heap.size w w')
  have HC2 := Lib.hid (fun w => ((wellB_ok ok (q : Int)).trans (inR_iff.2 (by omega))) ▸ isWellQ_any Aw Af cw cf t q w : ∀ w : World, Calls Tryd.prog 71 #[.agg #[.int .i64 t.wells, .slice Aw t.nw cw, .slice Af t.nf cf], .int .i64 q] w fun e w' => e = .returned (.bool true) ∧ Below w.heap.size w w')
  have HC3 := Lib.hid (fun w => hlaw ▸ isLawQ_any law w : ∀ w : World, Calls Tryd.prog 87 #[.int .i64 law] w fun e w' => e = .returned (.bool true) ∧ Below w.heap.size w w')
  have HCO := Lib.hid (fun (w' : World) (hb : Below ((w.alloc (.cells #[.int .i64 t.wells, .slice Aw t.nw cw, .slice Af t.nf cf] 25)).alloc (.cells #[.int .i64 law] 3)).heap.size ((w.alloc (.cells #[.int .i64 t.wells, .slice Aw t.nw cw, .slice Af t.nf cf] 25)).alloc (.cells #[.int .i64 law] 3)) w') => ((openQ_any Aw Af cw cf t true w' hs (HT.out.mono hb)).mono fun e w'' h => ⟨by
      obtain ⟨C, mp, h1, h2, _⟩ := h.1.2 hkn
      rw [hsk] at h2
      exact ⟨C, mp, h1, h2⟩, h.2⟩ : Calls Tryd.prog 70 #[.agg #[.int .i64 t.wells, .slice Aw t.nw cw, .slice Af t.nf cf], .bool true] w' fun e w'' => (∃ C mp, e = .returned (.tuple #[.pointer (some ⟨C, 0, none⟩), .int .i64 0]) ∧ CourtAt w'' C Aw Af cw cf t s mp) ∧ Below w'.heap.size w' w''))
  obtain ⟨er, her⟩ : ∃ er, (if t.decides (t.others (p, q)) t.leftL (p, q) law then (0 : Int) else 3) = er := ⟨_, rfl⟩
  rw [her]
  have HER := Lib.hid her
  clear hT hB hb0 hsk ok hp hq hm hlaw hkn her
  refine (callsIn_wide (n := 9)).1 ?_
  refine callsIn_of_wp Tryd.func60 rfl trivial ?_ rfl
  simp only [Tryd.ntmps60, List.size_toArray, List.length_cons, List.length_nil, Nat.reduceAdd, Nat.reduceSub, Array.replicate_succ, Array.replicate_zero, List.push_toArray, List.append_toArray, List.nil_append, List.cons_append]
  gi_wp2
  refine wpIn_region_late (openWide _) 18 16 [.const (.agg #[.int .i64 t.wells, .slice Aw t.nw cw, .slice Af t.nf cf]), .const (.agg #[.int .i64 t.wells, .slice Aw t.nw cw, .slice Af t.nf cf]), .const (.int .i64 (p : Int)), .const (.bool true), .const (.bool true), .const (.agg #[.int .i64 t.wells, .slice Aw t.nw cw, .slice Af t.nf cf]), .const (.int .i64 (q : Int)), .const (.bool true), .const (.bool true), .const (.bool true), .const (.int .i64 law), .const (.bool true), .const (.bool true), .held CrtS (CrtR Aw Af cw cf t s), .held CrtS (CrtR Aw Af cw cf t s), .held CpS (CpR Aw Af cw cf t s), .const (.int .i64 0), .held ptrS (ptrR (w.heap.size + 1 + 1))] (by kernel_rfl) (by kernel_rfl) rfl ⟨trivial, trivial, trivial, trivial, trivial, trivial, trivial, trivial, trivial, trivial, trivial, trivial, trivial, crtG _ _ _ _ _ _, crtG _ _ _ _ _ _, cpG _ _ _ _ _ _, trivial, ptrG _, trivial⟩ (crossAll_no _ _ _ _ trivial) rfl rfl rfl (fun _ => ⟨_, _, _, _, rfl, rfl, rfl, rfl⟩) ?_
  iterate 3 refine wpStir_const (by go_simp) ?_
  refine wpStir_call rfl (fun w' hb hd => ?_) ?_
  · clear hd
    go_simp
    refine (HC1.out w').mono ?_
    rintro e w'' ⟨rfl, hb'⟩
    exact ⟨rfl, hb'⟩
  iterate 3 refine wpStir_const (by go_simp) ?_
  refine wpStir_gcall (by kernel_rfl) (fun w' hb hd => ?_) ?_
  · clear hd
    go_simp
    refine (HC2.out w').mono ?_
    rintro e w'' ⟨rfl, hb'⟩
    exact ⟨rfl, hb'⟩
  iterate 3 refine wpStir_const (by go_simp) ?_
  refine wpStir_gcall (by kernel_rfl) (fun w' hb hd => ?_) ?_
  · clear hd
    go_simp
    refine (HC3.out w').mono ?_
    rintro e w'' ⟨rfl, hb'⟩
    exact ⟨rfl, hb'⟩
  refine wpStir_const (by go_simp) ?_
  refine wpStir_held rfl (fun w' hb hd => ?_) (fun v hv => ?_)
  · clear hd
    go_simp
    refine (HCO.out w' hb).mono ?_
    rintro e w'' ⟨⟨C, mp, rfl, hc⟩, hb'⟩
    exact ⟨_, rfl, hb', ⟨_, rfl⟩, CrtR.of hc⟩
  obtain ⟨C, rfl⟩ := hv
  simp only [Act.put, List.setIfInBounds_toArray, List.set_cons_succ, List.set_cons_zero]
  refine wpStir_held rfl (fun w' hb hd => ?_) (fun v hv => ?_)
  · have h1 := Lib.hid (hd.1 (by kernel_rfl))
    clear hd
    go_simp
    exact ⟨⟨_, rfl⟩, h1.out⟩
  obtain ⟨C1, rfl⟩ := hv
  simp only [Act.put, List.setIfInBounds_toArray, List.set_cons_succ, List.set_cons_zero]
  refine wpStir_held rfl (fun w' hb hd => ?_) (fun v hv => ?_)
  · have h1 := Lib.hid (hd.1 (by kernel_rfl) C1 rfl)
    clear hd
    go_simp
    exact ⟨⟨_, rfl⟩, CpR.of h1.out⟩
  obtain ⟨C2, rfl⟩ := hv
  refine wpStir_const (by go_simp) ?_
  simp only [Act.put, List.setIfInBounds_toArray, List.set_cons_succ, List.set_cons_zero]
  refine wpStir_held rfl (fun w' hb hd => ?_) (fun v hv => ?_)
  · clear hd
    go_simp
    exact ⟨bAlloc (Below.refl _ _) _, ⟨_, rfl⟩, ptrR_new (by have := hb.size; simp only [World.size_alloc] at this; exact this)⟩
  obtain ⟨b, rfl⟩ := hv
  refine wpStir_end (fun w5 hb5 hd => ?_)
  have hpp := (hd.1 b rfl).2
  have hpb := (hd.1 b rfl).1
  obtain ⟨mp, hct⟩ := hd.2.1 C2 rfl
  have hpc : w5.cell? ⟨b, 0, none⟩ = some (.pointer none) := by simp [World.cell?, hpp]
  have hpf : w5.frozen? ⟨b, 0, none⟩ = false := by simp [World.frozen?, hpp]
  have hbC := court_ne hct hpp
  obtain ⟨w6, hw6⟩ : ∃ w6, w5.setCell ⟨b, 0, none⟩ (.pointer (some ⟨C2, 0, none⟩)) = w6 := ⟨_, rfl⟩
  have HB6 := Lib.hid (show Below ((w.alloc (.cells #[.int .i64 t.wells, .slice Aw t.nw cw, .slice Af t.nf cf] 25)).alloc (.cells #[.int .i64 law] 3)).heap.size ((w.alloc (.cells #[.int .i64 t.wells, .slice Aw t.nw cw, .slice Af t.nf cf] 25)).alloc (.cells #[.int .i64 law] 3)) w6 from hw6 ▸ Below.setCell (p := ⟨b, 0, none⟩) hb5 (by simp only [World.size_alloc]; exact hpb) _)
  have hct6 : CourtAt w6 C2 Aw Af cw cf t s mp := hw6 ▸ hct.set hbC _ _
  have hcb6 : w6.cell? ⟨b, 0, none⟩ = some (.pointer (some ⟨C2, 0, none⟩)) := hw6 ▸ World.cell?_setCell_same _ _ _ hpc
  have hbl6 : b < w6.heap.size := by rw [← hw6]; simpa [World.setCell] using (Array.getElem?_eq_some_iff.1 hpp).1
  have HW6 := Lib.hid hw6
  have HCT6 := Lib.hid hct6
  have HCB6 := Lib.hid hcb6
  have HBL6 := Lib.hid hbl6
  clear hpp hb5 hct hbC hw6 hct6 hcb6 hbl6 hpb
  clear hd
  simp only [List.drop_succ_cons, List.drop_zero]
  simp only [Act.put, List.setIfInBounds_toArray, List.set_cons_succ, List.set_cons_zero]
  refine ⟨w6, by rw [← HW6.out]; go_simp, ?_⟩
  clear hpc hpf HW6
  have hb6 := HCB6.out
  have bl6 := HBL6.out
  obtain ⟨w7, hw7⟩ : ∃ w7, w6.alloc (.cells #[.int .i64 (p : Int), .int .i64 (q : Int)] 27) = w7 := ⟨_, rfl⟩
  have hb7 : Below w6.heap.size w6 w7 := hw7 ▸ bAlloc (Below.refl _ _) _
  have HCT7 := Lib.hid (HCT6.out.mono hb7)
  have HB7 := Lib.hid (bTrans HB6.out hb7)
  have c1 : w7.cell? ⟨w6.heap.size, 0, none⟩ = some (.int .i64 p) := by rw [← hw7]; simp [go_sem]
  have c2 : w7.cell? ⟨w6.heap.size, 1, none⟩ = some (.int .i64 q) := by rw [← hw7]; simp [go_sem]
  have c3 : w7.cell? ⟨b, 0, none⟩ = some (.pointer (some ⟨C2, 0, none⟩)) := (hb7.cell (p := ⟨b, 0, none⟩) bl6).trans hb6
  have z7 : w7.heap.size = w6.heap.size + 1 := by rw [← hw7]; simp
  have z6 := HB6.out.size
  simp only [World.size_alloc] at z6
  have c4 := (HB7.out.cell (p := ⟨w.heap.size + 1, 0, none⟩) (by simp)).trans (show _ = some (.int .i64 law) by simp [go_sem])
  have HC := Lib.hid (And.intro c1 (And.intro c2 (And.intro c3 c4)))
  have HW7 := Lib.hid hw7
  have hcm := HCT7.out.box.cell 0 _ rfl
  rw [HM.out] at hcm
  have HCO7 := Lib.hid (collect_any C2 m w7 m4 HCT7.out.box.lt hcm)
  clear hb7 c1 c2 c3 c4 hw7 hcm
  gi_wp2
  rw [HW7.out]
  refine ⟨trivial, (callsIn_wide.2 HCO7.out).mono ?_⟩
  rintro e w8 ⟨⟨v, rfl, hv⟩, hb8⟩
  have hpm : p < m := by have := HP.out; rw [HM.out] at this; omega
  have hqm : q < m := by have := HQ.out; rw [HM.out] at this; omega
  obtain ⟨ho1, ho2, ho3⟩ := others_at m (by omega) p hpm q hqm
  obtain ⟨nt, hnt⟩ : ∃ nt, (testsL m).length = nt := ⟨_, rfl⟩
  obtain ⟨g, c, rfl⟩ := owns_form (show w8.ownsRow _ _ _ v (testsL m).length _ from hv) (by omega)
  have z8 := hb8.size
  have HDF := Lib.hid (delete_one (testsL m) (p * m + q) g c 112 w7.heap.size #[.pointer (some ⟨w6.heap.size, 0, none⟩)] w8 ho2 (by rw [testsL_len]; have : m * m ≤ 4 * 4 := Nat.mul_le_mul m4 m4; omega) hv z8 (enters_of Tryd.func112 (by kernel_rfl)) (fun i hi w' hb' hz' => by
    have hbb := hb8.trans hb'
    rw [← ho3 i hi]
    exact decide1_any (tget (testsL m) i).1 (tget (testsL m) i).2 p q w6.heap.size w' (by omega) ((hbb.cell (p := ⟨w6.heap.size, 0, none⟩) (by show w6.heap.size < w7.heap.size; omega)).trans HC.out.1) ((hbb.cell (p := ⟨w6.heap.size, 1, none⟩) (by show w6.heap.size < w7.heap.size; omega)).trans HC.out.2.1)))
  obtain ⟨Z, hZ⟩ : ∃ Z, t.others (p, q) = Z := ⟨_, rfl⟩
  have hZe : (testsL m).eraseIdx (p * m + q) = Z := by rw [ho1, ← hZ]; unfold Qt.others; rw [HTE.out]
  have hZl : (testsL m).length - 1 = Z.length := by rw [← hZe, List.length_eraseIdx_of_lt ho2]
  obtain ⟨nz, hnz⟩ : ∃ nz, Z.length = nz := ⟨_, rfl⟩
  rw [hZe, hZl, hnz, hnt] at HDF
  have HNZ := Lib.hid hnz
  have HZ := Lib.hid hZ
  have HB8 := Lib.hid hb8
  rw [hnt]
  clear hv hb8 ho1 ho2 ho3 hZ hZe hZl hnz hpm hqm
  gi_wp2
  refine ⟨trivial, (callsIn_wide.2 HDF.out).mono ?_⟩
  rintro e w9 ⟨⟨rfl, hrow⟩, hb9, hz9⟩
  have HB79 := Lib.hid (HB8.out.trans hb9)
  have HB9 := Lib.hid (bTrans HB7.out HB79.out)
  have HCT9 := Lib.hid (HCT7.out.mono HB79.out)
  have HROW := Lib.hid hrow
  have d1 := (HB79.out.cell (p := ⟨w6.heap.size, 0, none⟩) (by show w6.heap.size < w7.heap.size; omega)).trans HC.out.1
  have d2 := (HB79.out.cell (p := ⟨w6.heap.size, 1, none⟩) (by show w6.heap.size < w7.heap.size; omega)).trans HC.out.2.1
  have d3 := (HB79.out.cell (p := ⟨b, 0, none⟩) (by show b < w7.heap.size; omega)).trans HC.out.2.2.1
  have d4 := (HB79.out.cell (p := ⟨w.heap.size + 1, 0, none⟩) (by show w.heap.size + 1 < w7.heap.size; omega)).trans HC.out.2.2.2
  have HD := Lib.hid (And.intro d1 (And.intro d2 (And.intro d3 d4)))
  clear hrow hb9 d1 d2 d4
  obtain ⟨bz, hbz⟩ : ∃ bz, t.decides Z t.leftL (p, q) law = bz := ⟨_, rfl⟩
  obtain ⟨ps, hps⟩ : ∃ ps, pairsL (fun a b => decide (law < t.F a (p, q)) != decide (law < t.F b (p, q))) t.leftL = ps := ⟨_, rfl⟩
  have htl : ∀ l, t.told l ps = t.decides l t.leftL (p, q) law := fun l => by rw [← hps]; exact told_decides t l t.leftL (p, q) law
  obtain ⟨L, hL⟩ : ∃ L, fewestL Z (fun x => t.told x ps) = L := ⟨_, rfl⟩
  have HL := Lib.hid (show t.decL p q law = L by
    unfold Qt.decL
    simp only [Int.toNat_natCast]
    rw [HZ.out, ← hL]
    congr 1
    funext l
    exact (htl l).symm)
  have HBZ := Lib.hid (show t.told Z ps = bz by rw [htl, hbz])
  have HDEC := Lib.hid (show er = (if bz then 0 else 3) by rw [← HER.out, HZ.out, hbz])
  obtain ⟨np, hnp⟩ : ∃ np, ps.length = np := ⟨_, rfl⟩
  obtain ⟨nl, hnl⟩ : ∃ nl, (if bz then L.length else 0) = nl := ⟨_, rfl⟩
  have HPS := Lib.hid hps
  have HNP := Lib.hid hnp
  have HNL := Lib.hid hnl
  have HLL := Lib.hid hL
  clear hbz htl hL hps hnp hnl
  gi_wp2
  refine wpIn_region_stir (openWide _) 11 [.const (.pointer (some ⟨C2, 0, none⟩)), .const (.slice (some ⟨g, 0, none⟩) nz c), .const (.pointer (some ⟨C2, 0, none⟩)), .const (.func (.func 113) #[] #[.pointer (some ⟨b, 0, none⟩), .pointer (some ⟨w6.heap.size, 0, none⟩), .pointer (some ⟨w.heap.size + 1, 0, none⟩)]), .held (ShapeL np) (fun w v => OwnE prE w 0 v ps),
    .held (FewS nl bz) (FewR bz L), .held (FewS nl bz) (FewR bz L), .held (ShapeL nl) (SliR bz L), .const (.bool bz), .held (ShapeL nl) (SliR bz L), .const (.bool bz)]
    (by kernel_rfl) (by kernel_rfl) rfl ⟨trivial, trivial, trivial, trivial, ownLG _ _ _ _, fewG _ _ _, fewG _ _ _, sliG _ _ _, trivial, sliG _ _ _, trivial, trivial⟩ (crossAll_no _ _ _ _ trivial) ?_
  have bl9 : b < w9.heap.size := by omega
  iterate 4 refine wpStir_const (by go_simp) ?_
  simp only [Act.put, List.setIfInBounds_toArray, List.set_cons_succ, List.set_cons_zero]
  refine wpStir_held rfl (fun w' hb hd => ?_) (fun v hv => ?_)
  · clear hd
    have hb2 := bTrans HB9.out hb
    have zz := hb.size
    have PA := Lib.hid (pairs_any Aw Af cw cf C2 mp s t 113 #[.pointer (some ⟨b, 0, none⟩), .pointer (some ⟨w6.heap.size, 0, none⟩), .pointer (some ⟨w.heap.size + 1, 0, none⟩)] (fun a b => decide (law < t.F a (p, q)) != decide (law < t.F b (p, q))) w' (HCT9.out.mono hb) h64 HBM.out HOK.out.nw (HTB.out.mono hb2) (enters_of Tryd.func113 (by kernel_rfl)) (fun i j hi hj w'' hb' => by
      have hb3 := bTrans hb hb'
      have zz2 := hb'.size
      exact decide2_any Aw Af cw cf C2 mp s b w6.heap.size (w.heap.size + 1) t p q i j law w'' ((HCT9.out.mono hb).mono hb') HOK.out HP.out HQ.out hi hj ((HT.out.mono hb2).mono hb') (by omega) ((hb3.cell (p := ⟨b, 0, none⟩) (by show b < w9.heap.size; omega)).trans HD.out.2.2.1) (by omega) ((hb3.cell (p := ⟨w6.heap.size, 0, none⟩) (by show w6.heap.size < w9.heap.size; omega)).trans HD.out.1) ((hb3.cell (p := ⟨w6.heap.size, 1, none⟩) (by show w6.heap.size < w9.heap.size; omega)).trans HD.out.2.1) (by omega) ((hb3.cell (p := ⟨w.heap.size + 1, 0, none⟩) (by show w.heap.size + 1 < w9.heap.size; omega)).trans HD.out.2.2.2)))
    clear hb2
    go_simp
    refine PA.out.mono ?_
    rintro e w'' ⟨⟨v, rfl, hv⟩, hb'⟩
    rw [HPS.out] at hv
    exact ⟨v, rfl, hb', HNP.out ▸ hv.shape, hv.lower (Nat.zero_le _)⟩
  obtain ⟨Ap, cp, rfl⟩ := hv
  refine wpStir_held rfl (fun w' hb hd => ?_) (fun v hv => ?_)
  · have h2 := hd.1 (by kernel_rfl)
    clear hd
    obtain ⟨A2, c2, e2, r2⟩ := h2.read
    simp only [Value.slice.injEq] at e2
    obtain ⟨rfl, e4, rfl⟩ := e2
    clear e4
    have hfw := fewest_any Aw Af Ap (some ⟨g, 0, none⟩) cw cf cp c C2 mp s t Z ps w' (HCT9.out.mono hb) HOK.out (HZ.out ▸ fun x hx => tests_ok t HOK.out.w0 x (List.mem_filter.1 hx).1) (HPS.out ▸ pairs_ok t _) (by rw [← HZ.out]; unfold Qt.others; refine Nat.le_trans (List.length_filter_le _ _) ?_; rw [HTE.out, testsL_len]; have : m * m ≤ 4 * 4 := Nat.mul_le_mul m4 m4; omega) (by rw [← HPS.out]; have h1 := pairsL_len (fun a b => decide (law < t.F a (p, q)) != decide (law < t.F b (p, q))) t.leftL; have h2 := leftTo_len t t.nw; have h3 := HOK.out.nw; have h4 : t.leftL.length * t.leftL.length ≤ 6 * 6 := Nat.mul_le_mul (by unfold Qt.leftL; omega) (by unfold Qt.leftL; omega); omega) ((HT.out.mono HB9.out).mono hb) (HROW.out.mono hb) r2
    rw [HNZ.out, HNP.out] at hfw
    have HFW := Lib.hid hfw
    clear h2 r2 hfw
    go_simp
    refine HFW.out.mono ?_
    rintro e w'' ⟨⟨ho1, ho2⟩, hb'⟩
    cases bz
    · obtain rfl := ho2 HBZ.out
      exact ⟨_, rfl, hb', ⟨none, 0, by rw [← HNL.out]; rfl⟩, FewR.of fun h => by cases h⟩
    · obtain ⟨A, c, rfl, hl⟩ := ho1 HBZ.out
      rw [HLL.out] at hl
      exact ⟨_, rfl, hb', ⟨A, c, by rw [HLL.out, ← HNL.out]; rfl⟩, FewR.of fun _ => hl⟩
  obtain ⟨A7, c7, rfl⟩ := hv
  simp only [Act.put, List.setIfInBounds_toArray, List.set_cons_succ, List.set_cons_zero]
  refine wpStir_held rfl (fun w' hb hd => ?_) (fun v hv => ?_)
  · have h1 := Lib.hid (hd.1 (by kernel_rfl))
    clear hd
    go_simp
    exact ⟨⟨_, _, rfl⟩, h1.out⟩
  obtain ⟨A8, c8, rfl⟩ := hv
  refine wpStir_held rfl (fun w' hb hd => ?_) (fun v hv => ?_)
  · have h1 := Lib.hid (hd.1 (by kernel_rfl))
    clear hd
    go_simp
    exact ⟨⟨_, _, rfl⟩, SliR.of (FewR.get h1.out)⟩
  obtain ⟨A9, c9, rfl⟩ := hv
  refine wpStir_const (by go_simp) ?_
  simp only [Act.put, List.setIfInBounds_toArray, List.set_cons_succ, List.set_cons_zero]
  refine wpStir_held rfl (fun w' hb hd => ?_) (fun v hv => ?_)
  · have h1 := Lib.hid (hd.1 (by kernel_rfl))
    clear hd
    go_simp
    exact ⟨⟨_, _, rfl⟩, h1.out⟩
  obtain ⟨A11, c11, rfl⟩ := hv
  refine wpStir_const (by go_simp) ?_
  refine wpStir_end (fun w10 hb10 hd => ?_)
  have HLF := Lib.hid (SliR.get hd.1)
  have HBX := Lib.hid (bTrans HB.out (bTrans HB9.out hb10))
  clear hb10
  clear hd
  simp only [List.drop_succ_cons, List.drop_zero]
  simp only [Act.put, List.setIfInBounds_toArray, List.set_cons_succ, List.set_cons_zero]
  cases bz
  · gi_wp2
    refine bodyPost_ret (by simp [results, Tryd.results60]; rfl) rfl ?_
    rw [HL.out, HDEC.out]
    exact ⟨⟨fun h => absurd h (by decide), fun _ => rfl⟩, HBX.out⟩
  · gi_wp2
    refine bodyPost_ret (by simp [results, Tryd.results60]; rfl) rfl ?_
    rw [HL.out, HDEC.out]
    exact ⟨⟨fun _ => ⟨A11, c11, by rw [show L.length = nl from HNL.out]; rfl, HLF.out (by trivial)⟩, fun h => absurd rfl h⟩, HBX.out⟩
theorem decideQ_any (Aw Af : Option Addr) (cw cf : Nat) (t : Qt) (p q law : Int) (w : World) (hs : t.Small) (hT : QAt w Aw Af t) (hB : TabAt w) :
    Calls Tryd.prog 60 #[.agg #[.int .i64 t.wells, .slice Aw t.nw cw, .slice Af t.nf cf], .int .i64 p, .int .i64 q, .int .i64 law] w fun e w' => LstOut w' (t.decErr p q law) (t.decL p q law) e ∧ Below w.heap.size w w' := by
  unfold Qt.decErr
  by_cases hz : t.knowErr (t.wellB p && t.wellB q && inR law 0 99) = 0
  · rw [if_pos hz]
    obtain ⟨ok, hg, _⟩ := knowErr_zero hz
    rw [hg] at hz
    simp only [Bool.and_eq_true] at hg
    obtain ⟨⟨h1, h2⟩, h3⟩ := hg
    have hp := inR_iff.1 ((wellB_ok ok p).symm.trans h1)
    have hq := inR_iff.1 ((wellB_ok ok q).symm.trans h2)
    obtain ⟨i, rfl⟩ : ∃ i : Nat, p = (i : Int) := ⟨p.toNat, by omega⟩
    obtain ⟨j, rfl⟩ : ∃ j : Nat, q = (j : Int) := ⟨q.toNat, by omega⟩
    rw [Int.toNat_natCast, Int.toNat_natCast]
    exact decideQ_ok Aw Af cw cf t i j law w ok hs hT hB (by omega) (by omega) h3 hz
  · rw [if_neg hz]
    refine (decideQ_err Aw Af cw cf t p q law w hs hT hz).mono fun e w' h => ⟨⟨fun h0 => absurd h0 hz, fun _ => h.1⟩, h.2⟩
end Go.Proofs.YtchhodikgllgnaaDoor
/- The statement QuarrelsDecide: the walk. Conditions: what is read fits into memory; the listed table holds what it holds. -/
namespace Go.Proofs.YtchhodikgllgnaaDoor
open Go.RowKit Go.Sort
theorem decErr_ok {t : Qt} {p q law : Int} (h : t.decErr p q law = 0) : t.Ok := by
  unfold Qt.decErr at h
  split at h
  · rename_i h0
    exact (knowErr_zero h0).1
  · rename_i h0
    exact absurd h h0
theorem decL_sub (t : Qt) (p q law : Int) : List.Sublist (t.decL p q law) t.tests := (fewestL_sub _ _).trans (others_sub t _)
theorem decide_len (t : Qt) (p q law : Int) : (lstO (t.decErr p q law) (t.decL p q law)).length ≤ 100000 := by
  unfold lstO
  by_cases h0 : t.decErr p q law = 0
  · rw [if_pos h0]
    have h1 := (decL_sub t p q law).length_le
    have h2 := tests_len (decErr_ok h0)
    omega
  · rw [if_neg h0]
    simp
end Go.Proofs.YtchhodikgllgnaaDoor
/- The statement QuarrelsFewest: the walk. Conditions: what is read fits into memory; the listed table holds what it holds. -/
namespace Go.Proofs.YtchhodikgllgnaaDoor
open Go.RowKit Go.Sort
end Go.Proofs.YtchhodikgllgnaaDoor
/- The walk of alike of the law 05: two towns whose worlds are alike. Conditions: valid towns; the listed table holds what it holds. -/
namespace Go.Proofs.YtchhodikgllgnaaDoor
open Go.RowKit Go.Sort
set_option maxHeartbeats 8000000 in
set_option maxRecDepth 100000 in
theorem alikeS_any (Aw Af Bw Bf : Option Addr) (cw cf dw df : Nat) (t o : Qt) (p q : Nat) (law : Int) (Ad : Option Addr) (nd cd : Nat) (w : World) (hs : t.Small) (hs2 : o.Small) (hT : QAt w Aw Af t) (hQ : QAt w Bw Bf o) (hB : TabAt w) (ha : Alike t o) (hp : (p : Int) < t.wells) (hq : (q : Int) < t.wells) :
    Calls Tryd.prog 65 #[.agg #[.int .i64 t.wells, .slice Aw t.nw cw, .slice Af t.nf cf], .agg #[.int .i64 o.wells, .slice Bw o.nw dw, .slice Bf o.nf df], .agg #[.int .i64 (p : Int), .int .i64 (q : Int), .int .i64 law, .slice Ad nd cd]] w fun e w' => e = .returned (.bool true) ∧ Below w.heap.size w w' := by
  have HT0 := Lib.hid hT
  have HQ0 := Lib.hid hQ
  have HTB0 := Lib.hid hB
  have HD0 := Lib.hid (Below.refl w.heap.size w)
  have HS := Lib.hid hs
  have HSO := Lib.hid hs2
  have HA := Lib.hid ha
  have HP := Lib.hid hp
  have HQQ := Lib.hid hq
  clear hT hQ hB hs hs2 ha hp hq
  go_enter Tryd.func65, Tryd.ntmps65
  go_wp2_with fail
  obtain ⟨nl, hnl⟩ : ∃ n, (lstO (t.knowErr true) (t.fewest t.leftL)).length = n := ⟨_, rfl⟩
  have HNL := Lib.hid hnl
  have HNS := Lib.hid (show (lstO (t.knowErr true) (t.fewest t.leftL)).length ≤ 100000 from fewest_len t)
  clear hnl
  obtain ⟨er2, her2⟩ : ∃ v, t.knowErr true = v := ⟨_, rfl⟩
  have HV2 := Lib.hid her2
  clear her2
  refine (fewestQ_any Aw Af cw cf t _ HS.out (HT0.out.mono (bAlloc (bAlloc (bAlloc (Below.refl _ _) (.cells #[.int .i64 t.wells, .slice Aw t.nw cw, .slice Af t.nf cf] 25)) (.cells #[.int .i64 o.wells, .slice Bw o.nw dw, .slice Bf o.nf df] 25)) (.cells #[.int .i64 (p : Int), .int .i64 (q : Int), .int .i64 law, .slice Ad nd cd] 45))) (HTB0.out.mono (bAlloc (bAlloc (bAlloc (Below.refl _ _) (.cells #[.int .i64 t.wells, .slice Aw t.nw cw, .slice Af t.nf cf] 25)) (.cells #[.int .i64 o.wells, .slice Bw o.nw dw, .slice Bf o.nf df] 25)) (.cells #[.int .i64 (p : Int), .int .i64 (q : Int), .int .i64 law, .slice Ad nd cd] 45)))).mono ?_
  rintro e w1 ⟨ho, hb⟩
  obtain ⟨L1A, L1c, rfl, hrow⟩ := ho.o
  rw [HNL.out]
  have hB1 : Below w.heap.size w w1 := bTrans (bAlloc (bAlloc (bAlloc (Below.refl _ _) (.cells #[.int .i64 t.wells, .slice Aw t.nw cw, .slice Af t.nf cf] 25)) (.cells #[.int .i64 o.wells, .slice Bw o.nw dw, .slice Bf o.nf df] 25)) (.cells #[.int .i64 (p : Int), .int .i64 (q : Int), .int .i64 law, .slice Ad nd cd] 45)) hb
  have HD1 := Lib.hid (bTrans HD0.out hB1)
  have HT1 := Lib.hid (HT0.out.mono hB1)
  have HQ1 := Lib.hid (HQ0.out.mono hB1)
  have HTB1 := Lib.hid (HTB0.out.mono hB1)
  have HL11 := Lib.hid (hrow)
  have T1 := Lib.hid (show TBox w1 w.heap.size 25 #[.int .i64 t.wells, .slice Aw t.nw cw, .slice Af t.nf cf] from by have := ((TBox.new w #[.int .i64 t.wells, .slice Aw t.nw cw, .slice Af t.nf cf] 25).mono (bAlloc (bAlloc (Below.refl _ _) (.cells #[.int .i64 o.wells, .slice Bw o.nw dw, .slice Bf o.nf df] 25)) (.cells #[.int .i64 (p : Int), .int .i64 (q : Int), .int .i64 law, .slice Ad nd cd] 45))).mono hb; simpa using this)
  have O1 := Lib.hid (show TBox w1 (w.heap.size + 1) 25 #[.int .i64 o.wells, .slice Bw o.nw dw, .slice Bf o.nf df] from by have := ((TBox.new (w.alloc (.cells #[.int .i64 t.wells, .slice Aw t.nw cw, .slice Af t.nf cf] 25)) #[.int .i64 o.wells, .slice Bw o.nw dw, .slice Bf o.nf df] 25).mono (bAlloc (Below.refl _ _) (.cells #[.int .i64 (p : Int), .int .i64 (q : Int), .int .i64 law, .slice Ad nd cd] 45))).mono hb; simpa using this)
  have X1 := Lib.hid (show TBox w1 (w.heap.size + 1 + 1) 45 #[.int .i64 (p : Int), .int .i64 (q : Int), .int .i64 law, .slice Ad nd cd] from by have := ((TBox.new ((w.alloc (.cells #[.int .i64 t.wells, .slice Aw t.nw cw, .slice Af t.nf cf] 25)).alloc (.cells #[.int .i64 o.wells, .slice Bw o.nw dw, .slice Bf o.nf df] 25)) #[.int .i64 (p : Int), .int .i64 (q : Int), .int .i64 law, .slice Ad nd cd] 45).mono (Below.refl _ _)).mono hb; simpa using this)
  clear hb hB1 HD0 HT0 HQ0 HTB0
  obtain ⟨T_0, T_1, T_2, T_l⟩ := T1.out.c3
  obtain ⟨O_0, O_1, O_2, O_l⟩ := O1.out.c3
  obtain ⟨X_0, X_1, X_2, X_3, X_l⟩ := X1.out.c4
  clear ho hrow
  rw [HV2.out]
  go_wp2_with fail
  refine ((by have := fewestQ_any Bw Bf dw df o w1 HSO.out HQ1.out HTB1.out; rw [← HA.out.know true, ← HA.out.fewest] at this; exact this : Calls Tryd.prog 22 #[.agg #[.int .i64 o.wells, .slice Bw o.nw dw, .slice Bf o.nf df]] w1 fun e w' => LstOut w' (t.knowErr true) (t.fewest t.leftL) e ∧ Below w1.heap.size w1 w')).mono ?_
  rintro e w2 ⟨ho, hb⟩
  obtain ⟨L2A, L2c, rfl, hrow⟩ := ho.o
  rw [HNL.out]
  have hB2 : Below w1.heap.size w1 w2 := bTrans (Below.refl _ _) hb
  have HD2 := Lib.hid (bTrans HD1.out hB2)
  have HT2 := Lib.hid (HT1.out.mono hB2)
  have HQ2 := Lib.hid (HQ1.out.mono hB2)
  have HTB2 := Lib.hid (HTB1.out.mono hB2)
  have HL12 := Lib.hid (HL11.out.mono hB2)
  have HL22 := Lib.hid (hrow)
  have T2 := Lib.hid (T1.out.mono hB2)
  have O2 := Lib.hid (O1.out.mono hB2)
  have X2 := Lib.hid (X1.out.mono hB2)
  clear hb hB2 HD1 HT1 HQ1 HTB1 HL11 T1 T_0 T_1 T_2 T_l O1 O_0 O_1 O_2 O_l X1 X_0 X_1 X_2 X_3 X_l
  obtain ⟨T_0, T_1, T_2, T_l⟩ := T2.out.c3
  obtain ⟨O_0, O_1, O_2, O_l⟩ := O2.out.c3
  obtain ⟨X_0, X_1, X_2, X_3, X_l⟩ := X2.out.c4
  clear ho hrow
  rw [HV2.out]
  go_wp2_with fail
  obtain ⟨nm, hnm⟩ : ∃ n, (lstO (t.decErr p q law) (t.decL p q law)).length = n := ⟨_, rfl⟩
  have HNM := Lib.hid hnm
  have HNSM := Lib.hid (decide_len t p q law)
  clear hnm
  obtain ⟨er3, her3⟩ : ∃ v, t.decErr p q law = v := ⟨_, rfl⟩
  have HV3 := Lib.hid her3
  clear her3
  have HDE := Lib.hid (HA.out.dec HP.out HQQ.out law)
  refine (decideQ_any Aw Af cw cf t (p : Int) (q : Int) law _ HS.out HT2.out HTB2.out).mono ?_
  rintro e w3 ⟨ho, hb⟩
  obtain ⟨L3A, L3c, rfl, hrow⟩ := ho.o
  rw [HNM.out]
  have hB3 : Below w2.heap.size w2 w3 := bTrans (Below.refl _ _) hb
  have HD3 := Lib.hid (bTrans HD2.out hB3)
  have HT3 := Lib.hid (HT2.out.mono hB3)
  have HQ3 := Lib.hid (HQ2.out.mono hB3)
  have HTB3 := Lib.hid (HTB2.out.mono hB3)
  have HL13 := Lib.hid (HL12.out.mono hB3)
  have HL23 := Lib.hid (HL22.out.mono hB3)
  have HL33 := Lib.hid (hrow)
  have T3 := Lib.hid (T2.out.mono hB3)
  have O3 := Lib.hid (O2.out.mono hB3)
  have X3 := Lib.hid (X2.out.mono hB3)
  clear hb hB3 HD2 HT2 HQ2 HTB2 HL12 HL22 T2 T_0 T_1 T_2 T_l O2 O_0 O_1 O_2 O_l X2 X_0 X_1 X_2 X_3 X_l
  obtain ⟨T_0, T_1, T_2, T_l⟩ := T3.out.c3
  obtain ⟨O_0, O_1, O_2, O_l⟩ := O3.out.c3
  obtain ⟨X_0, X_1, X_2, X_3, X_l⟩ := X3.out.c4
  clear ho hrow
  rw [HV3.out]
  go_wp2_with fail
  refine ((by have := decideQ_any Bw Bf dw df o (p : Int) (q : Int) law w3 HSO.out HQ3.out HTB3.out; rw [← HDE.out.1, ← HDE.out.2] at this; exact this : Calls Tryd.prog 60 #[.agg #[.int .i64 o.wells, .slice Bw o.nw dw, .slice Bf o.nf df], .int .i64 (p : Int), .int .i64 (q : Int), .int .i64 law] w3 fun e w' => LstOut w' (t.decErr p q law) (t.decL p q law) e ∧ Below w3.heap.size w3 w')).mono ?_
  rintro e w4 ⟨ho, hb⟩
  obtain ⟨L4A, L4c, rfl, hrow⟩ := ho.o
  rw [HNM.out]
  have hB4 : Below w3.heap.size w3 w4 := bTrans (Below.refl _ _) hb
  have HD4 := Lib.hid (bTrans HD3.out hB4)
  have HT4 := Lib.hid (HT3.out.mono hB4)
  have HQ4 := Lib.hid (HQ3.out.mono hB4)
  have HTB4 := Lib.hid (HTB3.out.mono hB4)
  have HL14 := Lib.hid (HL13.out.mono hB4)
  have HL24 := Lib.hid (HL23.out.mono hB4)
  have HL34 := Lib.hid (HL33.out.mono hB4)
  have HL44 := Lib.hid (hrow)
  have T4 := Lib.hid (T3.out.mono hB4)
  have O4 := Lib.hid (O3.out.mono hB4)
  have X4 := Lib.hid (X3.out.mono hB4)
  clear hb hB4 HD3 HT3 HQ3 HTB3 HL13 HL23 HL33 T3 T_0 T_1 T_2 T_l O3 O_0 O_1 O_2 O_l X3 X_0 X_1 X_2 X_3 X_l
  obtain ⟨T_0, T_1, T_2, T_l⟩ := T4.out.c3
  obtain ⟨O_0, O_1, O_2, O_l⟩ := O4.out.c3
  obtain ⟨X_0, X_1, X_2, X_3, X_l⟩ := X4.out.c4
  clear ho hrow
  rw [HV3.out]
  go_wp2_with fail
  refine ((by have := sameTests_any L1A L2A L1c L2c _ _ _ HNS.out HNS.out HL14.out HL24.out; rw [HNL.out, decide_eq_true rfl] at this; exact this : Calls Tryd.prog 24 #[.slice L1A nl L1c, .slice L2A nl L2c] w4 fun e w' => e = .returned (.bool true) ∧ Below w4.heap.size w4 w')).mono ?_
  rintro e w5 ⟨rfl, hb⟩
  have hB5 : Below w4.heap.size w4 w5 := bTrans (Below.refl _ _) hb
  have HD5 := Lib.hid (bTrans HD4.out hB5)
  have HT5 := Lib.hid (HT4.out.mono hB5)
  have HQ5 := Lib.hid (HQ4.out.mono hB5)
  have HTB5 := Lib.hid (HTB4.out.mono hB5)
  have HL15 := Lib.hid (HL14.out.mono hB5)
  have HL25 := Lib.hid (HL24.out.mono hB5)
  have HL35 := Lib.hid (HL34.out.mono hB5)
  have HL45 := Lib.hid (HL44.out.mono hB5)
  have T5 := Lib.hid (T4.out.mono hB5)
  have O5 := Lib.hid (O4.out.mono hB5)
  have X5 := Lib.hid (X4.out.mono hB5)
  clear hb hB5 HD4 HT4 HQ4 HTB4 HL14 HL24 HL34 HL44 T4 T_0 T_1 T_2 T_l O4 O_0 O_1 O_2 O_l X4 X_0 X_1 X_2 X_3 X_l
  obtain ⟨T_0, T_1, T_2, T_l⟩ := T5.out.c3
  obtain ⟨O_0, O_1, O_2, O_l⟩ := O5.out.c3
  obtain ⟨X_0, X_1, X_2, X_3, X_l⟩ := X5.out.c4
  go_wp2_with fail
  refine ((by have := sameTests_any L3A L4A L3c L4c _ _ _ HNSM.out HNSM.out HL35.out HL45.out; rw [HNM.out, decide_eq_true rfl] at this; exact this : Calls Tryd.prog 24 #[.slice L3A nm L3c, .slice L4A nm L4c] w5 fun e w' => e = .returned (.bool true) ∧ Below w5.heap.size w5 w')).mono ?_
  rintro e w6 ⟨rfl, hb⟩
  have hB6 : Below w5.heap.size w5 w6 := bTrans (Below.refl _ _) hb
  have HD6 := Lib.hid (bTrans HD5.out hB6)
  have HT6 := Lib.hid (HT5.out.mono hB6)
  have HQ6 := Lib.hid (HQ5.out.mono hB6)
  have HTB6 := Lib.hid (HTB5.out.mono hB6)
  have HL16 := Lib.hid (HL15.out.mono hB6)
  have HL26 := Lib.hid (HL25.out.mono hB6)
  have HL36 := Lib.hid (HL35.out.mono hB6)
  have HL46 := Lib.hid (HL45.out.mono hB6)
  have T6 := Lib.hid (T5.out.mono hB6)
  have O6 := Lib.hid (O5.out.mono hB6)
  have X6 := Lib.hid (X5.out.mono hB6)
  clear hb hB6 HD5 HT5 HQ5 HTB5 HL15 HL25 HL35 HL45 T5 T_0 T_1 T_2 T_l O5 O_0 O_1 O_2 O_l X5 X_0 X_1 X_2 X_3 X_l
  obtain ⟨T_0, T_1, T_2, T_l⟩ := T6.out.c3
  obtain ⟨O_0, O_1, O_2, O_l⟩ := O6.out.c3
  obtain ⟨X_0, X_1, X_2, X_3, X_l⟩ := X6.out.c4
  go_wp2_with fail
  obtain ⟨dv, hdv⟩ : ∃ v, t.depthOut = v := ⟨_, rfl⟩
  have HDV := Lib.hid hdv
  clear hdv
  refine (depthQ_any Aw Af cw cf t _ HS.out HT6.out HTB6.out).mono ?_
  rintro e w7 ⟨rfl, hb⟩
  rw [HDV.out, HV2.out]
  have hB7 : Below w6.heap.size w6 w7 := bTrans (Below.refl _ _) hb
  have HD7 := Lib.hid (bTrans HD6.out hB7)
  have HT7 := Lib.hid (HT6.out.mono hB7)
  have HQ7 := Lib.hid (HQ6.out.mono hB7)
  have HTB7 := Lib.hid (HTB6.out.mono hB7)
  have HL17 := Lib.hid (HL16.out.mono hB7)
  have HL27 := Lib.hid (HL26.out.mono hB7)
  have HL37 := Lib.hid (HL36.out.mono hB7)
  have HL47 := Lib.hid (HL46.out.mono hB7)
  have T7 := Lib.hid (T6.out.mono hB7)
  have O7 := Lib.hid (O6.out.mono hB7)
  have X7 := Lib.hid (X6.out.mono hB7)
  clear hb hB7 HD6 HT6 HQ6 HTB6 HL16 HL26 HL36 HL46 T6 T_0 T_1 T_2 T_l O6 O_0 O_1 O_2 O_l X6 X_0 X_1 X_2 X_3 X_l
  obtain ⟨T_0, T_1, T_2, T_l⟩ := T7.out.c3
  obtain ⟨O_0, O_1, O_2, O_l⟩ := O7.out.c3
  obtain ⟨X_0, X_1, X_2, X_3, X_l⟩ := X7.out.c4
  go_wp2_with fail
  refine (depthQ_any Bw Bf dw df o _ HSO.out HQ7.out HTB7.out).mono ?_
  rintro e w8 ⟨rfl, hb⟩
  rw [← HA.out.depth, ← HA.out.know, HDV.out, HV2.out]
  have hB8 : Below w7.heap.size w7 w8 := bTrans (Below.refl _ _) hb
  have HD8 := Lib.hid (bTrans HD7.out hB8)
  have HT8 := Lib.hid (HT7.out.mono hB8)
  have HQ8 := Lib.hid (HQ7.out.mono hB8)
  have HTB8 := Lib.hid (HTB7.out.mono hB8)
  have HL18 := Lib.hid (HL17.out.mono hB8)
  have HL28 := Lib.hid (HL27.out.mono hB8)
  have HL38 := Lib.hid (HL37.out.mono hB8)
  have HL48 := Lib.hid (HL47.out.mono hB8)
  have T8 := Lib.hid (T7.out.mono hB8)
  have O8 := Lib.hid (O7.out.mono hB8)
  have X8 := Lib.hid (X7.out.mono hB8)
  clear hb hB8 HD7 HT7 HQ7 HTB7 HL17 HL27 HL37 HL47 T7 T_0 T_1 T_2 T_l O7 O_0 O_1 O_2 O_l X7 X_0 X_1 X_2 X_3 X_l
  obtain ⟨T_0, T_1, T_2, T_l⟩ := T8.out.c3
  obtain ⟨O_0, O_1, O_2, O_l⟩ := O8.out.c3
  obtain ⟨X_0, X_1, X_2, X_3, X_l⟩ := X8.out.c4
  go_wp2_with fail
  obtain ⟨q1, hq1⟩ : ∃ v : Nat, t.nextOut.1 = v := ⟨_, rfl⟩
  obtain ⟨q2, hq2⟩ : ∃ v : Nat, t.nextOut.2 = v := ⟨_, rfl⟩
  obtain ⟨en, hen⟩ : ∃ v, t.nextErr = v := ⟨_, rfl⟩
  have HW := Lib.hid (And.intro hq1 (And.intro hq2 hen))
  have hst : sameT (q1 : Int) (q2 : Int) (q1 : Int) (q2 : Int) = true := by simp [sameT]
  clear hq1 hq2 hen
  refine (nextQ_any Aw Af cw cf t _ HS.out HT8.out HTB8.out).mono ?_
  rintro e w9 ⟨rfl, hb⟩
  rw [HW.out.1, HW.out.2.1, HW.out.2.2]
  have hB9 : Below w8.heap.size w8 w9 := bTrans (Below.refl _ _) hb
  have HD9 := Lib.hid (bTrans HD8.out hB9)
  have HT9 := Lib.hid (HT8.out.mono hB9)
  have HQ9 := Lib.hid (HQ8.out.mono hB9)
  have HTB9 := Lib.hid (HTB8.out.mono hB9)
  have HL19 := Lib.hid (HL18.out.mono hB9)
  have HL29 := Lib.hid (HL28.out.mono hB9)
  have HL39 := Lib.hid (HL38.out.mono hB9)
  have HL49 := Lib.hid (HL48.out.mono hB9)
  have T9 := Lib.hid (T8.out.mono hB9)
  have O9 := Lib.hid (O8.out.mono hB9)
  have X9 := Lib.hid (X8.out.mono hB9)
  clear hb hB9 HD8 HT8 HQ8 HTB8 HL18 HL28 HL38 HL48 T8 T_0 T_1 T_2 T_l O8 O_0 O_1 O_2 O_l X8 X_0 X_1 X_2 X_3 X_l
  obtain ⟨T_0, T_1, T_2, T_l⟩ := T9.out.c3
  obtain ⟨O_0, O_1, O_2, O_l⟩ := O9.out.c3
  obtain ⟨X_0, X_1, X_2, X_3, X_l⟩ := X9.out.c4
  go_wp2_with fail
  refine (nextQ_any Bw Bf dw df o _ HSO.out (HQ9.out.mono (bAlloc (Below.refl _ _) (.cells #[.int .i64 (q1 : Int), .int .i64 (q2 : Int)] 27))) (HTB9.out.mono (bAlloc (Below.refl _ _) (.cells #[.int .i64 (q1 : Int), .int .i64 (q2 : Int)] 27)))).mono ?_
  rintro e w10 ⟨rfl, hb⟩
  rw [← HA.out.next.1, ← HA.out.next.2, HW.out.1, HW.out.2.1, HW.out.2.2]
  have hB10 : Below w9.heap.size w9 w10 := bTrans (bAlloc (Below.refl _ _) (.cells #[.int .i64 (q1 : Int), .int .i64 (q2 : Int)] 27)) hb
  have HD10 := Lib.hid (bTrans HD9.out hB10)
  have HT10 := Lib.hid (HT9.out.mono hB10)
  have HQ10 := Lib.hid (HQ9.out.mono hB10)
  have HTB10 := Lib.hid (HTB9.out.mono hB10)
  have HL110 := Lib.hid (HL19.out.mono hB10)
  have HL210 := Lib.hid (HL29.out.mono hB10)
  have HL310 := Lib.hid (HL39.out.mono hB10)
  have HL410 := Lib.hid (HL49.out.mono hB10)
  have T10 := Lib.hid (T9.out.mono hB10)
  have O10 := Lib.hid (O9.out.mono hB10)
  have X10 := Lib.hid (X9.out.mono hB10)
  have S110 := Lib.hid (show TBox w10 w9.heap.size 27 #[.int .i64 (q1 : Int), .int .i64 (q2 : Int)] from by have := ((TBox.new w9 #[.int .i64 (q1 : Int), .int .i64 (q2 : Int)] 27).mono (Below.refl _ _)).mono hb; simpa using this)
  clear hb hB10 HD9 HT9 HQ9 HTB9 HL19 HL29 HL39 HL49 T9 T_0 T_1 T_2 T_l O9 O_0 O_1 O_2 O_l X9 X_0 X_1 X_2 X_3 X_l
  obtain ⟨T_0, T_1, T_2, T_l⟩ := T10.out.c3
  obtain ⟨O_0, O_1, O_2, O_l⟩ := O10.out.c3
  obtain ⟨X_0, X_1, X_2, X_3, X_l⟩ := X10.out.c4
  obtain ⟨S1_0, S1_1, S1_l⟩ := S110.out.c2
  go_wp2_with fail
  go_ret
  exact ⟨rfl, (bTrans HD10.out (bAlloc (Below.refl _ _) (.cells #[.int .i64 (q1 : Int), .int .i64 (q2 : Int)] 27)))⟩
end Go.Proofs.YtchhodikgllgnaaDoor
