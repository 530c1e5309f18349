/- Parts joined. -/
import Derived.Test.YtcdlbpmffkoejaaDoorNQE
set_option linter.unusedSimpArgs false
set_option linter.unusedVariables false
/- A region that draws its order in which one operation stands between the others: all before it are calm and it waits for them, all behind it wait for it and are calm. No program in sight. -/
namespace Go.Proofs.YtcdlbpmffkoejaaDoor
open Go.RowKit Go.Sort
section
variable {P : Program} {ops : Array Oper} {md : Region.Mode}
/-- whether operation j waits for operation i, over others too -/
def ancB (md : Region.Mode) (ops : Array Oper) : Nat → Nat → Nat → Bool
  | 0, j, i => waits md ops j i
  | f + 1, j, i => waits md ops j i || (List.range ops.size).any fun k => decide (i < k) && waits md ops j k && ancB md ops f k i
theorem Shut.anc {listed : Array Bool} (hs : Shut md ops listed) : ∀ (f j i : Nat), listed.getD j false = true → ancB md ops f j i = true → listed.getD i false = true
  | 0, j, i, h1, h2 => hs.shut j i h1 h2
  | f + 1, j, i, h1, h2 => by
    unfold ancB at h2
    rw [Bool.or_eq_true] at h2
    rcases h2 with h2 | h2
    · exact hs.shut j i h1 h2
    · obtain ⟨k, _, h3⟩ := List.any_eq_true.1 h2
      simp only [Bool.and_eq_true] at h3
      exact Shut.anc hs f k i (hs.shut j k h1 h3.1.2) h3.2
theorem anc_listed {listed : Array Bool} (hs : Shut md ops listed) {j : Nat} (hr : j ∈ Region.ready md ops listed) : ∀ (f i : Nat), ancB md ops f j i = true → listed.getD i false = true
  | 0, i, h => waits_listed hr h
  | f + 1, i, h => by
    unfold ancB at h
    rw [Bool.or_eq_true] at h
    rcases h with h2 | h2
    · exact waits_listed hr h2
    · obtain ⟨k, _, h3⟩ := List.any_eq_true.1 h2
      simp only [Bool.and_eq_true] at h3
      exact hs.anc f k i (waits_listed hr h3.1.2) h3.2
def pivotB (md : Region.Mode) (ops : Array Oper) (n : Nat) : Bool := orderedB md ops && decide (n < ops.size) && (List.range ops.size).all fun i => (!decide (i < n) || ancB md ops ops.size n i) && (!decide (n < i) || ancB md ops ops.size i n)
theorem frameOf_slot2 {V V' : Nat → Value} {L M : Nat → Bool} {a : Act} {t : Tmp} {i : Nat}
    (hlow : ∀ k, k < i → dstOf ops k = some t → L k = M k ∧ (L k = true → V k = V' k)) : ∀ k, k ≤ i → (frameOf ops V L a k).tmps[t]? = (frameOf ops V' M a k).tmps[t]?
  | 0, _ => rfl
  | k + 1, h => by
    have ih := frameOf_slot2 (a := a) hlow k (by omega)
    unfold frameOf
    by_cases hd : dstOf ops k = some t
    · obtain ⟨h1, h3⟩ := hlow k (by omega) hd
      by_cases h2 : L k = true
      · rw [if_pos h2, if_pos (h1 ▸ h2), hd, h3 h2]
        exact put_eq (by simp [frameOf_size]) _
      · rw [if_neg h2, if_neg (h1 ▸ h2)]
        exact ih
    · by_cases h1 : L k = true <;> by_cases h2 : M k = true <;> simp only [h1, h2, if_true, if_false, Bool.false_eq_true, put_ne hd] <;> exact ih
theorem Ordered.sees2 (h : Ordered md ops) {V : Nat → Value} {n : Nat} {a : Act} {listed : Array Bool} (hs : Shut md ops listed) {i : Nat} {o : Oper} (ho : ops[i]? = some o) (hr : i ∈ Region.ready md ops listed) :
    ∀ t, t ∈ o.looksAt ops → (frameOf ops V (fun k => listed.getD k false && !decide (k ≤ n)) a ops.size).tmps[t]? = (frameOf ops V (fun k => !decide (k ≤ n)) a i).tmps[t]? := by
  intro t ht
  have hi : i < ops.size := (Array.getElem?_eq_some_iff.1 ho).1
  have hun := listed_both (mem_ready.1 hr).1
  have hlk := looks_of ho ht
  rw [frameOf_slot_up (i := i) (fun k hk hl hd => ?_) ops.size (by omega), frameOf_slot2 (V' := V) (M := fun k => !decide (k ≤ n)) (i := i) (fun k hk hd => ?_) i (Nat.le_refl i)]
  · refine ⟨?_, fun _ => rfl⟩
    rcases h.apart k i hk hi with hw | ⟨h1, _⟩
    · rw [waits_listed hr hw, Bool.true_and]
    · rw [(h1 t hd).1] at hlk; cases hlk
  · have hl1 : listed.getD k false = true := by
      simp only [Bool.and_eq_true] at hl
      exact hl.1
    have hkn : k < ops.size := by
      simp only [dstOf] at hd
      rcases Nat.lt_or_ge k ops.size with h' | h'
      · exact h'
      · simp [Array.getElem?_eq_none h'] at hd
    have hne : i ≠ k := fun e => by subst e; rw [hun] at hl1; cases hl1
    rcases h.apart i k (by omega) hkn with hw | ⟨_, h2⟩
    · have := hs.shut k i hl1 hw; rw [hun] at this; cases this
    · rw [h2 t hd] at hlk; cases hlk
theorem Ordered.frame_put2 (h : Ordered md ops) {V : Nat → Value} {n : Nat} {a : Act} {listed : Array Bool} (hs : Shut md ops listed) {i : Nat} (hi : i < ops.size) (hn : n < i) (hun : listed.getD i true = false) :
    frameOf ops V (fun k => (listed.setIfInBounds i true).getD k false && !decide (k ≤ n)) a ops.size = (frameOf ops V (fun k => listed.getD k false && !decide (k ≤ n)) a ops.size).put (dstOf ops i) (V i) := by
  have hl := listed_both hun
  refine frameOf_put hi (by simp only [hl, Bool.false_and]) (by simp only [set_same (by rw [hs.size]; exact hi) false, Bool.true_and, Bool.not_eq_true', decide_eq_false_iff_not]; omega) (fun k hk => by simp only [getD_set_ne false (Ne.symm hk)]) (fun k d hk hlk0 hd hdk => ?_)
  have hlk : listed.getD k false = true := by
    simp only [Bool.and_eq_true] at hlk0
    exact hlk0.1
  have hkn : k < ops.size := by
    simp only [dstOf] at hdk
    rcases Nat.lt_or_ge k ops.size with h' | h'
    · exact h'
    · simp [Array.getElem?_eq_none h'] at hdk
  rcases h.apart i k hk hkn with hw | ⟨h1, _⟩
  · have := hs.shut k i hlk hw; rw [hl] at this; cases this
  · exact (h1 d hd).2 hdk
theorem frameOf_none {V : Nat → Value} {L : Nat → Bool} {a : Act} (h : ∀ k, L k = false) : ∀ k, frameOf ops V L a k = a
  | 0 => rfl
  | k + 1 => by unfold frameOf; rw [h k]; exact frameOf_none h k
theorem wpOp_at {Q : Exit → Act → World → Prop} {K : Act → World → Prop} {i : Nat} {o : Oper} {a : Act} {w : World} (ho : ops[i]? = some o) (hw : Region.wanted o (yielded ops a.tmps) = true) (h : o.wp P a w K Q) : wpOp P ops Q i K a w := by
  unfold wpOp
  simp only [ho, hw, if_true]
  exact .inl h
theorem wp_region_pivot {id : Nat} {Q : Exit → Act → World → Prop} {a : Act} {w : World} {l : List Oper} {o : Oper} (n : Nat) (hm : P.follows .mixedOrders = true) (hB : pivotB .any l.toArray n = true) (ho : l[n]? = some o)
    (h : wpCalm P l.toArray w (fun k => decide (n ≤ k)) (fun a' => ∀ w', Below w.heap.size w w' → wpOp P l.toArray Q n (fun a1 w1 => wpCalm P l.toArray w1 (fun k => decide (k ≤ n)) (fun a3 => ∀ w3, Below w1.heap.size w1 w3 → Q .normal a3 w3) 0 l a1) a' w') 0 l a) : (Code.region id l.toArray true).wp P Q a w := by
  unfold pivotB at hB
  simp only [Bool.and_eq_true, decide_eq_true_eq, List.all_eq_true, List.mem_range, Bool.or_eq_true, Bool.not_eq_true', decide_eq_false_iff_not] at hB
  obtain ⟨⟨hord, hsz⟩, hall⟩ := hB
  have H := ordered_of hord
  have hon : l.toArray[n]? = some o := by simpa using ho
  have hpre : ∀ i, i < n → ancB .any l.toArray l.toArray.size n i = true := fun i hi => ((hall i (by omega)).1).resolve_left (by omega)
  have hsuf : ∀ i, n < i → i < l.toArray.size → ancB .any l.toArray l.toArray.size i n = true := fun i hi hs => ((hall i hs).2).resolve_left (by omega)
  obtain ⟨V, _, hval, hQ⟩ := wpCalm_values a l 0 (fun _ => undef) (fun j => by simp) h
  refine wp_region_any hm ?_
  refine wpAny_inv (fun listed a' w' => (listed.getD n true = false → a' = frameOf l.toArray V (fun k => listed.getD k false) a l.toArray.size ∧ Below w.heap.size w w') ∧
    (listed.getD n true = true → ∃ (a1 : Act) (w1 : World) (V2 : Nat → Value), (∀ j o, 0 ≤ j → j < 0 + l.length → l.toArray[j]? = some o → decide (j ≤ n) = false → CalmAt P l.toArray w1 o (frameOf l.toArray V2 (fun k => !decide (k ≤ n)) a1 j) (V2 j)) ∧
      (∀ w3, Below w1.heap.size w1 w3 → Q .normal (frameOf l.toArray V2 (fun k => !decide (k ≤ n)) a1 (0 + l.length)) w3) ∧ a' = frameOf l.toArray V2 (fun k => listed.getD k false && !decide (k ≤ n)) a1 l.toArray.size ∧ Below w1.heap.size w1 w')) ?_ ?_ _ _ _ _ (left_le _ _) Shut.none ⟨fun _ => ⟨?_, (Below.refl _ _).drew⟩, fun hn => ?_⟩
  · intro listed a' w' i hs hI hr
    obtain ⟨hun, oi, hoi, _⟩ := mem_ready.1 hr
    have hi : i < l.toArray.size := (Array.getElem?_eq_some_iff.1 hoi).1
    rcases Nat.lt_trichotomy i n with hin | hin | hin
    · -- before
      have hn : listed.getD n true = false := by
        cases hn : listed.getD n true with
        | false => rfl
        | true =>
          have hnl : listed.getD n false = true := by
            have : n < listed.size := by rw [hs.size]; omega
            simp [this] at hn ⊢; exact hn
          have := hs.anc _ n i hnl (hpre i hin)
          rw [listed_both hun] at this; cases this
      obtain ⟨rfl, hb⟩ := hI.1 hn
      refine CalmAt.wpOp hoi (fun cs b => Region.noSelect_spec H.sel i oi cs b hoi) (hval i oi (Nat.zero_le _) (by simpa using hi) hoi (by simp; omega)) hb (H.sees hs hoi hr (fun k hk hk2 d hd => ?_) (fun _ _ => rfl)) (fun w'' hb' => ⟨fun hn' => ⟨?_, bTrans hb hb'⟩, fun hn' => ?_⟩)
      · simp at hk2; omega
      · have e1 : dstOf l.toArray i = oi.dst := by simp [dstOf, hoi]
        rw [H.frame_put hs hi hun, e1]
      · rw [getD_set_ne true (by omega)] at hn'
        rw [hn] at hn'; cases hn'
    · -- the pivot
      subst hin
      obtain ⟨rfl, hb⟩ := hI.1 hun
      obtain rfl : o = oi := Option.some.inj (hon.symm.trans hoi)
      have hfr : frameOf l.toArray V (fun k => listed.getD k false) a l.toArray.size = frameOf l.toArray V (fun k => !decide (i ≤ k)) a (0 + l.length) := by
        have hsz' : l.toArray.size = 0 + l.length := by simp
        rw [← hsz']
        refine frameOf_congr _ (fun j hj => ⟨?_, fun _ => rfl⟩)
        by_cases e : i ≤ j
        · simp only [e, decide_true, Bool.not_true]
          rcases Nat.eq_or_lt_of_le e with rfl | e
          · exact listed_both hun
          · cases hlj : listed.getD j false with
            | false => rfl
            | true =>
              have := hs.anc _ j i hlj (hsuf j e hj)
              rw [listed_both hun] at this; cases this
        · simp only [e, decide_false, Bool.not_false]
          exact anc_listed hs hr _ j (hpre j (by omega))
      have hq := hQ w' hb
      rw [← hfr] at hq
      have hset : (listed.setIfInBounds i true).getD i true = true := set_same (by rw [hs.size]; exact hi) true
      refine wpOp_mono (fun a1 w1 h1 => ⟨fun e => (by rw [hset] at e; cases e), fun _ => ?_⟩) hq
      have h0 : ∀ V0 : Nat → Value, frameOf l.toArray V0 (fun j => !decide (j ≤ i)) a1 0 = a1 := fun _ => rfl
      obtain ⟨V2, _, hval2, hQ2⟩ := wpCalm_values a1 l 0 (fun _ => undef) (fun j => by simp) h1
      refine ⟨a1, w1, V2, hval2, hQ2, ?_, Below.refl _ _⟩
      refine (frameOf_none (fun k => ?_) _).symm
      by_cases e : k ≤ i
      · simp [e]
      · rw [getD_set_ne false (by omega)]
        cases hlj : listed.getD k false with
        | false => rfl
        | true =>
          have hks : k < l.toArray.size := by
            rcases Nat.lt_or_ge k l.toArray.size with h' | h'
            · exact h'
            · have : listed.size ≤ k := by rw [hs.size]; exact h'
              simp [Array.getD, Nat.not_lt.2 this] at hlj
          have := hs.anc _ k i hlj (hsuf k (by omega) hks)
          rw [listed_both hun] at this; cases this
    · -- behind
      have hn : listed.getD n true = true := by
        have h1 := anc_listed hs hr _ n (hsuf i hin hi)
        have : n < listed.size := by rw [hs.size]; omega
        simp [this] at h1 ⊢; exact h1
      obtain ⟨a1, w1, V2, hval2, hQ2, rfl, hb⟩ := hI.2 hn
      refine CalmAt.wpOp hoi (fun cs b => Region.noSelect_spec H.sel i oi cs b hoi) (hval2 i oi (Nat.zero_le _) (by simpa using hi) hoi (by simp; omega)) hb (H.sees2 hs hoi hr) (fun w'' hb' => ⟨fun hn' => ?_, fun _ => ⟨a1, w1, V2, hval2, hQ2, ?_, bTrans hb hb'⟩⟩)
      · rw [getD_set_ne true (by omega)] at hn'
        rw [hn] at hn'; cases hn'
      · have e1 : dstOf l.toArray i = oi.dst := by simp [dstOf, hoi]
        rw [H.frame_put2 hs hi hin hun, e1]
  · intro listed a' w' hs hI hr
    have hA := H.all hs hr
    have hn : listed.getD n true = true := by
      have := hA n hsz
      have hlt : n < listed.size := by rw [hs.size]; omega
      simp [hlt] at this ⊢; exact this
    obtain ⟨a1, w1, V2, _, hQ2, rfl, hb⟩ := hI.2 hn
    have := hQ2 w' hb
    have hsz' : l.toArray.size = 0 + l.length := by simp
    rw [← hsz'] at this
    rw [frameOf_congr (M := fun k => !decide (k ≤ n)) (V' := V2) _ (fun j hj => ⟨by rw [hA j hj, Bool.true_and], fun _ => rfl⟩)]
    exact this
  · refine (frameOf_none (fun k => ?_) _).symm
    rcases Nat.lt_or_ge k l.length with h' | h' <;> simp [h']
  · have : n < l.toArray.size := by omega
    simp at this
    simp [this] at hn
/-- the same, its parts apart: the continuation is a letter in each of them -/
theorem wp_region_call {id : Nat} {Q : Exit → Act → World → Prop} {a : Act} {w : World} {l : List Oper} {o : Oper} (n : Nat) (R : Value → World → Prop) (hm : P.follows .mixedOrders = true) (hB : pivotB .any l.toArray n = true) (ho : l[n]? = some o)
    (h : ∃ A1 : Act, (∀ K : Act → Prop, K A1 → wpCalm P l.toArray w (fun k => decide (n ≤ k)) K 0 l a) ∧ Region.wanted o (yielded l.toArray A1.tmps) = true ∧
      (∀ w', Below w.heap.size w w' → ∀ (K : Act → World → Prop) (Q' : Exit → Act → World → Prop), (∀ v w2, R v w2 → K (A1.put o.dst v) w2) → o.wp P A1 w' K Q') ∧
      ∀ v w2, R v w2 → ∃ A3 : Act, (∀ K : Act → Prop, K A3 → wpCalm P l.toArray w2 (fun k => decide (k ≤ n)) K 0 l (A1.put o.dst v)) ∧ ∀ w3, Below w2.heap.size w2 w3 → Q .normal A3 w3) : (Code.region id l.toArray true).wp P Q a w := by
  obtain ⟨A1, h1, hw, h2, h3⟩ := h
  refine wp_region_pivot n hm hB ho (h1 _ fun w' hb => ?_)
  refine wpOp_at (by simpa using ho) hw (h2 w' hb _ _ fun v w2 hr => ?_)
  obtain ⟨A3, ha, hq⟩ := h3 v w2 hr
  exact ha _ hq
end
theorem newer_of {P : Program} {f : Nat} {args : Array Value} {w : World} {v : Value} (h : Calls P f args w fun e w' => e = .returned v ∧ Below w.heap.size w w') : Calls P f args w fun e w' => e = .returned v ∧ Newer w w' := h
/-- the ways of a guard -/
theorem two_ways (b1 b2 : Bool) : b1 = false ∨ (b1 = true ∧ b2 = false) ∨ (b1 = true ∧ b2 = true) := by cases b1 <;> cases b2 <;> simp
theorem three_ways (b1 b2 b3 : Bool) : b1 = false ∨ (b1 = true ∧ b2 = false) ∨ (b1 = true ∧ b2 = true ∧ b3 = false) ∨ (b1 = true ∧ b2 = true ∧ b3 = true) := by cases b1 <;> cases b2 <;> cases b3 <;> simp
end Go.Proofs.YtcdlbpmffkoejaaDoor
/- Walks of the package quarrels: isLaw, Harms. Conditions: lengths are Go's; the listed table holds what it holds. -/
namespace Go.Proofs.YtcdlbpmffkoejaaDoor
open Go.RowKit Go.Sort
theorem isLawQ_any (n : Int) (w : World) : Calls Tryd.prog 33 #[.int .i64 n] w fun e w' => e = .returned (.bool (inR n 0 99)) ∧ Below w.heap.size w w' := by
  go_enter Tryd.func33, Tryd.ntmps33
  go_wp2_with fail
  refine (withinQ_b _ _ _ _ _ rfl).mono ?_
  rintro e w' ⟨rfl, rfl⟩
  go_wp2_with fail
  go_ret
  exact ⟨rfl, Below.refl _ _⟩
theorem AskOut.ret {w : World} {base : Nat} {Aw Af : Option Addr} {cw cf : Nat} {t : Qt} {er : Int} {e : Ending} (h : AskOut w base Aw Af cw cf t er e) : ∃ v, e = .returned v := by
  by_cases he : er = 0
  · obtain ⟨C, mp, h1, _⟩ := h.2 he
    exact ⟨_, h1⟩
  · exact ⟨_, h.1 he⟩
theorem AskOut.lower {w : World} {base base' : Nat} {Aw Af : Option Addr} {cw cf : Nat} {t : Qt} {er : Int} {e : Ending} (h : AskOut w base Aw Af cw cf t er e) (hb : base' ≤ base) : AskOut w base' Aw Af cw cf t er e :=
  ⟨h.1, fun he => by
    obtain ⟨C, mp, h1, h2, h3, h4, h5⟩ := h.2 he
    exact ⟨C, mp, h1, h2, Nat.le_trans hb h3, h4, Nat.le_trans hb h5⟩⟩
set_option maxHeartbeats 2000000 in
set_option maxRecDepth 100000 in
theorem harmsQ_any (Aw Af : Option Addr) (cw cf : Nat) (t : Qt) (p q law : Int) (w : World) (hs : t.Small) (hT : QAt w Aw Af t) (hB : TabAt w) :
    Calls Tryd.prog 17 #[.agg #[.int .i64 t.wells, .slice Aw t.nw cw, .slice Af t.nf cf], .int .i64 p, .int .i64 q, .int .i64 law] w fun e w' => e = .returned (.tuple #[.int .i64 (if t.knowErr (t.wellB p && t.wellB q && inR law 0 99) = 0 then harmK (t.between p.toNat q.toNat) law else 0), .int .i64 (t.knowErr (t.wellB p && t.wellB q && inR law 0 99))]) ∧ Below w.heap.size w w' := by
  have hb0 := bAlloc (Below.refl w.heap.size w) (.cells #[.int .i64 t.wells, .slice Aw t.nw cw, .slice Af t.nf cf] 25)
  have HT := Lib.hid (hT.mono hb0)
  have HTB := Lib.hid (hB.mono hb0)
  have HB := Lib.hid hb0
  clear hT hb0 hB
  obtain ⟨b1, h1⟩ : ∃ b, t.wellB p = b := ⟨_, rfl⟩
  obtain ⟨b2, h2⟩ : ∃ b, t.wellB q = b := ⟨_, rfl⟩
  obtain ⟨b3, h3⟩ : ∃ b, inR law 0 99 = b := ⟨_, rfl⟩
  have HC1 := Lib.hid (fun w => h1 ▸ isWellQ_any Aw Af cw cf t p w : ∀ w : World, Calls Tryd.prog 25 #[.agg #[.int .i64 t.wells, .slice Aw t.nw cw, .slice Af t.nf cf], .int .i64 p] w fun e w' => e = .returned (.bool b1) ∧ Below w.heap.size w w')
  have HC2 := Lib.hid (fun w => h2 ▸ isWellQ_any Aw Af cw cf t q w : ∀ w : World, Calls Tryd.prog 25 #[.agg #[.int .i64 t.wells, .slice Aw t.nw cw, .slice Af t.nf cf], .int .i64 q] w fun e w' => e = .returned (.bool b2) ∧ Below w.heap.size w w')
  have HC3 := Lib.hid (fun w => h3 ▸ isLawQ_any law w : ∀ w : World, Calls Tryd.prog 33 #[.int .i64 law] w fun e w' => e = .returned (.bool b3) ∧ Below w.heap.size w w')
  obtain ⟨bb, hbb⟩ : ∃ bb, (b1 && b2 && b3) = bb := ⟨_, rfl⟩
  obtain ⟨er, her⟩ : ∃ er, t.knowErr bb = er := ⟨_, rfl⟩
  have HCO := Lib.hid (fun (w' : World) (hb : Below (w.alloc (.cells #[.int .i64 t.wells, .slice Aw t.nw cw, .slice Af t.nf cf] 25)).heap.size (w.alloc (.cells #[.int .i64 t.wells, .slice Aw t.nw cw, .slice Af t.nf cf] 25)) w') => ((openQ_any Aw Af cw cf t bb w' hs (HT.out.mono hb)).mono fun e w'' h => ⟨(her ▸ h.1).lower hb.size, h.2⟩ : Calls Tryd.prog 23 #[.agg #[.int .i64 t.wells, .slice Aw t.nw cw, .slice Af t.nf cf], .bool bb] w' fun e w'' => AskOut w'' (w.alloc (.cells #[.int .i64 t.wells, .slice Aw t.nw cw, .slice Af t.nf cf] 25)).heap.size Aw Af cw cf t er e ∧ Below w'.heap.size w' w''))
  have HE := Lib.hid (show t.knowErr (t.wellB p && t.wellB q && inR law 0 99) = er by rw [h1, h2, h3, hbb, her])
  rw [HE.out]
  have HKE := Lib.hid her
  have HG := Lib.hid hbb
  have HW1 := Lib.hid h1
  have HW2 := Lib.hid h2
  clear h1 h2 h3 her hbb HE
  by_cases he : er = 0
  · subst he
    obtain ⟨ok, rfl, hne⟩ := knowErr_zero HKE.out
    have hg := HG.out
    simp only [Bool.and_eq_true] at hg
    obtain ⟨⟨rfl, rfl⟩, rfl⟩ := hg
    have hp := inR_iff.1 ((wellB_ok ok p).symm.trans HW1.out)
    have hq := inR_iff.1 ((wellB_ok ok q).symm.trans HW2.out)
    obtain ⟨i, rfl⟩ : ∃ i : Nat, p = (i : Int) := ⟨p.toNat, by omega⟩
    obtain ⟨j, rfl⟩ : ∃ j : Nat, q = (j : Int) := ⟨q.toNat, by omega⟩
    have HP := Lib.hid (show (i : Int) < t.wells by omega)
    have HQ := Lib.hid (show (j : Int) < t.wells by omega)
    have HOK := Lib.hid ok
    rw [if_pos rfl, Int.toNat_natCast, Int.toNat_natCast]
    clear hp hq hne ok
    go_enter Tryd.func17, Tryd.ntmps17
    go_wp2_with fail
    refine wp_region_call 13 (fun v w2 => AskOut w2 (w.alloc (.cells #[.int .i64 t.wells, .slice Aw t.nw cw, .slice Af t.nf cf] 25)).heap.size Aw Af cw cf t 0 (.returned v) ∧ Below (w.alloc (.cells #[.int .i64 t.wells, .slice Aw t.nw cw, .slice Af t.nf cf] 25)).heap.size (w.alloc (.cells #[.int .i64 t.wells, .slice Aw t.nw cw, .slice Af t.nf cf] 25)) w2) (by kernel_rfl) (by decide +kernel) rfl ?_
    apply Exists.intro
    refine ⟨fun K hK => ?_, ?_, fun w1 hb1 K Q' hK => ?_, ?_⟩
    · skip
      repeat (first | (refine wpCalm_skip rfl ?_) | (refine wpCalm_step rfl (fun K hK => ?_); go_simp; (first | (refine hK _ ?_; clear hK K) | (apply Exists.intro; refine ⟨fun _ => ?_, hK _ ?_⟩; ((first | (go_at_call 25; with_reducible exact newer_of (HC1.out _)) | (go_at_call 25; with_reducible exact newer_of (HC2.out _)) | (go_at_call 33; with_reducible exact newer_of (HC3.out _)))); clear hK K))))
      refine wpCalm_nil ?_
      exact hK
    · rfl
    · go_simp
      refine (HCO.out w1 hb1).mono ?_
      rintro e w2 ⟨ho, hb2⟩
      obtain ⟨v, rfl⟩ := AskOut.ret ho
      exact hK v w2 ⟨ho, bTrans hb1 hb2⟩
    rintro v w2 ⟨ho, hb2⟩
    obtain ⟨C, mp, e1, hc, _⟩ := ho.2 rfl
    obtain rfl := Ending.returned.inj e1
    have HCT := Lib.hid hc
    have HB2 := Lib.hid hb2
    clear ho hb2 hc e1
    apply Exists.intro
    refine ⟨fun K hK => ?_, fun w3 hb3 => ?_⟩
    · skip
      repeat (first | (refine wpCalm_skip rfl ?_) | (refine wpCalm_step rfl (fun K hK => ?_); go_simp; (first | (refine hK _ ?_; clear hK K) | (apply Exists.intro; refine ⟨fun _ => ?_, hK _ ?_⟩; (fail); clear hK K))))
      refine wpCalm_nil ?_
      exact hK
    have HC3' := Lib.hid (HCT.out.mono hb3)
    have HB3 := Lib.hid (bTrans HB2.out hb3)
    clear hb3
    go_wp2_with fail
    refine (harmsC_any Aw Af cw cf C mp _ t i j law w3 HC3'.out (mask_64 t HOK.out.nw) (bits_mask t HOK.out.nw) HOK.out HP.out HQ.out (HT.out.mono HB3.out) (HTB.out.mono HB3.out)).mono ?_
    rintro e w4 ⟨rfl, hb4⟩
    go_wp2_with fail
    go_ret2
    exact ⟨rfl, bTrans HB.out (bTrans HB3.out hb4)⟩
  · have g0 : (er != 0) = true := by simp [he]
    have HNZ := Lib.hid he
    rw [if_neg he]
    clear he
    go_enter Tryd.func17, Tryd.ntmps17
    go_wp2_with fail
    rcases three_ways b1 b2 b3 with rfl | ⟨rfl, rfl⟩ | ⟨rfl, rfl, rfl⟩ | ⟨rfl, rfl, rfl⟩
    all_goals
      obtain rfl := HG.out
      refine wp_region_call 13 (fun v w2 => AskOut w2 (w.alloc (.cells #[.int .i64 t.wells, .slice Aw t.nw cw, .slice Af t.nf cf] 25)).heap.size Aw Af cw cf t er (.returned v) ∧ Below (w.alloc (.cells #[.int .i64 t.wells, .slice Aw t.nw cw, .slice Af t.nf cf] 25)).heap.size (w.alloc (.cells #[.int .i64 t.wells, .slice Aw t.nw cw, .slice Af t.nf cf] 25)) w2) (by kernel_rfl) (by decide +kernel) rfl ?_
      apply Exists.intro
      refine ⟨fun K hK => ?_, ?_, fun w1 hb1 K Q' hK => ?_, ?_⟩
      · skip
        repeat (first | (refine wpCalm_skip rfl ?_) | (refine wpCalm_step rfl (fun K hK => ?_); go_simp; (first | (refine hK _ ?_; clear hK K) | (apply Exists.intro; refine ⟨fun _ => ?_, hK _ ?_⟩; ((first | (go_at_call 25; with_reducible exact newer_of (HC1.out _)) | (go_at_call 25; with_reducible exact newer_of (HC2.out _)) | (go_at_call 33; with_reducible exact newer_of (HC3.out _)))); clear hK K))))
        refine wpCalm_nil ?_
        exact hK
      · rfl
      · go_simp
        refine (HCO.out w1 hb1).mono ?_
        rintro e w2 ⟨ho, hb2⟩
        obtain ⟨v, rfl⟩ := AskOut.ret ho
        exact hK v w2 ⟨ho, bTrans hb1 hb2⟩
      rintro v w2 ⟨ho, hb2⟩
      obtain rfl := Ending.returned.inj (ho.1 HNZ.out)
      have HB2 := Lib.hid hb2
      clear ho hb2
      apply Exists.intro
      refine ⟨fun K hK => ?_, fun w3 hb3 => ?_⟩
      · skip
        repeat (first | (refine wpCalm_skip rfl ?_) | (refine wpCalm_step rfl (fun K hK => ?_); go_simp; (first | (refine hK _ ?_; clear hK K) | (apply Exists.intro; refine ⟨fun _ => ?_, hK _ ?_⟩; (fail); clear hK K))))
        refine wpCalm_nil ?_
        exact hK
      have HB3 := Lib.hid (bTrans HB2.out hb3)
      clear hb3
      go_wp2_with fail
      go_ret2
      exact ⟨rfl, bTrans HB.out HB3.out⟩
end Go.Proofs.YtcdlbpmffkoejaaDoor
/- Slices of the call's own, whatever their elements, gone on with one by one. No condition. -/
namespace Go.Proofs.YtcdlbpmffkoejaaDoor
open Go.RowKit Go.Sort
/-- how an element lies in memory -/
structure Elem (α : Type) where
  enc : α → List Value
  size : Nat
  ty : TypeId
  sl : TypeId
  z : Value
  bytes : Nat
structure Elem.Good {α : Type} (E : Elem α) : Prop where
  info : (Tryd.prog.info? E.ty).map (fun i => (i.zero, i.size, i.bytes)) = some (some E.z, E.size, E.bytes)
  und : Tryd.prog.underlying E.sl = some (.slice E.ty)
  zs : E.z.cells.size = E.size
  pos : 0 < E.size
  len : ∀ x, (E.enc x).length = E.size
  one : ∀ x, ∀ u ∈ E.enc x, u.oneCell' = true
  by_ : E.bytes ≤ 1000000
def Elem.cells {α : Type} (E : Elem α) (l : List α) : List Value := l.flatMap E.enc
theorem Elem.cells_len {α : Type} {E : Elem α} (g : E.Good) : ∀ l : List α, (E.cells l).length = l.length * E.size
  | [] => by simp [Elem.cells]
  | x :: l => by
    have ih := Elem.cells_len g l
    unfold Elem.cells at ih ⊢
    rw [List.flatMap_cons, List.length_append, g.len, ih, List.length_cons, Nat.succ_mul, Nat.add_comm]
theorem Elem.cells_get {α : Type} {E : Elem α} (g : E.Good) : ∀ {l : List α} {j : Nat} {x : α} (i : Nat), l[j]? = some x → i < E.size → (E.cells l)[j * E.size + i]? = (E.enc x)[i]?
  | [], j, x, i, h, _ => by simp at h
  | y :: l, 0, x, i, h, hi => by
    obtain rfl : y = x := by simpa using h
    unfold Elem.cells
    rw [List.flatMap_cons, Nat.zero_mul, Nat.zero_add, List.getElem?_append_left (by rw [g.len]; exact hi)]
  | y :: l, j + 1, x, i, h, hi => by
    have ih := Elem.cells_get g (l := l) (j := j) (x := x) i (by simpa using h) hi
    unfold Elem.cells at ih ⊢
    rw [List.flatMap_cons, List.getElem?_append_right (by rw [g.len, Nat.succ_mul]; omega), g.len, Nat.succ_mul, show j * E.size + E.size + i - E.size = j * E.size + i by omega]
    exact ih
/-- a slice of the call's own that holds a list -/
def OwnE {α : Type} (E : Elem α) (w : World) (base : Nat) (v : Value) (l : List α) : Prop := w.ownsRow base E.ty E.size v l.length (E.cells l)
section
variable {α : Type} {E : Elem α} {w w' : World} {base : Nat} {v : Value} {l : List α}
theorem OwnE.nil (E : Elem α) (w : World) (base : Nat) : OwnE E w base (.slice none 0 0) [] := World.ownsRow_nil _ _ _ _
theorem OwnE.mono (h : OwnE E w base v l) (hb : Below w.heap.size w w') : OwnE E w' base v l := owns_below h hb
theorem OwnE.lower {base' : Nat} (h : OwnE E w base v l) (hb : base' ≤ base) : OwnE E w base' v l := owns_lower h hb
/-- a slice that reads as a list -/
def SliceE (E : Elem α) (w : World) (v : Value) (l : List α) : Prop := ∃ A c, v = .slice A l.length c ∧ RowAt w A (E.cells l)
theorem SliceE.mono (h : SliceE E w v l) (hb : Below w.heap.size w w') : SliceE E w' v l := by
  obtain ⟨A, c, e, h⟩ := h
  exact ⟨A, c, e, h.mono hb⟩
theorem OwnE.read (h : OwnE E w base v l) : SliceE E w v l := by
  rcases Nat.eq_zero_or_pos l.length with h0 | h0
  · obtain rfl := List.eq_nil_of_length_eq_zero h0
    rcases h.2 with ⟨rfl, _⟩ | ⟨g, cap, cur, rfl, _⟩
    · exact ⟨_, _, rfl, .inl rfl⟩
    · exact ⟨_, _, rfl, .inl rfl⟩
  · obtain ⟨A, c, e, hr⟩ := AtHand.row (N := base) (.inr ⟨h0, h⟩)
    exact ⟨A, c, e, hr⟩
theorem RowAt.elem (g : E.Good) {A : Option Addr} (h : RowAt w A (E.cells l)) {j : Nat} {x : α} (hj : l[j]? = some x) : ∃ b o, A = some ⟨b, o, none⟩ ∧ b < w.heap.size ∧ ∀ i u, (E.enc x)[i]? = some u → w.cell? ⟨b, o + (j * E.size + i), none⟩ = some u := by
  have hget := fun i (hi : i < E.size) => Elem.cells_get g (l := l) (j := j) (x := x) i hj hi
  rcases h with h | ⟨b, o, rfl, hlt, hc⟩
  · have h1 := hget 0 g.pos
    rw [h] at h1
    have : (E.enc x).length = E.size := g.len x
    have h2 : (E.enc x)[0]? = some ((E.enc x)[0]'(by rw [this]; exact g.pos)) := List.getElem?_eq_getElem _
    rw [h2] at h1
    simp at h1
  · refine ⟨b, o, rfl, hlt, fun i u hu => hc _ u ?_⟩
    have hi : i < (E.enc x).length := by
      rcases Nat.lt_or_ge i (E.enc x).length with h | h
      · exact h
      · rw [List.getElem?_eq_none h] at hu; cases hu
    rw [hget i (by rw [← g.len x]; exact hi)]
    exact hu
/-- 'append(out, x)' -/
theorem wpList_snocE (g : E.Good) (w : World) {ops : Array Oper} {rest : List Oper} {o : Oper} {a : Act} {Q : Exit → Act → World → Prop} (hg : o.guard = none) (s x : Operand) (hop : o.op = Op.call { callee := Callee.builtin Builtin.append, args := #[s, x], argTypes := #[E.sl, E.sl] })
    (base : Nat) (v : Value) (l : List α) (y : α) (hs : a.eval s = v) (hown : OwnE E w base v l) (b : Nat) (hx : a.eval x = .slice (some ⟨b, 0, none⟩) 1 1) (hc : ∀ i u, (E.enc y)[i]? = some u → w.cell? ⟨b, i, none⟩ = some u) (hlen : l.length ≤ 100000) (hbase : base ≤ w.heap.size)
    (h : ∀ v' w', OwnE E w' base v' (l ++ [y]) → (∀ b0 W, b0 ≤ base → Below b0 W w → Below b0 W w') → w.grownBy w' v.ownBlock → v' ≠ .slice none 0 0 → wpList Tryd.prog ops Q rest (a.put o.dst v') w') : wpList Tryd.prog ops Q (o :: rest) a w := by
  obtain ⟨i0, hi, iz0, iz1, iz2⟩ := info_parts g.info
  refine wpList_append_own w hg s x E.sl hop base E.ty i0 E.z E.size E.bytes g.und hi iz0 iz1 iz2 g.zs g.pos v l.length (E.cells l) hs hown ⟨b, 0, none⟩ 1 1 (E.enc y) hx (by rw [g.len, Nat.one_mul]) (fun j u hj => ?_) (fun u hu => g.one y u hu) (by unfold maxLen; omega) (by have := g.by_; exact Nat.le_trans (Nat.mul_le_mul (show l.length + 1 ≤ 100001 by omega) this) (by decide)) hbase fun v' w' h1 h2 h3 => ?_
  · have := hc j u hj
    rwa [show (⟨b, 0, none⟩ : Addr).add j = ⟨b, j, none⟩ from by unfold Addr.add; split <;> simp_all]
  · refine h v' w' ?_ (fun b0 W hb hB => hB.grown h2 (Nat.le_trans hb hbase) fun k hk => Nat.le_trans hb (hown.lt k hk).1) h2 fun e => ?_
    · show w'.ownsRow base E.ty E.size v' (l ++ [y]).length (E.cells (l ++ [y]))
      rw [List.length_append, show E.cells (l ++ [y]) = E.cells l ++ E.enc y from by simp [Elem.cells]]
      exact h1
    · have := h3.1 e
      omega
end
/-! ### Tests, pairs of worlds -/
def tstE : Elem Tp := { enc := fun x => [.int .i64 x.1, .int .i64 x.2], size := 2, ty := 58, sl := 60, z := .agg #[.int .i64 0, .int .i64 0], bytes := 16 }
theorem tstG : tstE.Good :=
  ⟨by kernel_rfl, Tryd.underlying60, by decide, by decide, fun _ => rfl, fun x u hu => by
    rcases (by simpa [tstE] using hu : u = .int .i64 x.1 ∨ u = .int .i64 x.2) with rfl | rfl <;> rfl, by decide⟩
def prE : Elem (Int × Int) := { enc := fun x => [.int .i64 x.1, .int .i64 x.2], size := 2, ty := 106, sl := 88, z := .agg #[.int .i64 0, .int .i64 0], bytes := 16 }
theorem prG : prE.Good :=
  ⟨by kernel_rfl, Tryd.underlying88, by decide, by decide, fun _ => rfl, fun x u hu => by
    rcases (by simpa [prE] using hu : u = .int .i64 x.1 ∨ u = .int .i64 x.2) with rfl | rfl <;> rfl, by decide⟩
theorem SliceE.tst {w : World} {A : Option Addr} {l : List Tp} (h : RowAt w A (tstE.cells l)) {j : Nat} {x : Tp} (hj : l[j]? = some x) : ∃ b o, A = some ⟨b, o, none⟩ ∧ b < w.heap.size ∧ w.cell? ⟨b, o + j * 2, none⟩ = some (.int .i64 x.1) ∧ w.cell? ⟨b, o + j * 2 + 1, none⟩ = some (.int .i64 x.2) := by
  obtain ⟨b, o, h1, h2, h3⟩ := RowAt.elem tstG h hj
  exact ⟨b, o, h1, h2, h3 0 _ rfl, h3 1 _ rfl⟩
theorem SliceE.pr {w : World} {A : Option Addr} {l : List (Int × Int)} (h : RowAt w A (prE.cells l)) {j : Nat} {x : Int × Int} (hj : l[j]? = some x) : ∃ b o, A = some ⟨b, o, none⟩ ∧ b < w.heap.size ∧ w.cell? ⟨b, o + j * 2, none⟩ = some (.int .i64 x.1) ∧ w.cell? ⟨b, o + j * 2 + 1, none⟩ = some (.int .i64 x.2) := by
  obtain ⟨b, o, h1, h2, h3⟩ := RowAt.elem prG h hj
  exact ⟨b, o, h1, h2, h3 0 _ rfl, h3 1 _ rfl⟩
end Go.Proofs.YtcdlbpmffkoejaaDoor
/- Walks of the package quarrels: areDraws, the closure of Total. Conditions: lengths are Go's; of the closure: a valid world and draws. -/
namespace Go.Proofs.YtcdlbpmffkoejaaDoor
open Go.RowKit Go.Sort
theorem draws1Q_any (n : Int) (w : World) : Calls Tryd.prog 45 #[.int .i64 n] w fun e w' => e = .returned (.bool (!inR n 0 9)) ∧ Below w.heap.size w w' := by
  go_enter Tryd.func45, Tryd.ntmps45
  go_wp2_with fail
  refine (withinQ_b _ _ _ _ _ rfl).mono ?_
  rintro e w' ⟨rfl, rfl⟩
  go_wp2_with fail
  go_ret
  exact ⟨rfl, Below.refl _ _⟩
/-- whether numbers are draws -/
def Qt.drawsB (t : Qt) (n : Nat) (g : Nat → Int) : Bool := decide ((n : Int) = t.wells) && !anyB (fun i => !inR (g i) 0 9) n
theorem drawsB_iff {t : Qt} {n : Nat} {g : Nat → Int} : t.drawsB n g = true ↔ (n : Int) = t.wells ∧ ∀ i, i < n → 0 ≤ g i ∧ g i ≤ 9 := by
  unfold Qt.drawsB
  rw [Bool.and_eq_true, decide_eq_true_eq, Bool.not_eq_true', anyB_false]
  simp [inR_iff]
theorem areDrawsQ_any (Aw Af A : Option Addr) (cw cf c n : Nat) (t : Qt) (g : Nat → Int) (w : World) (hn : n ≤ 9223372036854775807) (hI : IntsAt w A n g) :
    Calls Tryd.prog 24 #[.agg #[.int .i64 t.wells, .slice Aw t.nw cw, .slice Af t.nf cf], .slice A n c] w fun e w' => e = .returned (.bool (t.drawsB n g)) ∧ Below w.heap.size w w' := by
  have hb0 := bAlloc (Below.refl w.heap.size w) (.cells #[.int .i64 t.wells, .slice Aw t.nw cw, .slice Af t.nf cf] 25)
  have HI := Lib.hid (hI.mono hb0)
  have HB := Lib.hid hb0
  clear hb0 hI
  by_cases hnw : (n : Int) = t.wells
  · have g0 : ((n : Int) == t.wells) = true := by simp [hnw]
    have HE := Lib.hid (show t.drawsB n g = !anyB (fun i => !inR (g i) 0 9) n by unfold Qt.drawsB; simp [hnw])
    clear hnw
    go_enter Tryd.func24, Tryd.ntmps24
    go_wp2_with fail
    refine (none_int A n c 45 #[] g (fun i => !inR (g i) 0 9) _ hn HI.out (enters_of Tryd.func45 (by kernel_rfl)) (fun i _ w' _ => draws1Q_any (g i) w')).mono ?_
    rintro e w1 ⟨rfl, hb1⟩
    go_wp2_with fail
    go_ret
    exact ⟨by rw [HE.out]; rfl, bTrans HB.out hb1⟩
  · have g0 : ((n : Int) == t.wells) = false := by simp [hnw]
    have HE := Lib.hid (show t.drawsB n g = false by unfold Qt.drawsB; simp [hnw])
    clear hnw
    go_enter Tryd.func24, Tryd.ntmps24
    go_wp2_with fail
    go_ret
    exact ⟨by rw [HE.out]; rfl, HB.out⟩
theorem mul_bd9 {a b : Int} (h0 : 0 ≤ a) (h1 : a ≤ 9) (h2 : 0 ≤ b) (h3 : b ≤ 9) : 0 ≤ a * b ∧ a * b ≤ 81 :=
  ⟨Int.mul_nonneg h0 h2, Int.le_trans (Int.mul_le_mul h1 h3 h2 (by omega)) (by decide)⟩
set_option maxHeartbeats 2000000 in
theorem total1Q_any (A Ad : Option Addr) (c cd a d n : Nat) (m : Int) (x : Wd) (g : Nat → Int) (q : Nat) (w : World) (hm : m ≤ 4) (ok : x.Ok m) (hn : (n : Int) = m) (hg : ∀ i, i < n → 0 ≤ g i ∧ g i ≤ 9) (hq : (q : Int) < m) (hr : RowsAt w A x) (hI : IntsAt w Ad n g)
    (ha : a < w.heap.size) (hca : w.cell? ⟨a, 0, none⟩ = some (.slice Ad n cd)) (hd : d < w.heap.size) (hcd : w.cell? ⟨d, 0, none⟩ = some (.int .i64 q)) :
    Calls Tryd.prog 27 #[.agg #[.slice A x.n c], .pointer (some ⟨a, 0, none⟩), .pointer (some ⟨d, 0, none⟩)] w fun e w' => e = .returned (.int .i64 (sumTo (fun i => g i * x.fall i q) n)) ∧ Below w.heap.size w w' := by
  have hb0 := bAlloc (Below.refl w.heap.size w) (.cells #[.slice A x.n c] 46)
  have HR := Lib.hid (hr.mono hb0)
  have HI := Lib.hid (hI.mono hb0)
  have HB := Lib.hid hb0
  have HOK := Lib.hid ok
  have HG := Lib.hid hg
  have HN := Lib.hid hn
  have HQ := Lib.hid hq
  have n4 : n ≤ 4 := by omega
  have x0 : (w.alloc (.cells #[.slice A x.n c] 46)).heap.size = w.heap.size + 1 := by simp
  clear hb0 hr hI ok hg hn hq
  go_enter Tryd.func27, Tryd.ntmps27
  go_wp2_with fail
  clear x0
  go_loopw [5, 10] (fun s i wr => ∃ k : Nat, i = .int .i64 k ∧ k ≤ n ∧ s = .int .i64 (sumTo (fun i => g i * x.fall i q) k) ∧ Below (w.alloc (.cells #[.slice A x.n c] 46)).heap.size (w.alloc (.cells #[.slice A x.n c] 46)) wr) (fun _ i _ => n - (intOf i).toNat)
  case atStart => exact ⟨0, rfl, Nat.zero_le _, rfl, Below.refl _ _⟩
  case round =>
    obtain ⟨k, rfl, hk, rfl, hbel⟩ := hrel
    have HL := Lib.hid hbel
    obtain ⟨bc3, bf3⟩ := bcell hbel
    have hz3 := hbel.size
    simp only [World.size_alloc] at hz3
    have hy3 : w.heap.size < wr.heap.size := by omega
    clear hbel
    obtain ⟨s, hs⟩ : ∃ s, sumTo (fun i => g i * x.fall i q) k = s := ⟨_, rfl⟩
    rw [hs]
    have HS := Lib.hid hs
    by_cases hlt : k < n
    · have hbd : (k : Int) * 0 ≤ s ∧ s ≤ (k : Int) * 81 := by
        rw [← hs]
        refine sumTo_bd fun i hi => ?_
        have h1 := HG.out i (by omega)
        have h2 := HOK.out.n
        have h3 := HOK.out.len i (by have := HN.out; omega)
        have h4 := HOK.out.fall i (by have := HN.out; omega) q (by have := HQ.out; omega)
        exact mul_bd9 h1.1 h1.2 h4.1 h4.2
      have hgk := HG.out k hlt
      obtain ⟨b', o', b'', o'', c'', kk, v, rfl, a4, a5, a6, a7, hv, v0, v1, hm2⟩ := HOK.out.at (HR.out.mono HL.out) (p := k) (q := q) (by omega) (by have := HN.out; omega) (by omega) HQ.out
      obtain ⟨b1, o1, rfl, a8, a9⟩ := (HI.out.mono HL.out).get hlt
      rw [Int.toNat_natCast] at a5
      rw [Int.toNat_natCast] at a7
      rw [Int.toNat_natCast, Int.toNat_natCast] at hv
      have hprod := mul_bd9 hgk.1 hgk.2 v0 v1
      obtain ⟨u, hu⟩ : ∃ u, g k = u := ⟨_, rfl⟩
      rw [hu] at a9 hprod
      have hS1 : sumTo (fun i => g i * x.fall i q) (k + 1) = s + u * v := by
        show sumTo _ k + g k * x.fall k q = _
        rw [hs, hu, hv]
      have HS1 := Lib.hid hS1
      obtain ⟨r, hr⟩ : ∃ r, u * v = r := ⟨_, rfl⟩
      rw [hr] at hprod
      have e1 : IntKind.i64.wrap (u * v) = r := by rw [hr]; exact IntWalk.i64_in _ (by omega)
      have e2 : IntKind.i64.wrap (s + r) = s + r := IntWalk.i64_in _ (by omega)
      have HU := Lib.hid hr
      obtain ⟨xn, hxn⟩ : ∃ xn, x.n = xn := ⟨_, rfl⟩
      have hxk : (k : Int) < (xn : Int) := by have := HOK.out.n; have := HN.out; omega
      have hqk : (q : Int) < (kk : Int) := by have := HQ.out; omega
      have k0 : (0 : Int) ≤ (k : Int) := by omega
      have q0 : (0 : Int) ≤ (q : Int) := by omega
      have k1 : (k : Int) < (n : Int) := by omega
      rw [hxn] at bc3
      clear hs hbd hgk hv v0 v1 hm2 hprod hu hS1 hr hxn
      go_wp2_with fail
      go_region
      go_wp2_with fail
      go_roundw
      case rel =>
        first
        | exact ⟨k + 1, by go_num, by omega, by rw [HS1.out, HU.out], HL.out.drew⟩
        | ((repeat apply Exists.intro)
           refine ⟨⟨k + 1, ?_, by omega, by rw [HS1.out, HU.out], HL.out.drew⟩, rfl⟩
           go_num)
      case measure => simp [intOf]; omega
    · obtain rfl : k = n := by omega
      go_wp2_with fail
      go_ret
      exact ⟨by rw [HS.out]; rfl, bTrans HB.out HL.out⟩
end Go.Proofs.YtcdlbpmffkoejaaDoor
/- Walks of the reference 05: AreDraws, Lowers. Conditions: lengths are Go's; for Lowers a valid town, draws, a world and a well of it. -/
namespace Go.Proofs.YtcdlbpmffkoejaaDoor
open Go.RowKit Go.Sort
set_option maxHeartbeats 2000000 in
set_option maxRecDepth 100000 in
theorem areDraws5_any (Aw Af A : Option Addr) (cw cf c n : Nat) (t : Qt) (g : Nat → Int) (w : World) (hn : n ≤ 9223372036854775807) (hI : IntsAt w A n g) :
    Calls Tryd.prog 6 #[.agg #[.int .i64 t.wells, .slice Aw t.nw cw, .slice Af t.nf cf], .slice A n c] w fun e w' => e = .returned (.bool (t.drawsB n g)) ∧ Below w.heap.size w w' := by
  have hb0 := bAlloc (Below.refl w.heap.size w) (.cells #[.int .i64 t.wells, .slice Aw t.nw cw, .slice Af t.nf cf] 25)
  have HI := Lib.hid (hI.mono hb0)
  have HB := Lib.hid hb0
  clear hb0 hI
  by_cases hnw : (n : Int) = t.wells
  · have g0 : ((n : Int) == t.wells) = true := by simp [hnw]
    have g1 : ((n : Int) != t.wells) = false := by simp [hnw]
    have HE := Lib.hid (show t.drawsB n g = !anyB (fun i => !inR (g i) 0 9) n by unfold Qt.drawsB; simp [hnw])
    clear hnw
    go_enter Tryd.func6, Tryd.ntmps6
    go_wp2_with fail
    go_loopw [5] (fun i wr => ∃ k : Nat, k ≤ n ∧ i = .int .i64 k ∧ anyB (fun i => !inR (g i) 0 9) k = false ∧ Below (w.alloc (.cells #[.int .i64 t.wells, .slice Aw t.nw cw, .slice Af t.nf cf] 25)).heap.size (w.alloc (.cells #[.int .i64 t.wells, .slice Aw t.nw cw, .slice Af t.nf cf] 25)) wr) (fun i _ => n - (intOf i).toNat)
    case atStart => exact ⟨0, Nat.zero_le _, rfl, rfl, Below.refl _ _⟩
    case round =>
      obtain ⟨k, hk, rfl, hno, hbel⟩ := hrel
      have HN := Lib.hid hno
      have HL := Lib.hid hbel
      clear hno hbel
      by_cases hlt : k < n
      · obtain ⟨b, o, hA, hb, c0⟩ := (HI.out.mono HL.out).get hlt
        subst hA
        have k1 : (k : Int) < (n : Int) := by omega
        have k0 : (0 : Int) ≤ (k : Int) := by omega
        obtain ⟨u, hu⟩ : ∃ u, g k = u := ⟨_, rfl⟩
        rw [hu] at c0
        obtain ⟨bb, hbb⟩ : ∃ bb, inR u 0 9 = bb := ⟨_, rfl⟩
        have HU := Lib.hid (show inR (g k) 0 9 = bb by rw [hu, hbb])
        have HW := Lib.hid (within5_b u 0 9 bb wr hbb)
        clear hu hbb
        go_wp2_with fail
        refine HW.out.mono ?_
        rintro e w' ⟨rfl, rfl⟩
        cases bb
        · have HX := Lib.hid (show anyB (fun i => !inR (g i) 0 9) n = true from anyB_hit hlt (by rw [HU.out]; rfl))
          go_wp2_with fail
          go_ret
          exact ⟨ret_bool (by rw [HE.out, HX.out]; rfl), bTrans HB.out HL.out⟩
        · have HX := Lib.hid (anyB_step HN.out (show (fun i => !inR (g i) 0 9) k = false by simp only [HU.out]; rfl))
          go_wp2_with fail
          go_roundw
          case rel =>
            first
            | exact ⟨k + 1, by omega, by go_num, HX.out, HL.out⟩
            | ((repeat apply Exists.intro)
               refine ⟨⟨k + 1, by omega, ?_, HX.out, HL.out⟩, rfl⟩
               go_num)
          case measure => simp [intOf]; omega
      · obtain rfl : k = n := by omega
        go_wp2_with fail
        go_ret
        exact ⟨ret_bool (by rw [HE.out, HN.out]; rfl), bTrans HB.out HL.out⟩
  · have g0 : ((n : Int) == t.wells) = false := by simp [hnw]
    have g1 : ((n : Int) != t.wells) = true := by simp [hnw]
    have HE := Lib.hid (show t.drawsB n g = false by unfold Qt.drawsB; simp [hnw])
    clear hnw
    go_enter Tryd.func6, Tryd.ntmps6
    go_wp2_with fail
    go_ret
    exact ⟨ret_bool (by rw [HE.out]), HB.out⟩
end Go.Proofs.YtcdlbpmffkoejaaDoor
/- Walks of the reference 05: Lowers. Conditions: a valid town, draws, a world and a well of it. -/
namespace Go.Proofs.YtcdlbpmffkoejaaDoor
open Go.RowKit Go.Sort
end Go.Proofs.YtcdlbpmffkoejaaDoor
/- Walks of the reference 05: IsBlamed. Conditions: a valid town, draws, a world and wells of it. -/
namespace Go.Proofs.YtcdlbpmffkoejaaDoor
open Go.RowKit Go.Sort
end Go.Proofs.YtcdlbpmffkoejaaDoor
/- Walks of the reference 05: IsLaw, Harms. Conditions: lengths are Go's. -/
namespace Go.Proofs.YtcdlbpmffkoejaaDoor
open Go.RowKit Go.Sort
theorem KnownOut.ret {w : World} {base : Nat} {t : Qt} {is : Bool} {e : Ending} (h : KnownOut w base t is e) : ∃ v, e = .returned v := by
  obtain ⟨v, h, _⟩ := h
  exact ⟨_, h⟩
end Go.Proofs.YtcdlbpmffkoejaaDoor
/- Walks of the reference 05: IsTest. No condition. -/
namespace Go.Proofs.YtcdlbpmffkoejaaDoor
open Go.RowKit Go.Sort
end Go.Proofs.YtcdlbpmffkoejaaDoor
/- Walks of the package quarrels: Between, Total. Conditions: lengths are Go's; the listed table holds what it holds. -/
namespace Go.Proofs.YtcdlbpmffkoejaaDoor
open Go.RowKit Go.Sort
end Go.Proofs.YtcdlbpmffkoejaaDoor
/- Walks of the package quarrels: Total. Conditions: lengths are Go's; the listed table holds what it holds. -/
namespace Go.Proofs.YtcdlbpmffkoejaaDoor
open Go.RowKit Go.Sort
/-- what Total hands back -/
noncomputable def Qt.totalV (t : Qt) (n : Nat) (g : Nat → Int) (q : Int) : Int × Int := if t.knowErr (t.drawsB n g && t.wellB q) = 0 then spanOf (t.lowers g n q.toNat) t.leftL else (0, 0)
set_option maxHeartbeats 2000000 in
set_option maxRecDepth 100000 in
theorem totalQ_any (Aw Af A : Option Addr) (cw cf c n : Nat) (t : Qt) (g : Nat → Int) (q : Int) (w : World) (hn : n ≤ 9223372036854775807) (hI : IntsAt w A n g) (hs : t.Small) (hT : QAt w Aw Af t) (hB : TabAt w) :
    Calls Tryd.prog 9 #[.agg #[.int .i64 t.wells, .slice Aw t.nw cw, .slice Af t.nf cf], .slice A n c, .int .i64 q] w fun e w' => e = .returned (.tuple #[.agg #[.int .i64 (t.totalV n g q).1, .int .i64 (t.totalV n g q).2], .int .i64 (t.knowErr (t.drawsB n g && t.wellB q))]) ∧ Below w.heap.size w w' := by
  have hb0 := bAlloc (bAlloc (bAlloc (bAlloc (Below.refl w.heap.size w) (.cells #[.int .i64 t.wells, .slice Aw t.nw cw, .slice Af t.nf cf] 25)) (.cells #[.slice A n c] 26)) (.cells #[.int .i64 q] 3)) (.cells #[.int .i64 0, .int .i64 0] 36)
  have HT := Lib.hid (hT.mono hb0)
  have HI := Lib.hid (hI.mono hb0)
  have HTB := Lib.hid (hB.mono hb0)
  have HB := Lib.hid hb0
  clear hT hb0 hB hI
  obtain ⟨b1, h1⟩ : ∃ b, t.drawsB n g = b := ⟨_, rfl⟩
  obtain ⟨b2, h2⟩ : ∃ b, t.wellB q = b := ⟨_, rfl⟩
  have HC1 := Lib.hid (fun w hb => h1 ▸ areDrawsQ_any Aw Af A cw cf c n t g w hn (HI.out.mono hb) : ∀ w' : World, Below ((((w.alloc (.cells #[.int .i64 t.wells, .slice Aw t.nw cw, .slice Af t.nf cf] 25)).alloc (.cells #[.slice A n c] 26)).alloc (.cells #[.int .i64 q] 3)).alloc (.cells #[.int .i64 0, .int .i64 0] 36)).heap.size ((((w.alloc (.cells #[.int .i64 t.wells, .slice Aw t.nw cw, .slice Af t.nf cf] 25)).alloc (.cells #[.slice A n c] 26)).alloc (.cells #[.int .i64 q] 3)).alloc (.cells #[.int .i64 0, .int .i64 0] 36)) w' → Calls Tryd.prog 24 #[.agg #[.int .i64 t.wells, .slice Aw t.nw cw, .slice Af t.nf cf], .slice A n c] w' fun e w'' => e = .returned (.bool b1) ∧ Below w'.heap.size w' w'')
  have HC2 := Lib.hid (fun w => h2 ▸ isWellQ_any Aw Af cw cf t q w : ∀ w : World, Calls Tryd.prog 25 #[.agg #[.int .i64 t.wells, .slice Aw t.nw cw, .slice Af t.nf cf], .int .i64 q] w fun e w' => e = .returned (.bool b2) ∧ Below w.heap.size w w')
  obtain ⟨bb, hbb⟩ : ∃ bb, (b1 && b2) = bb := ⟨_, rfl⟩
  obtain ⟨er, her⟩ : ∃ er, t.knowErr bb = er := ⟨_, rfl⟩
  have HCO := Lib.hid (fun (w' : World) (hb : Below ((((w.alloc (.cells #[.int .i64 t.wells, .slice Aw t.nw cw, .slice Af t.nf cf] 25)).alloc (.cells #[.slice A n c] 26)).alloc (.cells #[.int .i64 q] 3)).alloc (.cells #[.int .i64 0, .int .i64 0] 36)).heap.size ((((w.alloc (.cells #[.int .i64 t.wells, .slice Aw t.nw cw, .slice Af t.nf cf] 25)).alloc (.cells #[.slice A n c] 26)).alloc (.cells #[.int .i64 q] 3)).alloc (.cells #[.int .i64 0, .int .i64 0] 36)) w') => ((openQ_any Aw Af cw cf t bb w' hs (HT.out.mono hb)).mono fun e w'' h => ⟨(her ▸ h.1).lower hb.size, h.2⟩ : Calls Tryd.prog 23 #[.agg #[.int .i64 t.wells, .slice Aw t.nw cw, .slice Af t.nf cf], .bool bb] w' fun e w'' => AskOut w'' ((((w.alloc (.cells #[.int .i64 t.wells, .slice Aw t.nw cw, .slice Af t.nf cf] 25)).alloc (.cells #[.slice A n c] 26)).alloc (.cells #[.int .i64 q] 3)).alloc (.cells #[.int .i64 0, .int .i64 0] 36)).heap.size Aw Af cw cf t er e ∧ Below w'.heap.size w' w''))
  have HE := Lib.hid (show t.knowErr (t.drawsB n g && t.wellB q) = er by rw [h1, h2, hbb, her])
  have HSV := Lib.hid (show t.totalV n g q = if er = 0 then spanOf (t.lowers g n q.toNat) t.leftL else (0, 0) by unfold Qt.totalV; rw [h1, h2, hbb, her])
  rw [HE.out, HSV.out]
  have HKE := Lib.hid her
  have HG := Lib.hid hbb
  have HW1 := Lib.hid h1
  have HW2 := Lib.hid h2
  clear h1 h2 her hbb HE HSV
  by_cases he : er = 0
  · subst he
    obtain ⟨ok, rfl, hne⟩ := knowErr_zero HKE.out
    have hg := HG.out
    simp only [Bool.and_eq_true] at hg
    obtain ⟨rfl, rfl⟩ := hg
    have hp := drawsB_iff.1 HW1.out
    have hq := inR_iff.1 ((wellB_ok ok q).symm.trans HW2.out)
    obtain ⟨j, rfl⟩ : ∃ j : Nat, q = (j : Int) := ⟨q.toNat, by omega⟩
    have HP := Lib.hid hp
    have HQ := Lib.hid (show (j : Int) < t.wells by omega)
    have HOK := Lib.hid ok
    rw [if_pos rfl, Int.toNat_natCast]
    obtain ⟨lo, hlo⟩ : ∃ lo, (spanOf (t.lowers g n j) t.leftL).1 = lo := ⟨_, rfl⟩
    obtain ⟨hi, hhi⟩ : ∃ hi, (spanOf (t.lowers g n j) t.leftL).2 = hi := ⟨_, rfl⟩
    have HLO := Lib.hid (show spanN (fun k => t.lowers g n j (intL0 t.leftL k)) t.leftL.length = (lo, hi) from Prod.ext hlo hhi)
    rw [hlo, hhi]
    clear hp hq hne ok hlo hhi
    go_enter Tryd.func9, Tryd.ntmps9
    go_wp2_with fail
    refine wp_region_call 9 (fun v w2 => AskOut w2 ((((w.alloc (.cells #[.int .i64 t.wells, .slice Aw t.nw cw, .slice Af t.nf cf] 25)).alloc (.cells #[.slice A n c] 26)).alloc (.cells #[.int .i64 (j : Int)] 3)).alloc (.cells #[.int .i64 0, .int .i64 0] 36)).heap.size Aw Af cw cf t 0 (.returned v) ∧ Below ((((w.alloc (.cells #[.int .i64 t.wells, .slice Aw t.nw cw, .slice Af t.nf cf] 25)).alloc (.cells #[.slice A n c] 26)).alloc (.cells #[.int .i64 (j : Int)] 3)).alloc (.cells #[.int .i64 0, .int .i64 0] 36)).heap.size ((((w.alloc (.cells #[.int .i64 t.wells, .slice Aw t.nw cw, .slice Af t.nf cf] 25)).alloc (.cells #[.slice A n c] 26)).alloc (.cells #[.int .i64 (j : Int)] 3)).alloc (.cells #[.int .i64 0, .int .i64 0] 36)) w2) (by kernel_rfl) (by decide +kernel) rfl ?_
    apply Exists.intro
    refine ⟨fun K hK => ?_, ?_, fun w1 hb1 K Q' hK => ?_, ?_⟩
    · skip
      repeat (first | (refine wpCalm_skip rfl ?_) | (refine wpCalm_step rfl (fun K hK => ?_); go_simp; (first | (refine hK _ ?_; clear hK K) | (apply Exists.intro; refine ⟨fun _ => ?_, hK _ ?_⟩; ((first | (go_at_call 24; with_reducible exact newer_of (HC1.out _ (below_regrown _ _ _))) | (go_at_call 25; with_reducible exact newer_of (HC2.out _)))); clear hK K))))
      refine wpCalm_nil ?_
      exact hK
    · rfl
    · go_simp
      refine (HCO.out w1 hb1).mono ?_
      rintro e w2 ⟨ho, hb2⟩
      obtain ⟨v, rfl⟩ := AskOut.ret ho
      exact hK v w2 ⟨ho, bTrans hb1 hb2⟩
    rintro v w2 ⟨ho, hb2⟩
    obtain ⟨C, mp, e1, hc, hC, hmp, hmb⟩ := ho.2 rfl
    obtain rfl := Ending.returned.inj e1
    have HCT2 := Lib.hid hc
    have HMP2 := Lib.hid hmp
    have HCB := Lib.hid hC
    have HMB := Lib.hid hmb
    have HB2 := Lib.hid hb2
    clear ho hb2 hc e1 hC hmp hmb
    apply Exists.intro
    refine ⟨fun K hK => ?_, fun w3 hb3 => ?_⟩
    · skip
      repeat (first | (refine wpCalm_skip rfl ?_) | (refine wpCalm_step rfl (fun K hK => ?_); go_simp; (first | (refine hK _ ?_; clear hK K) | (apply Exists.intro; refine ⟨fun _ => ?_, hK _ ?_⟩; (fail); clear hK K))))
      refine wpCalm_nil ?_
      exact hK
    have HCT := Lib.hid (HCT2.out.mono hb3)
    have HMP := Lib.hid ((hb3.block mp (Array.getElem?_eq_some_iff.1 HMP2.out).1).trans HMP2.out)
    have HB3 := Lib.hid (bTrans HB2.out hb3)
    clear hb3 HCT2 HMP2
    have HCC := Lib.hid (span_any Aw Af cw cf C mp _ t 27 #[.pointer (some ⟨w.heap.size + 1, 0, none⟩), .pointer (some ⟨w.heap.size + 1 + 1, 0, none⟩)] (fun k => t.lowers g n j (intL0 t.leftL k)) w3 HCT.out (mask_64 t HOK.out.nw) (bits_mask t HOK.out.nw) HOK.out.nw (HT.out.mono HB3.out) (HTB.out.mono HB3.out) (enters_of Tryd.func27 (by kernel_rfl)) (fun k i' hk hi w' hb A' c' hr => by
      have hbb := bTrans HB3.out hb
      have h1 : w'.cell? ⟨w.heap.size + 1, 0, none⟩ = some (.slice A n c) := (hbb.cell (p := ⟨w.heap.size + 1, 0, none⟩) (by simp <;> omega)).trans (by simp [go_sem])
      have h2 : w'.cell? ⟨w.heap.size + 1 + 1, 0, none⟩ = some (.int .i64 j) := (hbb.cell (p := ⟨w.heap.size + 1 + 1, 0, none⟩) (by simp)).trans (by simp [go_sem])
      have hz := hbb.size
      simp only [World.size_alloc] at hz
      have := total1Q_any A' A c' c (w.heap.size + 1) (w.heap.size + 1 + 1) n t.wells (t.world i') g j w' HOK.out.w1 (HOK.out.world i' hi) HP.out.1 HP.out.2 HQ.out hr (HI.out.mono hbb) (by omega) h1 (by omega) h2
      rw [← numAt_of hk] at this
      rw [← numAt_of hk]
      exact this))
    rw [HLO.out] at HCC
    obtain ⟨bc3, bf3⟩ := bcell HB3.out
    have hz3 := HB3.out.size
    simp only [World.size_alloc] at hz3
    clear HLO
    go_wp2_with fail
    refine HCC.out.mono ?_
    rintro e w4 ⟨rfl, hb4⟩
    have HB4 := Lib.hid (bTrans HB3.out hb4)
    obtain ⟨bc4, bf4⟩ := bcell HB4.out
    have hz4 := HB4.out.size
    simp only [World.size_alloc] at hz4
    clear hb4 bc3 bf3
    go_wp2_with fail
    refine bodyPost_ret (v := .tuple #[.agg #[.int .i64 lo, .int .i64 hi], .int .i64 0]) (by simp [results, Tryd.results9, go_sem, *]) rfl ⟨rfl, ?_⟩
    exact Below.setCell (p := ⟨w.heap.size + 1 + 1 + 1, 1, none⟩) (Below.setCell (p := ⟨w.heap.size + 1 + 1 + 1, 0, none⟩) (bTrans HB.out HB4.out) (by simp <;> omega) (.int .i64 lo)) (by simp <;> omega) (.int .i64 hi)
  · have g0 : (er != 0) = true := by simp [he]
    have HNZ := Lib.hid he
    rw [if_neg he]
    clear he
    go_enter Tryd.func9, Tryd.ntmps9
    go_wp2_with fail
    rcases two_ways b1 b2 with rfl | ⟨rfl, rfl⟩ | ⟨rfl, rfl⟩
    all_goals
      obtain rfl := HG.out
      refine wp_region_call 9 (fun v w2 => AskOut w2 ((((w.alloc (.cells #[.int .i64 t.wells, .slice Aw t.nw cw, .slice Af t.nf cf] 25)).alloc (.cells #[.slice A n c] 26)).alloc (.cells #[.int .i64 q] 3)).alloc (.cells #[.int .i64 0, .int .i64 0] 36)).heap.size Aw Af cw cf t er (.returned v) ∧ Below ((((w.alloc (.cells #[.int .i64 t.wells, .slice Aw t.nw cw, .slice Af t.nf cf] 25)).alloc (.cells #[.slice A n c] 26)).alloc (.cells #[.int .i64 q] 3)).alloc (.cells #[.int .i64 0, .int .i64 0] 36)).heap.size ((((w.alloc (.cells #[.int .i64 t.wells, .slice Aw t.nw cw, .slice Af t.nf cf] 25)).alloc (.cells #[.slice A n c] 26)).alloc (.cells #[.int .i64 q] 3)).alloc (.cells #[.int .i64 0, .int .i64 0] 36)) w2) (by kernel_rfl) (by decide +kernel) rfl ?_
      apply Exists.intro
      refine ⟨fun K hK => ?_, ?_, fun w1 hb1 K Q' hK => ?_, ?_⟩
      · skip
        repeat (first | (refine wpCalm_skip rfl ?_) | (refine wpCalm_step rfl (fun K hK => ?_); go_simp; (first | (refine hK _ ?_; clear hK K) | (apply Exists.intro; refine ⟨fun _ => ?_, hK _ ?_⟩; ((first | (go_at_call 24; with_reducible exact newer_of (HC1.out _ (below_regrown _ _ _))) | (go_at_call 25; with_reducible exact newer_of (HC2.out _)))); clear hK K))))
        refine wpCalm_nil ?_
        exact hK
      · rfl
      · go_simp
        refine (HCO.out w1 hb1).mono ?_
        rintro e w2 ⟨ho, hb2⟩
        obtain ⟨v, rfl⟩ := AskOut.ret ho
        exact hK v w2 ⟨ho, bTrans hb1 hb2⟩
      rintro v w2 ⟨ho, hb2⟩
      obtain rfl := Ending.returned.inj (ho.1 HNZ.out)
      have HB2 := Lib.hid hb2
      clear ho hb2
      apply Exists.intro
      refine ⟨fun K hK => ?_, fun w3 hb3 => ?_⟩
      · skip
        repeat (first | (refine wpCalm_skip rfl ?_) | (refine wpCalm_step rfl (fun K hK => ?_); go_simp; (first | (refine hK _ ?_; clear hK K) | (apply Exists.intro; refine ⟨fun _ => ?_, hK _ ?_⟩; (fail); clear hK K))))
        refine wpCalm_nil ?_
        exact hK
      have HB3 := Lib.hid (bTrans HB2.out hb3)
      clear hb3
      obtain ⟨bc3, bf3⟩ := bcell HB3.out
      have hz3 := HB3.out.size
      simp only [World.size_alloc] at hz3
      go_wp2_with fail
      refine bodyPost_ret (v := .tuple #[.agg #[.int .i64 0, .int .i64 0], .int .i64 er]) (by simp [results, Tryd.results9, go_sem, *]) rfl ⟨rfl, ?_⟩
      exact Below.setCell (p := ⟨w.heap.size + 1 + 1 + 1, 1, none⟩) (Below.setCell (p := ⟨w.heap.size + 1 + 1 + 1, 0, none⟩) (bTrans HB.out HB3.out) (by simp <;> omega) (.int .i64 0)) (by simp <;> omega) (.int .i64 0)
end Go.Proofs.YtcdlbpmffkoejaaDoor
