/- Parts joined. -/
import Derived.Test.YtchhodikgllgnaaDoorJE
import Derived.Test.YtchhodikgllgnaaDoorJC
set_option linter.unusedSimpArgs false
set_option linter.unusedVariables false
/- What a test tells, which lists of tests tell all apart, how many tests are enough: plain Lean over towns as data. No condition but a valid town, where it is said. -/
namespace Go.Proofs.YtchhodikgllgnaaDoor
open Go.RowKit Go.Sort
def intL0 (L : List Int) (k : Nat) : Int := L[k]?.getD 0
theorem intL0_mem {L : List Int} {k : Nat} (h : k < L.length) : intL0 L k ∈ L := by
  unfold intL0
  rw [List.getElem?_eq_getElem h]
  exact List.getElem_mem h
theorem mem_intL0 {L : List Int} {x : Int} (h : x ∈ L) : ∃ k, k < L.length ∧ intL0 L k = x := by
  obtain ⟨k, hk, he⟩ := List.getElem_of_mem h
  exact ⟨k, hk, by unfold intL0; rw [List.getElem?_eq_getElem hk]; exact he⟩
/-- what a test shows in a world -/
def Qt.F (t : Qt) (i : Int) (x : Tp) : Int := (t.world i.toNat).fall x.1 x.2
def Qt.tests (t : Qt) : List Tp := testsL t.wells.toNat
def Qt.apart (t : Qt) (x : Tp) (a b : Int) : Bool := t.F a x != t.F b x
def Qt.someB (t : Qt) (l : List Tp) (a b : Int) : Bool := l.any fun x => t.apart x a b
theorem apart_comm (t : Qt) (x : Tp) (a b : Int) : t.apart x a b = t.apart x b a := by
  unfold Qt.apart
  by_cases h : t.F a x = t.F b x
  · simp [h]
  · rw [bne_iff_ne.2 h, bne_iff_ne.2 (Ne.symm h)]
theorem apart_self (t : Qt) (x : Tp) (a : Int) : t.apart x a a = false := by simp [Qt.apart]
theorem someB_comm (t : Qt) (l : List Tp) (a b : Int) : t.someB l a b = t.someB l b a := by
  unfold Qt.someB
  congr 1
  funext x
  exact apart_comm t x a b
theorem someB_self (t : Qt) (l : List Tp) (a : Int) : t.someB l a a = false := by simp [Qt.someB, apart_self]
theorem someB_iff {t : Qt} {l : List Tp} {a b : Int} : t.someB l a b = true ↔ ∃ x, x ∈ l ∧ t.F a x ≠ t.F b x := by simp [Qt.someB, Qt.apart]
theorem someB_sub {t : Qt} {l l' : List Tp} {a b : Int} (h : ∀ x, x ∈ l → x ∈ l') (hs : t.someB l a b = true) : t.someB l' a b = true := by
  obtain ⟨x, h1, h2⟩ := someB_iff.1 hs
  exact someB_iff.2 ⟨x, h x h1, h2⟩
/-- whether some tests tell each two of some worlds apart that are not alike -/
def Qt.allApart (t : Qt) (l : List Tp) (L : List Int) : Bool :=
  !anyB (fun i => anyB (fun k => t.someB t.tests (intL0 L i) (intL0 L k) && !t.someB l (intL0 L i) (intL0 L k)) i) L.length
theorem allApart_iff {t : Qt} {l : List Tp} {L : List Int} : t.allApart l L = true ↔ ∀ a, a ∈ L → ∀ b, b ∈ L → t.someB t.tests a b = true → t.someB l a b = true := by
  unfold Qt.allApart
  rw [Bool.not_eq_true', anyB_false]
  constructor
  · intro h a ha b hb hs
    obtain ⟨i, hi, rfl⟩ := mem_intL0 ha
    obtain ⟨k, hk, rfl⟩ := mem_intL0 hb
    rcases Nat.lt_trichotomy i k with h1 | h1 | h1
    · have := anyB_false.1 (h k hk) i h1
      rw [someB_comm t t.tests, hs, someB_comm t l] at this
      simpa using this
    · subst h1
      rw [someB_self] at hs
      cases hs
    · have := anyB_false.1 (h i hi) k h1
      rw [hs] at this
      simpa using this
  · intro h i hi
    refine anyB_false.2 fun k hk => ?_
    cases hs : t.someB t.tests (intL0 L i) (intL0 L k) with
    | false => rfl
    | true => rw [h _ (intL0_mem hi) _ (intL0_mem (by omega)) hs]; rfl
/-- whether some tests tell each two of some worlds apart in just one of which a fall is greater than the law -/
def Qt.decides (t : Qt) (l : List Tp) (L : List Int) (x : Tp) (law : Int) : Bool :=
  !anyB (fun i => anyB (fun k => decide (law < t.F (intL0 L i) x) && decide (t.F (intL0 L k) x ≤ law) && !t.someB l (intL0 L i) (intL0 L k)) L.length) L.length
theorem decides_iff {t : Qt} {l : List Tp} {L : List Int} {x : Tp} {law : Int} : t.decides l L x law = true ↔ ∀ a, a ∈ L → ∀ b, b ∈ L → law < t.F a x → t.F b x ≤ law → t.someB l a b = true := by
  unfold Qt.decides
  rw [Bool.not_eq_true', anyB_false]
  constructor
  · intro h a ha b hb h1 h2
    obtain ⟨i, hi, rfl⟩ := mem_intL0 ha
    obtain ⟨k, hk, rfl⟩ := mem_intL0 hb
    have := anyB_false.1 (h i hi) k hk
    simpa [h1, h2] using this
  · intro h i hi
    refine anyB_false.2 fun k hk => ?_
    by_cases h1 : law < t.F (intL0 L i) x
    · by_cases h2 : t.F (intL0 L k) x ≤ law
      · simp [h _ (intL0_mem hi) _ (intL0_mem hk) h1 h2]
      · simp [h2]
    · simp [h1]
/-- the pairs of some worlds, the first one first, of which something is so -/
def pairsL (p : Int → Int → Bool) : List Int → List (Int × Int)
  | [] => []
  | a :: L => (L.filter (p a)).map (fun b => (a, b)) ++ pairsL p L
def Qt.told (t : Qt) (l : List Tp) (ps : List (Int × Int)) : Bool := ps.all fun p => t.someB l p.1 p.2
theorem told_pairs {t : Qt} {l : List Tp} {p : Int → Int → Bool} (hp : ∀ a b, p a b = p b a) (h0 : ∀ a, p a a = false) : ∀ {L : List Int}, t.told l (pairsL p L) = true ↔ ∀ a, a ∈ L → ∀ b, b ∈ L → p a b = true → t.someB l a b = true
  | [] => by simp [Qt.told, pairsL]
  | a :: L => by
    have ih := told_pairs (t := t) (l := l) hp h0 (L := L)
    unfold Qt.told at ih ⊢
    unfold pairsL
    rw [List.all_append, Bool.and_eq_true, ih]
    simp only [List.all_map, List.all_eq_true, List.mem_filter, Function.comp, List.mem_cons]
    constructor
    · rintro ⟨h1, h2⟩ x (rfl | hx) y (rfl | hy) hs
      · rw [h0] at hs; cases hs
      · exact h1 y ⟨hy, hs⟩
      · rw [someB_comm]; exact h1 x ⟨hx, by rw [hp]; exact hs⟩
      · exact h2 x hx y hy hs
    · intro h
      exact ⟨fun y hy => h a (.inl rfl) y (.inr hy.1) hy.2, fun x hx y hy hs => h x (.inr hx) y (.inr hy) hs⟩
theorem told_nil {t : Qt} {ps : List (Int × Int)} : t.told [] ps = true ↔ ps = [] := by
  cases ps with
  | nil => simp [Qt.told]
  | cons a l => simp [Qt.told, Qt.someB]
theorem Bool.eq_of_iff {a b : Bool} (h : a = true ↔ b = true) : a = b := Bool.eq_iff_iff.2 h
/-- the pairs of Fewest -/
theorem told_apart (t : Qt) (l : List Tp) (L : List Int) : t.told l (pairsL (fun a b => t.someB t.tests a b) L) = t.allApart l L :=
  Bool.eq_iff_iff.2 ((told_pairs (fun a b => someB_comm t _ a b) (fun a => someB_self t _ a)).trans allApart_iff.symm)
/-- the pairs of Decide -/
theorem told_decides (t : Qt) (l : List Tp) (L : List Int) (x : Tp) (law : Int) : t.told l (pairsL (fun a b => decide (law < t.F a x) != decide (law < t.F b x)) L) = t.decides l L x law := by
  refine Bool.eq_iff_iff.2 ((told_pairs (fun a b => bne_comm) (fun a => by simp)).trans ⟨fun h => decides_iff.2 fun a ha b hb h1 h2 => h a ha b hb ?_, fun h a ha b hb hs => ?_⟩)
  · have : ¬ law < t.F b x := by omega
    simp [h1, this]
  · by_cases h1 : law < t.F a x
    · have h2 : ¬ law < t.F b x := fun h2 => by simp [h1, h2] at hs
      exact decides_iff.1 h a ha b hb h1 (by omega)
    · have h2 : law < t.F b x := by
        by_cases h2 : law < t.F b x
        · exact h2
        · simp [h1, h2] at hs
      rw [someB_comm]
      exact decides_iff.1 h b hb a ha h2 (by omega)
/-! ### How many tests are enough -/
/-- the worlds of some in which a test shows a fall -/
def Qt.shown (t : Qt) (x : Tp) (L : List Int) (f : Int) : List Int := L.filter fun w => t.F w x == f
def maxTo (g : Nat → Int) : Nat → Int
  | 0 => 0
  | n + 1 => max (maxTo g n) (g n)
theorem maxTo_le {g : Nat → Int} {v : Int} : ∀ {n : Nat}, maxTo g n ≤ v ↔ 0 ≤ v ∧ ∀ i, i < n → g i ≤ v
  | 0 => by simp [maxTo]
  | n + 1 => by
    have ih := maxTo_le (g := g) (v := v) (n := n)
    unfold maxTo
    constructor
    · intro h
      have h1 := ih.1 (by omega : maxTo g n ≤ v)
      refine ⟨h1.1, fun i hi => ?_⟩
      rcases Nat.lt_or_ge i n with h2 | h2
      · exact h1.2 i h2
      · obtain rfl : i = n := by omega
        omega
    · rintro ⟨h1, h2⟩
      have := ih.2 ⟨h1, fun i hi => h2 i (by omega)⟩
      have := h2 n (by omega)
      omega
theorem maxTo_congr {g h : Nat → Int} : ∀ {n : Nat}, (∀ i, i < n → g i = h i) → maxTo g n = maxTo h n
  | 0, _ => rfl
  | n + 1, e => by
    unfold maxTo
    rw [maxTo_congr fun i hi => e i (by omega), e n (by omega)]
theorem maxTo_nonneg (g : Nat → Int) : ∀ n, 0 ≤ maxTo g n
  | 0 => Int.le_refl 0
  | n + 1 => by have := maxTo_nonneg g n; unfold maxTo; omega
theorem maxTo_at {g : Nat → Int} {n i : Nat} (h : i < n) : g i ≤ maxTo g n := (maxTo_le.1 (Int.le_refl _)).2 i h
/-- the least of a number and of those of some tests -/
def minF (n0 : Int) (g : Tp → Int) (l : List Tp) : Int := l.foldl (fun b x => min b (g x)) n0
theorem minF_cons (n0 : Int) (g : Tp → Int) (x : Tp) (l : List Tp) : minF n0 g (x :: l) = minF (min n0 (g x)) g l := rfl
theorem minF_snoc (n0 : Int) (g : Tp → Int) (x : Tp) (l : List Tp) : minF n0 g (l ++ [x]) = min (minF n0 g l) (g x) := by simp [minF]
theorem minF_le {g : Tp → Int} {v : Int} : ∀ {l : List Tp} {n0 : Int}, minF n0 g l ≤ v ↔ n0 ≤ v ∨ ∃ x, x ∈ l ∧ g x ≤ v
  | [], n0 => by simp [minF]
  | y :: l, n0 => by
    rw [minF_cons, minF_le (l := l)]
    constructor
    · rintro (h | ⟨x, hx, h⟩)
      · by_cases h1 : n0 ≤ v
        · exact .inl h1
        · exact .inr ⟨y, by simp, by omega⟩
      · exact .inr ⟨x, by simp [hx], h⟩
    · rintro (h | ⟨x, hx, h⟩)
      · exact .inl (by omega)
      · rcases List.mem_cons.1 hx with rfl | hx
        · exact .inl (by omega)
        · exact .inr ⟨x, hx, h⟩
theorem minF_congr {g h : Tp → Int} : ∀ {l : List Tp} {n0 : Int}, (∀ x, x ∈ l → g x = h x) → minF n0 g l = minF n0 h l
  | [], _, _ => rfl
  | y :: l, n0, e => by
    rw [minF_cons, minF_cons, e y (by simp), minF_congr fun x hx => e x (by simp [hx])]
/-- how many tests are enough behind one, by how many are enough for fewer worlds -/
def Qt.behindW (t : Qt) (d : List Int → Int) (x : Tp) (L : List Int) : Int :=
  if anyB (fun f => (t.shown x L f).length == L.length) 10 then L.length else maxTo (fun f => if 1 < (t.shown x L f).length then d (t.shown x L f) else 0) 10
def Qt.depthF (t : Qt) : Nat → List Int → Int
  | 0, _ => 0
  | n + 1, L => if t.allApart [] L then 0 else minF L.length (fun x => 1 + t.behindW (t.depthF n) x L) t.tests
/-- how many tests are enough for some worlds -/
def Qt.depth (t : Qt) (L : List Int) : Int := t.depthF L.length L
/-- how many are enough behind a test -/
def Qt.behind (t : Qt) (x : Tp) (L : List Int) : Int := t.behindW t.depth x L
theorem shown_len (t : Qt) (x : Tp) (L : List Int) (f : Int) : (t.shown x L f).length ≤ L.length := List.length_filter_le _ _
theorem shown_all {t : Qt} {x : Tp} {L : List Int} {f : Int} (h : (t.shown x L f).length = L.length) : t.shown x L f = L := (List.filter_sublist (l := L)).eq_of_length h
theorem behindW_congr {t : Qt} {d d' : List Int → Int} {x : Tp} {L : List Int} (h : ∀ f : Nat, (t.shown x L f).length < L.length → d (t.shown x L f) = d' (t.shown x L f)) : t.behindW d x L = t.behindW d' x L := by
  unfold Qt.behindW
  split
  · rfl
  · rename_i hn
    have hn := anyB_false.1 (by simpa using hn)
    refine maxTo_congr fun f hf => ?_
    split
    · refine h f ?_
      have h1 := hn f hf
      have h2 := shown_len t x L (f : Int)
      simp at h1
      omega
    · rfl
theorem allApart_short {t : Qt} {l : List Tp} {L : List Int} (h : L.length < 2) : t.allApart l L = true := by
  refine allApart_iff.2 fun a ha b hb hs => ?_
  obtain ⟨i, hi, rfl⟩ := mem_intL0 ha
  obtain ⟨k, hk, rfl⟩ := mem_intL0 hb
  obtain rfl : i = k := by omega
  rw [someB_self] at hs
  cases hs
theorem depthF_fuel (t : Qt) : ∀ (n m : Nat) (L : List Int), L.length ≤ n → L.length ≤ m → t.depthF n L = t.depthF m L
  | 0, 0, _, _, _ => rfl
  | 0, m + 1, L, h, _ => by
    have : t.allApart [] L = true := allApart_short (by omega)
    simp [Qt.depthF, this]
  | n + 1, 0, L, _, h => by
    have : t.allApart [] L = true := allApart_short (by omega)
    simp [Qt.depthF, this]
  | n + 1, m + 1, L, h1, h2 => by
    unfold Qt.depthF
    split
    · rfl
    · exact minF_congr fun x _ => by rw [behindW_congr fun f hf => depthF_fuel t n m _ (by omega) (by omega)]
theorem depth_step (t : Qt) (L : List Int) : t.depth L = if t.allApart [] L then 0 else minF L.length (fun x => 1 + t.behind x L) t.tests := by
  unfold Qt.depth
  cases hL : L.length with
  | zero =>
    have : t.allApart [] L = true := allApart_short (by omega)
    simp [Qt.depthF, this]
  | succ n =>
    unfold Qt.depthF
    rw [hL]
    split
    · rfl
    · refine minF_congr fun x _ => ?_
      unfold Qt.behind
      rw [behindW_congr fun f hf => ?_]
      exact depthF_fuel t _ _ _ (by omega) (Nat.le_refl _)
theorem behind_nonneg (t : Qt) (x : Tp) (L : List Int) : 0 ≤ t.behind x L := by
  unfold Qt.behind Qt.behindW
  split
  · omega
  · exact maxTo_nonneg _ _
theorem depth_nonneg (t : Qt) (L : List Int) : 0 ≤ t.depth L := by
  rw [depth_step]
  split
  · omega
  · have h : ¬ minF (L.length : Int) (fun x => 1 + t.behind x L) t.tests ≤ -1 := fun h => by
      rcases minF_le.1 h with h | ⟨x, _, h⟩
      · omega
      · have := behind_nonneg t x L
        omega
    omega
theorem minF_start (n0 : Int) (g : Tp → Int) (l : List Tp) : minF n0 g l ≤ n0 := minF_le.2 (.inl (Int.le_refl _))
theorem depth_le (t : Qt) (L : List Int) : t.depth L ≤ L.length := by
  rw [depth_step]
  split
  · omega
  · exact minF_start _ _ _
/-- a test that tells no two of some worlds apart -/
theorem shown_one {t : Qt} {x : Tp} {L : List Int} {f : Int} (h : (t.shown x L f).length = L.length) {a b : Int} (ha : a ∈ L) (hb : b ∈ L) : t.F a x = t.F b x := by
  have h1 := shown_all h
  rw [← h1] at ha hb
  have h2 := (List.mem_filter.1 ha).2
  have h3 := (List.mem_filter.1 hb).2
  rw [eq_of_beq h2, eq_of_beq h3]
/-- falls are from 0 to 9 -/
def Qt.Falls (t : Qt) (L : List Int) : Prop := ∀ a, a ∈ L → ∀ x, x ∈ t.tests → 0 ≤ t.F a x ∧ t.F a x ≤ 9
theorem Qt.Falls.shown {t : Qt} {L : List Int} (h : t.Falls L) (x : Tp) (f : Int) : t.Falls (t.shown x L f) := fun a ha => h a (List.mem_filter.1 ha).1
theorem not_alike {t : Qt} {L : List Int} (h : t.allApart [] L = false) : ∃ a, a ∈ L ∧ ∃ b, b ∈ L ∧ ∃ x, x ∈ t.tests ∧ t.F a x ≠ t.F b x := by
  have : ¬ t.allApart [] L = true := by rw [h]; decide
  rw [allApart_iff] at this
  simp only [Classical.not_forall] at this
  obtain ⟨a, ha, b, hb, hs, _⟩ := this
  obtain ⟨x, hx, hn⟩ := someB_iff.1 hs
  exact ⟨a, ha, b, hb, x, hx, hn⟩
/-- a test that tells two apart: behind it fewer are enough than there are worlds less 1 -/
theorem behind_split {t : Qt} {L : List Int} (hd : ∀ L', L'.length < L.length → L' ≠ [] → t.depth L' < L'.length) {x : Tp} {a b : Int} (ha : a ∈ L) (hb : b ∈ L) (hne : t.F a x ≠ t.F b x) : t.behind x L = maxTo (fun f => t.depth (t.shown x L f)) 10 ∧ t.behind x L + 1 < L.length := by
  have hno : ∀ f : Int, (t.shown x L f).length < L.length := fun f => by
    have h1 := shown_len t x L f
    rcases Nat.eq_or_lt_of_le h1 with h2 | h2
    · exact absurd (shown_one h2 ha hb) hne
    · exact h2
  have hz : ∀ L' : List Int, ¬ 1 < L'.length → t.depth L' = 0 := fun L' h => by rw [depth_step, allApart_short (by omega)]; rfl
  have e : t.behind x L = maxTo (fun f => t.depth (t.shown x L f)) 10 := by
    unfold Qt.behind Qt.behindW
    rw [anyB_false.2 fun f _ => by have := hno f; simp; omega]
    refine maxTo_congr fun f _ => ?_
    split
    · rfl
    · rename_i h
      rw [hz _ h]
  have h2 : 2 ≤ L.length := by
    obtain ⟨i, hi, e1⟩ := mem_intL0 ha
    obtain ⟨k, hk, e2⟩ := mem_intL0 hb
    rcases Nat.lt_or_ge L.length 2 with h | h
    · obtain rfl : i = k := by omega
      exact absurd (by rw [← e1, e2]) hne
    · exact h
  refine ⟨e, ?_⟩
  rw [e]
  have : maxTo (fun f => t.depth (t.shown x L f)) 10 ≤ L.length - 2 := maxTo_le.2 ⟨by omega, fun f _ => by
    have h3 := hno f
    by_cases h4 : t.shown x L f = []
    · rw [h4, hz [] (by simp)]; omega
    · have := hd _ h3 h4
      omega⟩
  omega
theorem depth_lt (t : Qt) : ∀ (n : Nat) (L : List Int), L.length ≤ n → L ≠ [] → t.depth L < L.length
  | 0, L, h, h0 => absurd (List.eq_nil_of_length_eq_zero (by omega)) h0
  | n + 1, L, h, h0 => by
    have hlen : 0 < L.length := List.length_pos_iff.2 h0
    rw [depth_step]
    split
    · omega
    · rename_i hn
      obtain ⟨a, ha, b, hb, x, hx, hne⟩ := not_alike (by simpa using hn)
      have := (behind_split (fun L' h1 h2 => depth_lt t n L' (by omega) h2) ha hb hne).2
      have hm : minF (L.length : Int) (fun x => 1 + t.behind x L) t.tests ≤ 1 + t.behind x L := minF_le.2 (.inr ⟨x, hx, Int.le_refl _⟩)
      omega
theorem depth_below (t : Qt) {L : List Int} (h : L ≠ []) : t.depth L < L.length := depth_lt t L.length L (Nat.le_refl _) h
theorem behind_none {t : Qt} {L : List Int} (hf : t.Falls L) {x : Tp} (hx : x ∈ t.tests) (h0 : L ≠ []) (h : ∀ a, a ∈ L → ∀ b, b ∈ L → t.F a x = t.F b x) : t.behind x L = L.length ∧ ∃ f : Nat, f < 10 ∧ t.shown x L f = L := by
  obtain ⟨a, ha⟩ := List.exists_mem_of_ne_nil L h0
  obtain ⟨h1, h2⟩ := hf a ha x hx
  have hs : t.shown x L ((t.F a x).toNat : Int) = L := List.filter_eq_self.2 fun b hb => by
    rw [h b hb a ha]
    simp
    omega
  refine ⟨?_, (t.F a x).toNat, by omega, hs⟩
  unfold Qt.behind Qt.behindW
  rw [if_pos (anyB_true.2 ⟨(t.F a x).toNat, by omega, by rw [hs]; simp⟩)]
/-- what the program reckons behind a test -/
def Qt.afterP (t : Qt) (x : Tp) (L : List Int) : Int := if anyB (fun f => t.shown x L f == L) 10 then 1024 else maxTo (fun f => t.depth (t.shown x L f)) 10
/-- how the program reckons -/
theorem depth_prog {t : Qt} {L : List Int} (hf : t.Falls L) (hl : L.length ≤ 100) : t.depth L = if t.allApart [] L then 0 else minF 1024 (fun x => 1 + t.afterP x L) t.tests := by
  rw [depth_step]
  split
  · rfl
  rename_i hn
  obtain ⟨a, ha, b, hb, x0, hx0, hne⟩ := not_alike (by simpa using hn)
  have hd := fun (L' : List Int) (_ : L'.length < L.length) (h2 : L' ≠ []) => depth_below t h2
  have hsp : ∀ x, (∃ a, a ∈ L ∧ ∃ b, b ∈ L ∧ t.F a x ≠ t.F b x) → t.afterP x L = t.behind x L ∧ t.behind x L + 1 < L.length := fun x ⟨a, ha, b, hb, hne⟩ => by
    obtain ⟨h1, h2⟩ := behind_split hd ha hb hne
    refine ⟨?_, h2⟩
    rw [h1]
    unfold Qt.afterP
    rw [anyB_false.2 fun f _ => ?_]
    · rfl
    · cases he : t.shown x L f == L with
      | false => rfl
      | true =>
        have := eq_of_beq he
        exact absurd (shown_one (by rw [this]) ha hb) hne
  have hns : ∀ x, x ∈ t.tests → (¬ ∃ a, a ∈ L ∧ ∃ b, b ∈ L ∧ t.F a x ≠ t.F b x) → t.afterP x L = 1024 ∧ t.behind x L = L.length := fun x hx h => by
    have h' : ∀ a, a ∈ L → ∀ b, b ∈ L → t.F a x = t.F b x := fun a ha b hb => Classical.byContradiction fun hne => h ⟨a, ha, b, hb, hne⟩
    obtain ⟨h1, f, hf1, hf2⟩ := behind_none hf hx (List.ne_nil_of_mem ha) h'
    refine ⟨?_, h1⟩
    unfold Qt.afterP
    rw [if_pos (anyB_true.2 ⟨f, hf1, by rw [hf2]; simp⟩)]
  obtain ⟨h3, h4⟩ := hsp x0 ⟨a, ha, b, hb, hne⟩
  refine Int.le_antisymm (minF_le.2 ?_) (minF_le.2 ?_)
  · rcases minF_le.1 (Int.le_refl (minF 1024 (fun x => 1 + t.afterP x L) t.tests)) with h | ⟨x, hx, h⟩
    · exact .inl (by omega)
    · by_cases hs : ∃ a, a ∈ L ∧ ∃ b, b ∈ L ∧ t.F a x ≠ t.F b x
      · exact .inr ⟨x, hx, by rw [(hsp x hs).1] at h; exact h⟩
      · exact .inl (by have := (hns x hx hs).1; omega)
  · rcases minF_le.1 (Int.le_refl (minF (L.length : Int) (fun x => 1 + t.behind x L) t.tests)) with h | ⟨x, hx, h⟩
    · exact .inr ⟨x0, hx0, by omega⟩
    · by_cases hs : ∃ a, a ∈ L ∧ ∃ b, b ∈ L ∧ t.F a x ≠ t.F b x
      · exact .inr ⟨x, hx, by rw [(hsp x hs).1]; exact h⟩
      · exact .inr ⟨x0, hx0, by have := (hns x hx hs).2; omega⟩
end Go.Proofs.YtchhodikgllgnaaDoor
/- Spans, what is known, who is blamed: plain Lean. -/
namespace Go.Proofs.YtchhodikgllgnaaDoor
open Go.RowKit Go.Sort
theorem spanN_le {g : Nat → Int} {v : Int} : ∀ {n : Nat}, 0 < n → ((spanN g n).2 ≤ v ↔ ∀ i, i < n → g i ≤ v)
  | 0, h => by omega
  | 1, _ => by
    constructor
    · intro h i hi
      obtain rfl : i = 0 := by omega
      exact h
    · intro h
      exact h 0 (by omega)
  | n + 2, _ => by
    have ih := spanN_le (g := g) (v := v) (n := n + 1) (by omega)
    have e : (spanN g (n + 2)).2 = max (spanN g (n + 1)).2 (g (n + 1)) := rfl
    rw [e]
    constructor
    · intro h i hi
      rcases Nat.lt_or_ge i (n + 1) with h1 | h1
      · exact ih.1 (by omega) i h1
      · obtain rfl : i = n + 1 := by omega
        omega
    · intro h
      have h1 := ih.2 fun i hi => h i (by omega)
      have h2 := h (n + 1) (by omega)
      omega
theorem spanN_ge {g : Nat → Int} {v : Int} : ∀ {n : Nat}, 0 < n → (v ≤ (spanN g n).1 ↔ ∀ i, i < n → v ≤ g i)
  | 0, h => by omega
  | 1, _ => by
    constructor
    · intro h i hi
      obtain rfl : i = 0 := by omega
      exact h
    · intro h
      exact h 0 (by omega)
  | n + 2, _ => by
    have ih := spanN_ge (g := g) (v := v) (n := n + 1) (by omega)
    have e : (spanN g (n + 2)).1 = min (spanN g (n + 1)).1 (g (n + 1)) := rfl
    rw [e]
    constructor
    · intro h i hi
      rcases Nat.lt_or_ge i (n + 1) with h1 | h1
      · exact ih.1 (by omega) i h1
      · obtain rfl : i = n + 1 := by omega
        omega
    · intro h
      have h1 := ih.2 fun i hi => h i (by omega)
      have h2 := h (n + 1) (by omega)
      omega
theorem spanN_congr {g h : Nat → Int} : ∀ {n : Nat}, (∀ i, i < n → g i = h i) → spanN g n = spanN h n
  | 0, _ => rfl
  | 1, e => by simp [spanN, e 0]
  | n + 2, e => by
    have ih := spanN_congr (g := g) (h := h) (n := n + 1) fun i hi => e i (by omega)
    simp only [spanN, ih, e (n + 1) (by omega)]
/-- between what a number of some worlds is -/
def spanOf (f : Int → Int) (L : List Int) : Int × Int := spanN (fun k => f (intL0 L k)) L.length
theorem spanOf_le {f : Int → Int} {L : List Int} {v : Int} (h : L ≠ []) : (spanOf f L).2 ≤ v ↔ ∀ a, a ∈ L → f a ≤ v := by
  unfold spanOf
  rw [spanN_le (List.length_pos_iff.2 h)]
  exact ⟨fun h a ha => by obtain ⟨i, hi, rfl⟩ := mem_intL0 ha; exact h i hi, fun h i hi => h _ (intL0_mem hi)⟩
theorem spanOf_ge {f : Int → Int} {L : List Int} {v : Int} (h : L ≠ []) : v ≤ (spanOf f L).1 ↔ ∀ a, a ∈ L → v ≤ f a := by
  unfold spanOf
  rw [spanN_ge (List.length_pos_iff.2 h)]
  exact ⟨fun h a ha => by obtain ⟨i, hi, rfl⟩ := mem_intL0 ha; exact h i hi, fun h i hi => h _ (intL0_mem hi)⟩
theorem spanOf_in {f : Int → Int} {L : List Int} {a : Int} (ha : a ∈ L) : (spanOf f L).1 ≤ f a ∧ f a ≤ (spanOf f L).2 :=
  ⟨(spanOf_ge (List.ne_nil_of_mem ha)).1 (Int.le_refl _) a ha, (spanOf_le (List.ne_nil_of_mem ha)).1 (Int.le_refl _) a ha⟩
theorem spanOf_order {f : Int → Int} {L : List Int} (h : L ≠ []) : (spanOf f L).1 ≤ (spanOf f L).2 := by
  obtain ⟨a, ha⟩ := List.exists_mem_of_ne_nil L h
  have := spanOf_in (f := f) ha
  omega
/-- with the same numbers the span is the same -/
theorem spanOf_alike {f f' : Int → Int} {L L' : List Int} (h1 : ∀ a, a ∈ L → ∃ b, b ∈ L' ∧ f a = f' b) (h2 : ∀ b, b ∈ L' → ∃ a, a ∈ L ∧ f a = f' b) : spanOf f L = spanOf f' L' := by
  by_cases h : L = []
  · subst h
    have : L' = [] := by
      cases L' with
      | nil => rfl
      | cons b _ =>
        obtain ⟨a, ha, _⟩ := h2 b (by simp)
        cases ha
    subst this
    rfl
  · have h' : L' ≠ [] := by
      obtain ⟨a, ha⟩ := List.exists_mem_of_ne_nil L h
      obtain ⟨b, hb, _⟩ := h1 a ha
      exact List.ne_nil_of_mem hb
    refine Prod.ext (Int.le_antisymm ?_ ?_) (Int.le_antisymm ?_ ?_)
    · refine (spanOf_ge h').2 fun b hb => ?_
      obtain ⟨a, ha, e⟩ := h2 b hb
      rw [← e]
      exact (spanOf_in ha).1
    · refine (spanOf_ge h).2 fun a ha => ?_
      obtain ⟨b, hb, e⟩ := h1 a ha
      rw [e]
      exact (spanOf_in hb).1
    · refine (spanOf_le h).2 fun a ha => ?_
      obtain ⟨b, hb, e⟩ := h1 a ha
      rw [e]
      exact (spanOf_in hb).2
    · refine (spanOf_le h').2 fun b hb => ?_
      obtain ⟨a, ha, e⟩ := h2 b hb
      rw [← e]
      exact (spanOf_in ha).2
theorem between_of (t : Qt) (p q : Nat) : t.between p q = spanOf (fun a => t.F a (p, q)) t.leftL := rfl
/-! ### What is known -/
/-- of how many of the first n something is so -/
def cntB (p : Nat → Bool) : Nat → Nat
  | 0 => 0
  | n + 1 => if p n then cntB p n + 1 else cntB p n
theorem cntB_le (p : Nat → Bool) : ∀ n, cntB p n ≤ n
  | 0 => Nat.le_refl 0
  | n + 1 => by have := cntB_le p n; unfold cntB; split <;> omega
theorem cntB_zero {p : Nat → Bool} : ∀ {n : Nat}, cntB p n = 0 ↔ ∀ i, i < n → p i = false
  | 0 => by simp [cntB]
  | n + 1 => by
    have ih := cntB_zero (p := p) (n := n)
    unfold cntB
    split
    · rename_i h
      exact ⟨fun e => by omega, fun e => by rw [e n (by omega)] at h; cases h⟩
    · rename_i h
      rw [ih]
      refine ⟨fun e i hi => ?_, fun e i hi => e i (by omega)⟩
      rcases Nat.lt_or_ge i n with h1 | h1
      · exact e i h1
      · obtain rfl : i = n := by omega
        simpa using h
theorem cntB_all {p : Nat → Bool} : ∀ {n : Nat}, cntB p n = n ↔ ∀ i, i < n → p i = true
  | 0 => by simp [cntB]
  | n + 1 => by
    have ih := cntB_all (p := p) (n := n)
    have hl := cntB_le p n
    unfold cntB
    split
    · rename_i h
      constructor
      · intro e i hi
        rcases Nat.lt_or_ge i n with h1 | h1
        · exact ih.1 (by omega) i h1
        · obtain rfl : i = n := by omega
          exact h
      · intro e
        have := ih.2 fun i hi => e i (by omega)
        omega
    · rename_i h
      exact ⟨fun e => by omega, fun e => absurd (e n (by omega)) h⟩
/-- what is known, of so many of all -/
def knownK (so all : Int) : Int := if so = 0 then 2 else if so = all then 1 else 3
theorem harms_known {g : Nat → Int} {n : Nat} (hn : 0 < n) (law : Int) : harmK (spanN g n) law = knownK (cntB (fun k => decide (law < g k)) n) n := by
  unfold harmK knownK
  have h1 : law < (spanN g n).1 ↔ cntB (fun k => decide (law < g k)) n = n := by
    rw [cntB_all]
    have := spanN_ge (g := g) (v := law + 1) hn
    constructor
    · intro h i hi
      have := this.1 (by omega) i hi
      simp
      omega
    · intro h
      have := this.2 fun i hi => by have := h i hi; simp at this; omega
      omega
  have h2 : (spanN g n).2 ≤ law ↔ cntB (fun k => decide (law < g k)) n = 0 := by
    rw [cntB_zero, spanN_le hn]
    constructor
    · intro h i hi
      have := h i hi
      simp
      omega
    · intro h i hi
      have := h i hi
      simp at this
      omega
  have hl := cntB_le (fun k => decide (law < g k)) n
  by_cases h3 : law < (spanN g n).1
  · have h4 := h1.1 h3
    rw [if_pos h3, if_neg (by omega), if_pos (by omega)]
  · rw [if_neg h3]
    have h4 := fun h => h3 (h1.2 h)
    by_cases h5 : (spanN g n).2 ≤ law
    · rw [if_pos h5, if_pos (by have := h2.1 h5; omega)]
    · have h6 := fun h => h5 (h2.2 h)
      rw [if_neg h5, if_neg (by omega), if_neg (by omega)]
/-! ### Draws -/
/-- by how much all wells lower a well together in a world -/
def Qt.lowers (t : Qt) (d : Nat → Int) (n : Nat) (q : Nat) (a : Int) : Int := sumTo (fun i => d i * t.F a (i, q)) n
/-- whether a well lowers another one the most in a world (the reference's way) -/
def Qt.blamed (t : Qt) (d : Nat → Int) (m q p : Nat) (a : Int) : Bool :=
  !anyB (fun i => decide (i ≠ p) && decide (i ≠ q) && decide (d p * t.F a (p, q) ≤ d i * t.F a (i, q))) m && (decide (p ≠ q) && decide (0 < d p * t.F a (p, q)))
/-- the program's way -/
def Qt.blamedP (t : Qt) (d : Nat → Int) (m q p : Nat) (a : Int) : Bool :=
  !anyB (fun k => decide (d p * t.F a (p, q) ≤ if k ≠ q ∧ k ≠ p then d k * t.F a (k, q) else 0)) m
theorem blamed_prog {t : Qt} {d : Nat → Int} {m q p : Nat} {a : Int} (hp : p < m) (hne : p ≠ q) : t.blamedP d m q p a = t.blamed d m q p a := by
  unfold Qt.blamedP Qt.blamed
  refine Bool.eq_iff_iff.2 ?_
  simp only [Bool.and_eq_true, Bool.not_eq_true', anyB_false, decide_eq_true_eq, decide_eq_false_iff_not, Bool.and_eq_false_iff]
  constructor
  · intro h
    refine ⟨fun i hi => ?_, hne, ?_⟩
    · have := h i hi
      by_cases h1 : i ≠ p
      · by_cases h2 : i ≠ q
        · rw [if_pos ⟨h2, h1⟩] at this
          exact .inr this
        · exact .inl (.inr h2)
      · exact .inl (.inl h1)
    · have := h p hp
      rw [if_neg (fun e => e.2 rfl)] at this
      omega
  · rintro ⟨h1, _, h2⟩ k hk
    split
    · rename_i hc
      rcases h1 k hk with (h | h) | h
      · exact absurd hc.2 h
      · exact absurd hc.1 h
      · exact h
    · omega
/-- the well that is blamed: the first one that is so in all worlds; as many as there are wells, if none -/
def Qt.blame (t : Qt) (d : Nat → Int) (m q : Nat) (L : List Int) : Nat := firstFrom (fun p => L.all fun a => t.blamed d m q p a) m 0
end Go.Proofs.YtchhodikgllgnaaDoor
/- Walks of the judge's helpers: SameInts, Known of the reference 01; Huge of the law 05. Conditions: lengths are Go's. -/
namespace Go.Proofs.YtchhodikgllgnaaDoor
open Go.RowKit Go.Sort
theorem known1_any (so all : Int) (w : World) :
    Calls Tryd.prog 89 #[.int .i64 so, .int .i64 all] w fun e w' => e = .returned (.int .i64 (knownK so all)) ∧ Below w.heap.size w w' := by
  by_cases h0 : so = 0
  · have g0 : (so == 0) = true := by simp [h0]
    have HK := Lib.hid (show knownK so all = 2 by unfold knownK; rw [if_pos h0])
    go_enter Tryd.func89, Tryd.ntmps89
    go_wp2_with fail
    go_ret
    exact ⟨by rw [HK.out]; rfl, Below.refl _ _⟩
  · have g0 : (so == 0) = false := by simp [h0]
    by_cases h1 : so = all
    · have g1 : (so == all) = true := by simp [h1]
      have HK := Lib.hid (show knownK so all = 1 by unfold knownK; rw [if_neg h0, if_pos h1])
      clear h1
      go_enter Tryd.func89, Tryd.ntmps89
      go_wp2_with fail
      go_ret
      exact ⟨by rw [HK.out]; rfl, Below.refl _ _⟩
    · have g1 : (so == all) = false := by simp [h1]
      have HK := Lib.hid (show knownK so all = 3 by unfold knownK; rw [if_neg h0, if_neg h1])
      go_enter Tryd.func89, Tryd.ntmps89
      go_wp2_with fail
      go_ret
      exact ⟨by rw [HK.out]; rfl, Below.refl _ _⟩
theorem sameInts_any (A B : Option Addr) (n m c c' : Nat) (f g : Nat → Int) (w : World) (hn : n ≤ 9223372036854775807) (hm : m ≤ 9223372036854775807) (hf : IntsAt w A n f) (hg : IntsAt w B m g) :
    Calls Tryd.prog 54 #[.slice A n c, .slice B m c'] w fun e w' => e = .returned (.bool (decide (n = m) && !anyB (fun i => f i != g i) n)) ∧ Below w.heap.size w w' := by
  have HF := Lib.hid hf
  have HG := Lib.hid hg
  clear hf hg
  by_cases he : n = m
  · subst he
    go_enter Tryd.func54, Tryd.ntmps54
    go_wp2_with fail
    go_loopw [5] (fun i wr => ∃ k : Nat, k ≤ n ∧ i = .int .i64 k ∧ anyB (fun i => f i != g i) k = false ∧ Below w.heap.size w wr) (fun i _ => n - (intOf i).toNat)
    case atStart => exact ⟨0, Nat.zero_le _, rfl, rfl, Below.refl _ _⟩
    case round =>
      obtain ⟨k, hk, rfl, hno, hbel⟩ := hrel
      have HN := Lib.hid hno
      clear hno
      by_cases hlt : k < n
      · rcases HF.out.mono hbel with h0 | ⟨b, o, hA, hb, hcell⟩
        · omega
        have c0 := hcell k hlt
        clear hcell
        subst hA
        rcases HG.out.mono hbel with h0 | ⟨b2, o2, hA2, hb2, hcell2⟩
        · omega
        have c2 := hcell2 k hlt
        clear hcell2
        subst hA2
        cases hd : (f k != g k)
        all_goals
          go_wp2_with fail
          refine wp_region_quiet_below (by kernel_rfl) (by kernel_rfl) ?_
          repeat (go_big_quiet_step ((fail)))
          refine wpQuiet_nil ?_
          intro w3 hw3
          have hb3 := below_of_regrown hw3
          clear hw3
          go_wp2_with fail
        · go_roundw
          case rel => exact ⟨k + 1, by omega, by go_num, anyB_step HN.out hd, bTrans hbel hb3⟩
          case measure => simp [intOf]; omega
        · go_ret
          exact ⟨ret_bool (by rw [anyB_hit hlt hd]; simp), bTrans hbel hb3⟩
      · obtain rfl : k = n := by omega
        go_wp2_with fail
        go_ret
        exact ⟨ret_bool (by rw [HN.out]; simp), hbel⟩
  · have hne : ((n : Int) == (m : Int)) = false := by simp; omega
    have hne2 : ((n : Int) != (m : Int)) = true := by simp; omega
    go_enter Tryd.func54, Tryd.ntmps54
    go_wp2_with fail
    all_goals
      go_ret
      exact ⟨ret_bool (by simp [he]), Below.refl _ _⟩
end Go.Proofs.YtchhodikgllgnaaDoor
/- The walk of Huge of the law 05. Conditions: lengths are Go's. -/
namespace Go.Proofs.YtchhodikgllgnaaDoor
open Go.RowKit Go.Sort
/-- far too much of something -/
def Wd.huge (x : Wd) : Bool := decide (40 < x.n) || anyB (fun k => decide (40 < x.len k)) x.n
def Qt.huge (t : Qt) : Bool := decide (40 < t.nw) || decide (40 < t.nf) || anyB (fun i => (t.world i).huge) t.nw
set_option maxHeartbeats 4000000 in
set_option maxRecDepth 100000 in
theorem huge_any (Aw Af : Option Addr) (cw cf : Nat) (t : Qt) (w : World) (hs : t.Small) (hT : QAt w Aw Af t) :
    Calls Tryd.prog 31 #[.agg #[.int .i64 t.wells, .slice Aw t.nw cw, .slice Af t.nf cf]] w fun e w' => e = .returned (.bool t.huge) ∧ Below w.heap.size w w' := by
  have hb0 := bAlloc (Below.refl w.heap.size w) (.cells #[.int .i64 t.wells, .slice Aw t.nw cw, .slice Af t.nf cf] 25)
  have HT := Lib.hid (hT.mono hb0)
  have HB := Lib.hid hb0
  have HS := Lib.hid hs
  clear hT hb0 hs
  by_cases h1 : 40 < t.nw
  · have HH := Lib.hid (show t.huge = true by unfold Qt.huge; simp [h1])
    have g1 : decide ((t.nw : Int) > 40) = true := by simp; omega
    have g2 : (40 : Int) < (t.nw : Int) := by omega
    go_enter Tryd.func31, Tryd.ntmps31
    go_wp2_with fail
    go_ret
    exact ⟨ret_bool (by rw [HH.out]), HB.out⟩
  have g1 : decide ((t.nw : Int) > 40) = false := by simp; omega
  have g2 : ¬ (40 : Int) < (t.nw : Int) := by omega
  by_cases h2 : 40 < t.nf
  · have HH := Lib.hid (show t.huge = true by unfold Qt.huge; simp [h2])
    have g3 : (40 : Int) < (t.nf : Int) := by omega
    go_enter Tryd.func31, Tryd.ntmps31
    go_wp2_with fail
    go_ret
    exact ⟨ret_bool (by rw [HH.out]), HB.out⟩
  have g3 : ¬ (40 : Int) < (t.nf : Int) := by omega
  have g4 : decide ((t.nf : Int) > 40) = false := by simp; omega
  have g5 : decide ((40 : Int) < (t.nf : Int)) = false := by simp; omega
  have g6 : decide ((40 : Int) < (t.nw : Int)) = false := by simp; omega
  have HH := Lib.hid (show t.huge = anyB (fun i => (t.world i).huge) t.nw by unfold Qt.huge; simp [h1, h2])
  have H1 := Lib.hid (show t.nw ≤ 40 by omega)
  clear h1 h2
  go_enter Tryd.func31, Tryd.ntmps31
  go_wp2_with fail
  go_loopw [3] (fun s3 wr => ∃ i : Nat, i ≤ t.nw ∧ s3 = .int .i64 i ∧ anyB (fun i => (t.world i).huge) i = false ∧ Below (w.alloc (.cells #[.int .i64 t.wells, .slice Aw t.nw cw, .slice Af t.nf cf] 25)).heap.size (w.alloc (.cells #[.int .i64 t.wells, .slice Aw t.nw cw, .slice Af t.nf cf] 25)) wr) (fun s3 _ => t.nw - (intOf s3).toNat)
  case atStart => exact ⟨0, Nat.zero_le _, rfl, rfl, Below.refl _ _⟩
  case round =>
    obtain ⟨i, hi, rfl, hno, hbel⟩ := hrel
    have HN := Lib.hid hno
    have HL := Lib.hid hbel
    obtain ⟨bc3, bf3⟩ := bcell hbel
    have hz3 := hbel.size
    simp only [World.size_alloc] at hz3
    have hy3 : w.heap.size < wr.heap.size := hz3
    clear hbel hno
    by_cases hlt : i < t.nw
    · rcases (HT.out.mono HL.out).worlds with h0 | ⟨b, o, hA, hb, hcell⟩
      · omega
      obtain ⟨A', c', c0, hrow, hlen⟩ := hcell i hlt
      have HROW := Lib.hid hrow
      have i1 : (i : Int) < (t.nw : Int) := by omega
      have i0 : i ≤ 40 := by have := H1.out; omega
      obtain ⟨n, hn⟩ : ∃ n, (t.world i).n = n := ⟨_, rfl⟩
      rw [hn] at c0
      have HXN := Lib.hid hn
      clear hcell hrow hlen
      subst hA
      by_cases h3 : 40 < n
      · have HX := Lib.hid (show t.huge = true by rw [HH.out]; exact anyB_hit hlt (by unfold Wd.huge; rw [hn]; simp [h3]))
        have g7 : (40 : Int) < (n : Int) := by omega
        clear hn
        go_wp2_with fail
        go_ret
        exact ⟨ret_bool (by rw [HX.out]), bTrans HB.out HL.out⟩
      · have g7 : ¬ (40 : Int) < (n : Int) := by omega
        have g8 : decide ((40 : Int) < (n : Int)) = false := by simp; omega
        have n40 : n ≤ 40 := by omega
        have HY := Lib.hid (show (t.world i).huge = anyB (fun k => decide (40 < (t.world i).len k)) n by unfold Wd.huge; rw [hn]; simp [h3])
        clear hn h3
        go_wp2_with fail
        go_loopw [4] (fun s4 wx => ∃ k : Nat, k ≤ n ∧ s4 = .int .i64 k ∧ anyB (fun k => decide (40 < (t.world i).len k)) k = false ∧ wx = wr) (fun s4 _ => n - (intOf s4).toNat)
        case atStart => exact ⟨0, Nat.zero_le _, rfl, rfl, rfl⟩
        case round =>
          obtain ⟨k, hk, rfl, hno, rfl⟩ := hrel
          have HK := Lib.hid hno
          clear hno
          by_cases hlk : k < n
          · rcases HROW.out with h0 | ⟨b', o', hA, hb', hc'⟩
            · have := HXN.out
              omega
            obtain ⟨A'', c'', h3, _, h5⟩ := hc' k (by rw [HXN.out]; exact hlk)
            have k1 : (k : Int) < (n : Int) := by omega
            have k0 : (0 : Int) ≤ (k : Int) := by omega
            clear hc'
            subst hA
            obtain ⟨l, hl⟩ : ∃ l, (t.world i).len k = l := ⟨_, rfl⟩
            rw [hl] at h3 h5
            have HLL := Lib.hid hl
            clear hl
            by_cases h4 : 40 < l
            · have HX := Lib.hid (show t.huge = true by rw [HH.out]; refine anyB_hit hlt ?_; rw [HY.out]; exact anyB_hit hlk (by rw [HLL.out]; simp [h4]))
              have g9 : (40 : Int) < (l : Int) := by omega
              go_wp2_with fail
              go_ret
              exact ⟨ret_bool (by rw [HX.out]), bTrans HB.out HL.out⟩
            · have HX := Lib.hid (anyB_step HK.out (show (fun k => decide (40 < (t.world i).len k)) k = false by simp only [HLL.out]; simpa using h4))
              have g9 : ¬ (40 : Int) < (l : Int) := by omega
              go_wp2_with fail
              go_roundw
              case rel =>
                first
                | exact ⟨k + 1, by omega, by go_num, HX.out, by trivial⟩
                | ((repeat apply Exists.intro)
                   refine ⟨⟨k + 1, by omega, ?_, HX.out, rfl⟩, rfl⟩
                   go_num)
              case measure => simp [intOf]; omega
          · obtain rfl : k = n := by omega
            have HX := Lib.hid (anyB_step HN.out (show (fun i => (t.world i).huge) i = false by simp only [HY.out]; exact HK.out))
            have k1 : ¬ (k : Int) < (k : Int) := by omega
            go_wp2_with fail
            go_roundw
            case rel =>
              first
              | exact ⟨i + 1, by omega, by go_num, HX.out, HL.out⟩
              | ((repeat apply Exists.intro)
                 refine ⟨⟨i + 1, by omega, ?_, HX.out, HL.out⟩, rfl⟩
                 go_num)
            case measure => simp [intOf]; omega
    · obtain rfl : i = t.nw := by omega
      have HX := Lib.hid (show t.huge = false by rw [HH.out]; exact HN.out)
      go_wp2_with fail
      go_ret
      exact ⟨ret_bool (by rw [HX.out]), bTrans HB.out HL.out⟩
end Go.Proofs.YtchhodikgllgnaaDoor
/- A region that draws its order in which one operation stands between the others: all before it are calm and it waits for them, all behind it wait for it and are calm. No program in sight. -/
namespace Go.Proofs.YtchhodikgllgnaaDoor
open Go.RowKit Go.Sort
section
variable {P : Program} {ops : Array Oper} {md : Region.Mode}
/-- whether operation j waits for operation i, over others too -/
def ancB (md : Region.Mode) (ops : Array Oper) : Nat → Nat → Nat → Bool
  | 0, j, i => waits md ops j i
  | f + 1, j, i => waits md ops j i || (List.range ops.size).any fun k => decide (i < k) && waits md ops j k && ancB md ops f k i
theorem Shut.anc {listed : Array Bool} (hs : Shut md ops listed) : ∀ (f j i : Nat), listed.getD j false = true → ancB md ops f j i = true → listed.getD i false = true
  | 0, j, i, h1, h2 => hs.shut j i h1 h2
  | f + 1, j, i, h1, h2 => by
    unfold ancB at h2
    rw [Bool.or_eq_true] at h2
    rcases h2 with h2 | h2
    · exact hs.shut j i h1 h2
    · obtain ⟨k, _, h3⟩ := List.any_eq_true.1 h2
      simp only [Bool.and_eq_true] at h3
      exact Shut.anc hs f k i (hs.shut j k h1 h3.1.2) h3.2
theorem anc_listed {listed : Array Bool} (hs : Shut md ops listed) {j : Nat} (hr : j ∈ Region.ready md ops listed) : ∀ (f i : Nat), ancB md ops f j i = true → listed.getD i false = true
  | 0, i, h => waits_listed hr h
  | f + 1, i, h => by
    unfold ancB at h
    rw [Bool.or_eq_true] at h
    rcases h with h2 | h2
    · exact waits_listed hr h2
    · obtain ⟨k, _, h3⟩ := List.any_eq_true.1 h2
      simp only [Bool.and_eq_true] at h3
      exact hs.anc f k i (waits_listed hr h3.1.2) h3.2
def pivotB (md : Region.Mode) (ops : Array Oper) (n : Nat) : Bool := orderedB md ops && decide (n < ops.size) && (List.range ops.size).all fun i => (!decide (i < n) || ancB md ops ops.size n i) && (!decide (n < i) || ancB md ops ops.size i n)
theorem frameOf_slot2 {V V' : Nat → Value} {L M : Nat → Bool} {a : Act} {t : Tmp} {i : Nat}
    (hlow : ∀ k, k < i → dstOf ops k = some t → L k = M k ∧ (L k = true → V k = V' k)) : ∀ k, k ≤ i → (frameOf ops V L a k).tmps[t]? = (frameOf ops V' M a k).tmps[t]?
  | 0, _ => rfl
  | k + 1, h => by
    have ih := frameOf_slot2 (a := a) hlow k (by omega)
    unfold frameOf
    by_cases hd : dstOf ops k = some t
    · obtain ⟨h1, h3⟩ := hlow k (by omega) hd
      by_cases h2 : L k = true
      · rw [if_pos h2, if_pos (h1 ▸ h2), hd, h3 h2]
        exact put_eq (by simp [frameOf_size]) _
      · rw [if_neg h2, if_neg (h1 ▸ h2)]
        exact ih
    · by_cases h1 : L k = true <;> by_cases h2 : M k = true <;> simp only [h1, h2, if_true, if_false, Bool.false_eq_true, put_ne hd] <;> exact ih
theorem Ordered.sees2 (h : Ordered md ops) {V : Nat → Value} {n : Nat} {a : Act} {listed : Array Bool} (hs : Shut md ops listed) {i : Nat} {o : Oper} (ho : ops[i]? = some o) (hr : i ∈ Region.ready md ops listed) :
    ∀ t, t ∈ o.looksAt ops → (frameOf ops V (fun k => listed.getD k false && !decide (k ≤ n)) a ops.size).tmps[t]? = (frameOf ops V (fun k => !decide (k ≤ n)) a i).tmps[t]? := by
  intro t ht
  have hi : i < ops.size := (Array.getElem?_eq_some_iff.1 ho).1
  have hun := listed_both (mem_ready.1 hr).1
  have hlk := looks_of ho ht
  rw [frameOf_slot_up (i := i) (fun k hk hl hd => ?_) ops.size (by omega), frameOf_slot2 (V' := V) (M := fun k => !decide (k ≤ n)) (i := i) (fun k hk hd => ?_) i (Nat.le_refl i)]
  · refine ⟨?_, fun _ => rfl⟩
    rcases h.apart k i hk hi with hw | ⟨h1, _⟩
    · rw [waits_listed hr hw, Bool.true_and]
    · rw [(h1 t hd).1] at hlk; cases hlk
  · have hl1 : listed.getD k false = true := by
      simp only [Bool.and_eq_true] at hl
      exact hl.1
    have hkn : k < ops.size := by
      simp only [dstOf] at hd
      rcases Nat.lt_or_ge k ops.size with h' | h'
      · exact h'
      · simp [Array.getElem?_eq_none h'] at hd
    have hne : i ≠ k := fun e => by subst e; rw [hun] at hl1; cases hl1
    rcases h.apart i k (by omega) hkn with hw | ⟨_, h2⟩
    · have := hs.shut k i hl1 hw; rw [hun] at this; cases this
    · rw [h2 t hd] at hlk; cases hlk
theorem Ordered.frame_put2 (h : Ordered md ops) {V : Nat → Value} {n : Nat} {a : Act} {listed : Array Bool} (hs : Shut md ops listed) {i : Nat} (hi : i < ops.size) (hn : n < i) (hun : listed.getD i true = false) :
    frameOf ops V (fun k => (listed.setIfInBounds i true).getD k false && !decide (k ≤ n)) a ops.size = (frameOf ops V (fun k => listed.getD k false && !decide (k ≤ n)) a ops.size).put (dstOf ops i) (V i) := by
  have hl := listed_both hun
  refine frameOf_put hi (by simp only [hl, Bool.false_and]) (by simp only [set_same (by rw [hs.size]; exact hi) false, Bool.true_and, Bool.not_eq_true', decide_eq_false_iff_not]; omega) (fun k hk => by simp only [getD_set_ne false (Ne.symm hk)]) (fun k d hk hlk0 hd hdk => ?_)
  have hlk : listed.getD k false = true := by
    simp only [Bool.and_eq_true] at hlk0
    exact hlk0.1
  have hkn : k < ops.size := by
    simp only [dstOf] at hdk
    rcases Nat.lt_or_ge k ops.size with h' | h'
    · exact h'
    · simp [Array.getElem?_eq_none h'] at hdk
  rcases h.apart i k hk hkn with hw | ⟨h1, _⟩
  · have := hs.shut k i hlk hw; rw [hl] at this; cases this
  · exact (h1 d hd).2 hdk
theorem frameOf_none {V : Nat → Value} {L : Nat → Bool} {a : Act} (h : ∀ k, L k = false) : ∀ k, frameOf ops V L a k = a
  | 0 => rfl
  | k + 1 => by unfold frameOf; rw [h k]; exact frameOf_none h k
theorem wpOp_at {Q : Exit → Act → World → Prop} {K : Act → World → Prop} {i : Nat} {o : Oper} {a : Act} {w : World} (ho : ops[i]? = some o) (hw : Region.wanted o (yielded ops a.tmps) = true) (h : o.wp P a w K Q) : wpOp P ops Q i K a w := by
  unfold wpOp
  simp only [ho, hw, if_true]
  exact .inl h
theorem wp_region_pivot {id : Nat} {Q : Exit → Act → World → Prop} {a : Act} {w : World} {l : List Oper} {o : Oper} (n : Nat) (hm : P.follows .mixedOrders = true) (hB : pivotB .any l.toArray n = true) (ho : l[n]? = some o)
    (h : wpCalm P l.toArray w (fun k => decide (n ≤ k)) (fun a' => ∀ w', Below w.heap.size w w' → wpOp P l.toArray Q n (fun a1 w1 => wpCalm P l.toArray w1 (fun k => decide (k ≤ n)) (fun a3 => ∀ w3, Below w1.heap.size w1 w3 → Q .normal a3 w3) 0 l a1) a' w') 0 l a) : (Code.region id l.toArray true).wp P Q a w := by
  unfold pivotB at hB
  simp only [Bool.and_eq_true, decide_eq_true_eq, List.all_eq_true, List.mem_range, Bool.or_eq_true, Bool.not_eq_true', decide_eq_false_iff_not] at hB
  obtain ⟨⟨hord, hsz⟩, hall⟩ := hB
  have H := ordered_of hord
  have hon : l.toArray[n]? = some o := by simpa using ho
  have hpre : ∀ i, i < n → ancB .any l.toArray l.toArray.size n i = true := fun i hi => ((hall i (by omega)).1).resolve_left (by omega)
  have hsuf : ∀ i, n < i → i < l.toArray.size → ancB .any l.toArray l.toArray.size i n = true := fun i hi hs => ((hall i hs).2).resolve_left (by omega)
  obtain ⟨V, _, hval, hQ⟩ := wpCalm_values a l 0 (fun _ => undef) (fun j => by simp) h
  refine wp_region_any hm ?_
  refine wpAny_inv (fun listed a' w' => (listed.getD n true = false → a' = frameOf l.toArray V (fun k => listed.getD k false) a l.toArray.size ∧ Below w.heap.size w w') ∧
    (listed.getD n true = true → ∃ (a1 : Act) (w1 : World) (V2 : Nat → Value), (∀ j o, 0 ≤ j → j < 0 + l.length → l.toArray[j]? = some o → decide (j ≤ n) = false → CalmAt P l.toArray w1 o (frameOf l.toArray V2 (fun k => !decide (k ≤ n)) a1 j) (V2 j)) ∧
      (∀ w3, Below w1.heap.size w1 w3 → Q .normal (frameOf l.toArray V2 (fun k => !decide (k ≤ n)) a1 (0 + l.length)) w3) ∧ a' = frameOf l.toArray V2 (fun k => listed.getD k false && !decide (k ≤ n)) a1 l.toArray.size ∧ Below w1.heap.size w1 w')) ?_ ?_ _ _ _ _ (left_le _ _) Shut.none ⟨fun _ => ⟨?_, (Below.refl _ _).drew⟩, fun hn => ?_⟩
  · intro listed a' w' i hs hI hr
    obtain ⟨hun, oi, hoi, _⟩ := mem_ready.1 hr
    have hi : i < l.toArray.size := (Array.getElem?_eq_some_iff.1 hoi).1
    rcases Nat.lt_trichotomy i n with hin | hin | hin
    · -- before
      have hn : listed.getD n true = false := by
        cases hn : listed.getD n true with
        | false => rfl
        | true =>
          have hnl : listed.getD n false = true := by
            have : n < listed.size := by rw [hs.size]; omega
            simp [this] at hn ⊢; exact hn
          have := hs.anc _ n i hnl (hpre i hin)
          rw [listed_both hun] at this; cases this
      obtain ⟨rfl, hb⟩ := hI.1 hn
      refine CalmAt.wpOp hoi (fun cs b => Region.noSelect_spec H.sel i oi cs b hoi) (hval i oi (Nat.zero_le _) (by simpa using hi) hoi (by simp; omega)) hb (H.sees hs hoi hr (fun k hk hk2 d hd => ?_) (fun _ _ => rfl)) (fun w'' hb' => ⟨fun hn' => ⟨?_, bTrans hb hb'⟩, fun hn' => ?_⟩)
      · simp at hk2; omega
      · have e1 : dstOf l.toArray i = oi.dst := by simp [dstOf, hoi]
        rw [H.frame_put hs hi hun, e1]
      · rw [getD_set_ne true (by omega)] at hn'
        rw [hn] at hn'; cases hn'
    · -- the pivot
      subst hin
      obtain ⟨rfl, hb⟩ := hI.1 hun
      obtain rfl : o = oi := Option.some.inj (hon.symm.trans hoi)
      have hfr : frameOf l.toArray V (fun k => listed.getD k false) a l.toArray.size = frameOf l.toArray V (fun k => !decide (i ≤ k)) a (0 + l.length) := by
        have hsz' : l.toArray.size = 0 + l.length := by simp
        rw [← hsz']
        refine frameOf_congr _ (fun j hj => ⟨?_, fun _ => rfl⟩)
        by_cases e : i ≤ j
        · simp only [e, decide_true, Bool.not_true]
          rcases Nat.eq_or_lt_of_le e with rfl | e
          · exact listed_both hun
          · cases hlj : listed.getD j false with
            | false => rfl
            | true =>
              have := hs.anc _ j i hlj (hsuf j e hj)
              rw [listed_both hun] at this; cases this
        · simp only [e, decide_false, Bool.not_false]
          exact anc_listed hs hr _ j (hpre j (by omega))
      have hq := hQ w' hb
      rw [← hfr] at hq
      have hset : (listed.setIfInBounds i true).getD i true = true := set_same (by rw [hs.size]; exact hi) true
      refine wpOp_mono (fun a1 w1 h1 => ⟨fun e => (by rw [hset] at e; cases e), fun _ => ?_⟩) hq
      have h0 : ∀ V0 : Nat → Value, frameOf l.toArray V0 (fun j => !decide (j ≤ i)) a1 0 = a1 := fun _ => rfl
      obtain ⟨V2, _, hval2, hQ2⟩ := wpCalm_values a1 l 0 (fun _ => undef) (fun j => by simp) h1
      refine ⟨a1, w1, V2, hval2, hQ2, ?_, Below.refl _ _⟩
      refine (frameOf_none (fun k => ?_) _).symm
      by_cases e : k ≤ i
      · simp [e]
      · rw [getD_set_ne false (by omega)]
        cases hlj : listed.getD k false with
        | false => rfl
        | true =>
          have hks : k < l.toArray.size := by
            rcases Nat.lt_or_ge k l.toArray.size with h' | h'
            · exact h'
            · have : listed.size ≤ k := by rw [hs.size]; exact h'
              simp [Array.getD, Nat.not_lt.2 this] at hlj
          have := hs.anc _ k i hlj (hsuf k (by omega) hks)
          rw [listed_both hun] at this; cases this
    · -- behind
      have hn : listed.getD n true = true := by
        have h1 := anc_listed hs hr _ n (hsuf i hin hi)
        have : n < listed.size := by rw [hs.size]; omega
        simp [this] at h1 ⊢; exact h1
      obtain ⟨a1, w1, V2, hval2, hQ2, rfl, hb⟩ := hI.2 hn
      refine CalmAt.wpOp hoi (fun cs b => Region.noSelect_spec H.sel i oi cs b hoi) (hval2 i oi (Nat.zero_le _) (by simpa using hi) hoi (by simp; omega)) hb (H.sees2 hs hoi hr) (fun w'' hb' => ⟨fun hn' => ?_, fun _ => ⟨a1, w1, V2, hval2, hQ2, ?_, bTrans hb hb'⟩⟩)
      · rw [getD_set_ne true (by omega)] at hn'
        rw [hn] at hn'; cases hn'
      · have e1 : dstOf l.toArray i = oi.dst := by simp [dstOf, hoi]
        rw [H.frame_put2 hs hi hin hun, e1]
  · intro listed a' w' hs hI hr
    have hA := H.all hs hr
    have hn : listed.getD n true = true := by
      have := hA n hsz
      have hlt : n < listed.size := by rw [hs.size]; omega
      simp [hlt] at this ⊢; exact this
    obtain ⟨a1, w1, V2, _, hQ2, rfl, hb⟩ := hI.2 hn
    have := hQ2 w' hb
    have hsz' : l.toArray.size = 0 + l.length := by simp
    rw [← hsz'] at this
    rw [frameOf_congr (M := fun k => !decide (k ≤ n)) (V' := V2) _ (fun j hj => ⟨by rw [hA j hj, Bool.true_and], fun _ => rfl⟩)]
    exact this
  · refine (frameOf_none (fun k => ?_) _).symm
    rcases Nat.lt_or_ge k l.length with h' | h' <;> simp [h']
  · have : n < l.toArray.size := by omega
    simp at this
    simp [this] at hn
/-- the same, its parts apart: the continuation is a letter in each of them -/
theorem wp_region_call {id : Nat} {Q : Exit → Act → World → Prop} {a : Act} {w : World} {l : List Oper} {o : Oper} (n : Nat) (R : Value → World → Prop) (hm : P.follows .mixedOrders = true) (hB : pivotB .any l.toArray n = true) (ho : l[n]? = some o)
    (h : ∃ A1 : Act, (∀ K : Act → Prop, K A1 → wpCalm P l.toArray w (fun k => decide (n ≤ k)) K 0 l a) ∧ Region.wanted o (yielded l.toArray A1.tmps) = true ∧
      (∀ w', Below w.heap.size w w' → ∀ (K : Act → World → Prop) (Q' : Exit → Act → World → Prop), (∀ v w2, R v w2 → K (A1.put o.dst v) w2) → o.wp P A1 w' K Q') ∧
      ∀ v w2, R v w2 → ∃ A3 : Act, (∀ K : Act → Prop, K A3 → wpCalm P l.toArray w2 (fun k => decide (k ≤ n)) K 0 l (A1.put o.dst v)) ∧ ∀ w3, Below w2.heap.size w2 w3 → Q .normal A3 w3) : (Code.region id l.toArray true).wp P Q a w := by
  obtain ⟨A1, h1, hw, h2, h3⟩ := h
  refine wp_region_pivot n hm hB ho (h1 _ fun w' hb => ?_)
  refine wpOp_at (by simpa using ho) hw (h2 w' hb _ _ fun v w2 hr => ?_)
  obtain ⟨A3, ha, hq⟩ := h3 v w2 hr
  exact ha _ hq
end
theorem newer_of {P : Program} {f : Nat} {args : Array Value} {w : World} {v : Value} (h : Calls P f args w fun e w' => e = .returned v ∧ Below w.heap.size w w') : Calls P f args w fun e w' => e = .returned v ∧ Newer w w' := h
/-- the ways of a guard -/
theorem two_ways (b1 b2 : Bool) : b1 = false ∨ (b1 = true ∧ b2 = false) ∨ (b1 = true ∧ b2 = true) := by cases b1 <;> cases b2 <;> simp
theorem three_ways (b1 b2 b3 : Bool) : b1 = false ∨ (b1 = true ∧ b2 = false) ∨ (b1 = true ∧ b2 = true ∧ b3 = false) ∨ (b1 = true ∧ b2 = true ∧ b3 = true) := by cases b1 <;> cases b2 <;> cases b3 <;> simp
end Go.Proofs.YtchhodikgllgnaaDoor
