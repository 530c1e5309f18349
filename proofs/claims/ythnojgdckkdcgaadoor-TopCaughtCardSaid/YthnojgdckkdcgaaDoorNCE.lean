/- Parts joined: what all claims of this seat need. -/
import Derived.Test.YthnojgdckkdcgaaDoorNCD
import Derived.Test.YthnojgdckkdcgaaDoorNCC
import Derived.Deep.LoopGhost
set_option linter.unusedSimpArgs false
set_option linter.unusedVariables false
namespace Go.Proofs.YthnojgdckkdcgaaDoor
open Go.RowKit Go.Sort
def intL0 (L : List Int) (k : Nat) : Int := L[k]?.getD 0
theorem intL0_mem {L : List Int} {k : Nat} (h : k < L.length) : intL0 L k ∈ L := by
  unfold intL0
  rw [List.getElem?_eq_getElem h]
  exact List.getElem_mem h
theorem mem_intL0 {L : List Int} {x : Int} (h : x ∈ L) : ∃ k, k < L.length ∧ intL0 L k = x := by
  obtain ⟨k, hk, he⟩ := List.getElem_of_mem h
  exact ⟨k, hk, by unfold intL0; rw [List.getElem?_eq_getElem hk]; exact he⟩
/-- what a test shows in a world -/
def Qt.F (t : Qt) (i : Int) (x : Tp) : Int := (t.world i.toNat).fall x.1 x.2
def Qt.tests (t : Qt) : List Tp := testsL t.wells.toNat
def Qt.apart (t : Qt) (x : Tp) (a b : Int) : Bool := t.F a x != t.F b x
def Qt.someB (t : Qt) (l : List Tp) (a b : Int) : Bool := l.any fun x => t.apart x a b
theorem apart_comm (t : Qt) (x : Tp) (a b : Int) : t.apart x a b = t.apart x b a := by
  unfold Qt.apart
  by_cases h : t.F a x = t.F b x
  · simp [h]
  · rw [bne_iff_ne.2 h, bne_iff_ne.2 (Ne.symm h)]
theorem apart_self (t : Qt) (x : Tp) (a : Int) : t.apart x a a = false := by simp [Qt.apart]
theorem someB_comm (t : Qt) (l : List Tp) (a b : Int) : t.someB l a b = t.someB l b a := by
  unfold Qt.someB
  congr 1
  funext x
  exact apart_comm t x a b
theorem someB_self (t : Qt) (l : List Tp) (a : Int) : t.someB l a a = false := by simp [Qt.someB, apart_self]
theorem someB_iff {t : Qt} {l : List Tp} {a b : Int} : t.someB l a b = true ↔ ∃ x, x ∈ l ∧ t.F a x ≠ t.F b x := by simp [Qt.someB, Qt.apart]
theorem someB_sub {t : Qt} {l l' : List Tp} {a b : Int} (h : ∀ x, x ∈ l → x ∈ l') (hs : t.someB l a b = true) : t.someB l' a b = true := by
  obtain ⟨x, h1, h2⟩ := someB_iff.1 hs
  exact someB_iff.2 ⟨x, h x h1, h2⟩
/-- whether some tests tell each two of some worlds apart that are not alike -/
def Qt.allApart (t : Qt) (l : List Tp) (L : List Int) : Bool :=
  !anyB (fun i => anyB (fun k => t.someB t.tests (intL0 L i) (intL0 L k) && !t.someB l (intL0 L i) (intL0 L k)) i) L.length
theorem allApart_iff {t : Qt} {l : List Tp} {L : List Int} : t.allApart l L = true ↔ ∀ a, a ∈ L → ∀ b, b ∈ L → t.someB t.tests a b = true → t.someB l a b = true := by
  unfold Qt.allApart
  rw [Bool.not_eq_true', anyB_false]
  constructor
  · intro h a ha b hb hs
    obtain ⟨i, hi, rfl⟩ := mem_intL0 ha
    obtain ⟨k, hk, rfl⟩ := mem_intL0 hb
    rcases Nat.lt_trichotomy i k with h1 | h1 | h1
    · have := anyB_false.1 (h k hk) i h1
      rw [someB_comm t t.tests, hs, someB_comm t l] at this
      simpa using this
    · subst h1
      rw [someB_self] at hs
      cases hs
    · have := anyB_false.1 (h i hi) k h1
      rw [hs] at this
      simpa using this
  · intro h i hi
    refine anyB_false.2 fun k hk => ?_
    cases hs : t.someB t.tests (intL0 L i) (intL0 L k) with
    | false => rfl
    | true => rw [h _ (intL0_mem hi) _ (intL0_mem (by omega)) hs]; rfl
/-- the pairs of some worlds, the first one first, of which something is so -/
def pairsL (p : Int → Int → Bool) : List Int → List (Int × Int)
  | [] => []
  | a :: L => (L.filter (p a)).map (fun b => (a, b)) ++ pairsL p L
def Qt.told (t : Qt) (l : List Tp) (ps : List (Int × Int)) : Bool := ps.all fun p => t.someB l p.1 p.2
theorem told_pairs {t : Qt} {l : List Tp} {p : Int → Int → Bool} (hp : ∀ a b, p a b = p b a) (h0 : ∀ a, p a a = false) : ∀ {L : List Int}, t.told l (pairsL p L) = true ↔ ∀ a, a ∈ L → ∀ b, b ∈ L → p a b = true → t.someB l a b = true
  | [] => by simp [Qt.told, pairsL]
  | a :: L => by
    have ih := told_pairs (t := t) (l := l) hp h0 (L := L)
    unfold Qt.told at ih ⊢
    unfold pairsL
    rw [List.all_append, Bool.and_eq_true, ih]
    simp only [List.all_map, List.all_eq_true, List.mem_filter, Function.comp, List.mem_cons]
    constructor
    · rintro ⟨h1, h2⟩ x (rfl | hx) y (rfl | hy) hs
      · rw [h0] at hs; cases hs
      · exact h1 y ⟨hy, hs⟩
      · rw [someB_comm]; exact h1 x ⟨hx, by rw [hp]; exact hs⟩
      · exact h2 x hx y hy hs
    · intro h
      exact ⟨fun y hy => h a (.inl rfl) y (.inr hy.1) hy.2, fun x hx y hy hs => h x (.inr hx) y (.inr hy) hs⟩
theorem told_nil {t : Qt} {ps : List (Int × Int)} : t.told [] ps = true ↔ ps = [] := by
  cases ps with
  | nil => simp [Qt.told]
  | cons a l => simp [Qt.told, Qt.someB]
/-- the pairs of Fewest -/
theorem told_apart (t : Qt) (l : List Tp) (L : List Int) : t.told l (pairsL (fun a b => t.someB t.tests a b) L) = t.allApart l L :=
  Bool.eq_iff_iff.2 ((told_pairs (fun a b => someB_comm t _ a b) (fun a => someB_self t _ a)).trans allApart_iff.symm)
/-! ### How many tests are enough -/
/-- the worlds of some in which a test shows a fall -/
def Qt.shown (t : Qt) (x : Tp) (L : List Int) (f : Int) : List Int := L.filter fun w => t.F w x == f
def maxTo (g : Nat → Int) : Nat → Int
  | 0 => 0
  | n + 1 => max (maxTo g n) (g n)
theorem maxTo_le {g : Nat → Int} {v : Int} : ∀ {n : Nat}, maxTo g n ≤ v ↔ 0 ≤ v ∧ ∀ i, i < n → g i ≤ v
  | 0 => by simp [maxTo]
  | n + 1 => by
    have ih := maxTo_le (g := g) (v := v) (n := n)
    unfold maxTo
    constructor
    · intro h
      have h1 := ih.1 (by omega : maxTo g n ≤ v)
      refine ⟨h1.1, fun i hi => ?_⟩
      rcases Nat.lt_or_ge i n with h2 | h2
      · exact h1.2 i h2
      · obtain rfl : i = n := by omega
        omega
    · rintro ⟨h1, h2⟩
      have := ih.2 ⟨h1, fun i hi => h2 i (by omega)⟩
      have := h2 n (by omega)
      omega
theorem maxTo_congr {g h : Nat → Int} : ∀ {n : Nat}, (∀ i, i < n → g i = h i) → maxTo g n = maxTo h n
  | 0, _ => rfl
  | n + 1, e => by
    unfold maxTo
    rw [maxTo_congr fun i hi => e i (by omega), e n (by omega)]
theorem maxTo_nonneg (g : Nat → Int) : ∀ n, 0 ≤ maxTo g n
  | 0 => Int.le_refl 0
  | n + 1 => by have := maxTo_nonneg g n; unfold maxTo; omega
/-- the least of a number and of those of some tests -/
def minF (n0 : Int) (g : Tp → Int) (l : List Tp) : Int := l.foldl (fun b x => min b (g x)) n0
theorem minF_cons (n0 : Int) (g : Tp → Int) (x : Tp) (l : List Tp) : minF n0 g (x :: l) = minF (min n0 (g x)) g l := rfl
theorem minF_snoc (n0 : Int) (g : Tp → Int) (x : Tp) (l : List Tp) : minF n0 g (l ++ [x]) = min (minF n0 g l) (g x) := by simp [minF]
theorem minF_le {g : Tp → Int} {v : Int} : ∀ {l : List Tp} {n0 : Int}, minF n0 g l ≤ v ↔ n0 ≤ v ∨ ∃ x, x ∈ l ∧ g x ≤ v
  | [], n0 => by simp [minF]
  | y :: l, n0 => by
    rw [minF_cons, minF_le (l := l)]
    constructor
    · rintro (h | ⟨x, hx, h⟩)
      · by_cases h1 : n0 ≤ v
        · exact .inl h1
        · exact .inr ⟨y, by simp, by omega⟩
      · exact .inr ⟨x, by simp [hx], h⟩
    · rintro (h | ⟨x, hx, h⟩)
      · exact .inl (by omega)
      · rcases List.mem_cons.1 hx with rfl | hx
        · exact .inl (by omega)
        · exact .inr ⟨x, hx, h⟩
theorem minF_congr {g h : Tp → Int} : ∀ {l : List Tp} {n0 : Int}, (∀ x, x ∈ l → g x = h x) → minF n0 g l = minF n0 h l
  | [], _, _ => rfl
  | y :: l, n0, e => by
    rw [minF_cons, minF_cons, e y (by simp), minF_congr fun x hx => e x (by simp [hx])]
/-- how many tests are enough behind one, by how many are enough for fewer worlds -/
def Qt.behindW (t : Qt) (d : List Int → Int) (x : Tp) (L : List Int) : Int :=
  if anyB (fun f => (t.shown x L f).length == L.length) 10 then L.length else maxTo (fun f => if 1 < (t.shown x L f).length then d (t.shown x L f) else 0) 10
def Qt.depthF (t : Qt) : Nat → List Int → Int
  | 0, _ => 0
  | n + 1, L => if t.allApart [] L then 0 else minF L.length (fun x => 1 + t.behindW (t.depthF n) x L) t.tests
/-- how many tests are enough for some worlds -/
def Qt.depth (t : Qt) (L : List Int) : Int := t.depthF L.length L
/-- how many are enough behind a test -/
def Qt.behind (t : Qt) (x : Tp) (L : List Int) : Int := t.behindW t.depth x L
theorem shown_len (t : Qt) (x : Tp) (L : List Int) (f : Int) : (t.shown x L f).length ≤ L.length := List.length_filter_le _ _
theorem shown_all {t : Qt} {x : Tp} {L : List Int} {f : Int} (h : (t.shown x L f).length = L.length) : t.shown x L f = L := (List.filter_sublist (l := L)).eq_of_length h
theorem behindW_congr {t : Qt} {d d' : List Int → Int} {x : Tp} {L : List Int} (h : ∀ f : Nat, (t.shown x L f).length < L.length → d (t.shown x L f) = d' (t.shown x L f)) : t.behindW d x L = t.behindW d' x L := by
  unfold Qt.behindW
  split
  · rfl
  · rename_i hn
    have hn := anyB_false.1 (by simpa using hn)
    refine maxTo_congr fun f hf => ?_
    split
    · refine h f ?_
      have h1 := hn f hf
      have h2 := shown_len t x L (f : Int)
      simp at h1
      omega
    · rfl
theorem allApart_short {t : Qt} {l : List Tp} {L : List Int} (h : L.length < 2) : t.allApart l L = true := by
  refine allApart_iff.2 fun a ha b hb hs => ?_
  obtain ⟨i, hi, rfl⟩ := mem_intL0 ha
  obtain ⟨k, hk, rfl⟩ := mem_intL0 hb
  obtain rfl : i = k := by omega
  rw [someB_self] at hs
  cases hs
theorem depthF_fuel (t : Qt) : ∀ (n m : Nat) (L : List Int), L.length ≤ n → L.length ≤ m → t.depthF n L = t.depthF m L
  | 0, 0, _, _, _ => rfl
  | 0, m + 1, L, h, _ => by
    have : t.allApart [] L = true := allApart_short (by omega)
    simp [Qt.depthF, this]
  | n + 1, 0, L, _, h => by
    have : t.allApart [] L = true := allApart_short (by omega)
    simp [Qt.depthF, this]
  | n + 1, m + 1, L, h1, h2 => by
    unfold Qt.depthF
    split
    · rfl
    · exact minF_congr fun x _ => by rw [behindW_congr fun f hf => depthF_fuel t n m _ (by omega) (by omega)]
theorem depth_step (t : Qt) (L : List Int) : t.depth L = if t.allApart [] L then 0 else minF L.length (fun x => 1 + t.behind x L) t.tests := by
  unfold Qt.depth
  cases hL : L.length with
  | zero =>
    have : t.allApart [] L = true := allApart_short (by omega)
    simp [Qt.depthF, this]
  | succ n =>
    unfold Qt.depthF
    rw [hL]
    split
    · rfl
    · refine minF_congr fun x _ => ?_
      unfold Qt.behind
      rw [behindW_congr fun f hf => ?_]
      exact depthF_fuel t _ _ _ (by omega) (Nat.le_refl _)
theorem minF_start (n0 : Int) (g : Tp → Int) (l : List Tp) : minF n0 g l ≤ n0 := minF_le.2 (.inl (Int.le_refl _))
theorem depth_le (t : Qt) (L : List Int) : t.depth L ≤ L.length := by
  rw [depth_step]
  split
  · omega
  · exact minF_start _ _ _
/-- a test that tells no two of some worlds apart -/
theorem shown_one {t : Qt} {x : Tp} {L : List Int} {f : Int} (h : (t.shown x L f).length = L.length) {a b : Int} (ha : a ∈ L) (hb : b ∈ L) : t.F a x = t.F b x := by
  have h1 := shown_all h
  rw [← h1] at ha hb
  have h2 := (List.mem_filter.1 ha).2
  have h3 := (List.mem_filter.1 hb).2
  rw [eq_of_beq h2, eq_of_beq h3]
/-- falls are from 0 to 9 -/
def Qt.Falls (t : Qt) (L : List Int) : Prop := ∀ a, a ∈ L → ∀ x, x ∈ t.tests → 0 ≤ t.F a x ∧ t.F a x ≤ 9
theorem not_alike {t : Qt} {L : List Int} (h : t.allApart [] L = false) : ∃ a, a ∈ L ∧ ∃ b, b ∈ L ∧ ∃ x, x ∈ t.tests ∧ t.F a x ≠ t.F b x := by
  have : ¬ t.allApart [] L = true := by rw [h]; decide
  rw [allApart_iff] at this
  simp only [Classical.not_forall] at this
  obtain ⟨a, ha, b, hb, hs, _⟩ := this
  obtain ⟨x, hx, hn⟩ := someB_iff.1 hs
  exact ⟨a, ha, b, hb, x, hx, hn⟩
/-- a test that tells two apart: behind it fewer are enough than there are worlds less 1 -/
theorem behind_split {t : Qt} {L : List Int} (hd : ∀ L', L'.length < L.length → L' ≠ [] → t.depth L' < L'.length) {x : Tp} {a b : Int} (ha : a ∈ L) (hb : b ∈ L) (hne : t.F a x ≠ t.F b x) : t.behind x L = maxTo (fun f => t.depth (t.shown x L f)) 10 ∧ t.behind x L + 1 < L.length := by
  have hno : ∀ f : Int, (t.shown x L f).length < L.length := fun f => by
    have h1 := shown_len t x L f
    rcases Nat.eq_or_lt_of_le h1 with h2 | h2
    · exact absurd (shown_one h2 ha hb) hne
    · exact h2
  have hz : ∀ L' : List Int, ¬ 1 < L'.length → t.depth L' = 0 := fun L' h => by rw [depth_step, allApart_short (by omega)]; rfl
  have e : t.behind x L = maxTo (fun f => t.depth (t.shown x L f)) 10 := by
    unfold Qt.behind Qt.behindW
    rw [anyB_false.2 fun f _ => by have := hno f; simp; omega]
    refine maxTo_congr fun f _ => ?_
    split
    · rfl
    · rename_i h
      rw [hz _ h]
  have h2 : 2 ≤ L.length := by
    obtain ⟨i, hi, e1⟩ := mem_intL0 ha
    obtain ⟨k, hk, e2⟩ := mem_intL0 hb
    rcases Nat.lt_or_ge L.length 2 with h | h
    · obtain rfl : i = k := by omega
      exact absurd (by rw [← e1, e2]) hne
    · exact h
  refine ⟨e, ?_⟩
  rw [e]
  have : maxTo (fun f => t.depth (t.shown x L f)) 10 ≤ L.length - 2 := maxTo_le.2 ⟨by omega, fun f _ => by
    have h3 := hno f
    by_cases h4 : t.shown x L f = []
    · rw [h4, hz [] (by simp)]; omega
    · have := hd _ h3 h4
      omega⟩
  omega
theorem depth_lt (t : Qt) : ∀ (n : Nat) (L : List Int), L.length ≤ n → L ≠ [] → t.depth L < L.length
  | 0, L, h, h0 => absurd (List.eq_nil_of_length_eq_zero (by omega)) h0
  | n + 1, L, h, h0 => by
    have hlen : 0 < L.length := List.length_pos_iff.2 h0
    rw [depth_step]
    split
    · omega
    · rename_i hn
      obtain ⟨a, ha, b, hb, x, hx, hne⟩ := not_alike (by simpa using hn)
      have := (behind_split (fun L' h1 h2 => depth_lt t n L' (by omega) h2) ha hb hne).2
      have hm : minF (L.length : Int) (fun x => 1 + t.behind x L) t.tests ≤ 1 + t.behind x L := minF_le.2 (.inr ⟨x, hx, Int.le_refl _⟩)
      omega
theorem depth_below (t : Qt) {L : List Int} (h : L ≠ []) : t.depth L < L.length := depth_lt t L.length L (Nat.le_refl _) h
theorem behind_none {t : Qt} {L : List Int} (hf : t.Falls L) {x : Tp} (hx : x ∈ t.tests) (h0 : L ≠ []) (h : ∀ a, a ∈ L → ∀ b, b ∈ L → t.F a x = t.F b x) : t.behind x L = L.length ∧ ∃ f : Nat, f < 10 ∧ t.shown x L f = L := by
  obtain ⟨a, ha⟩ := List.exists_mem_of_ne_nil L h0
  obtain ⟨h1, h2⟩ := hf a ha x hx
  have hs : t.shown x L ((t.F a x).toNat : Int) = L := List.filter_eq_self.2 fun b hb => by
    rw [h b hb a ha]
    simp
    omega
  refine ⟨?_, (t.F a x).toNat, by omega, hs⟩
  unfold Qt.behind Qt.behindW
  rw [if_pos (anyB_true.2 ⟨(t.F a x).toNat, by omega, by rw [hs]; simp⟩)]
/-- what the program reckons behind a test -/
def Qt.afterP (t : Qt) (x : Tp) (L : List Int) : Int := if anyB (fun f => t.shown x L f == L) 10 then 1024 else maxTo (fun f => t.depth (t.shown x L f)) 10
/-- how the program reckons -/
theorem depth_prog {t : Qt} {L : List Int} (hf : t.Falls L) (hl : L.length ≤ 100) : t.depth L = if t.allApart [] L then 0 else minF 1024 (fun x => 1 + t.afterP x L) t.tests := by
  rw [depth_step]
  split
  · rfl
  rename_i hn
  obtain ⟨a, ha, b, hb, x0, hx0, hne⟩ := not_alike (by simpa using hn)
  have hd := fun (L' : List Int) (_ : L'.length < L.length) (h2 : L' ≠ []) => depth_below t h2
  have hsp : ∀ x, (∃ a, a ∈ L ∧ ∃ b, b ∈ L ∧ t.F a x ≠ t.F b x) → t.afterP x L = t.behind x L ∧ t.behind x L + 1 < L.length := fun x ⟨a, ha, b, hb, hne⟩ => by
    obtain ⟨h1, h2⟩ := behind_split hd ha hb hne
    refine ⟨?_, h2⟩
    rw [h1]
    unfold Qt.afterP
    rw [anyB_false.2 fun f _ => ?_]
    · rfl
    · cases he : t.shown x L f == L with
      | false => rfl
      | true =>
        have := eq_of_beq he
        exact absurd (shown_one (by rw [this]) ha hb) hne
  have hns : ∀ x, x ∈ t.tests → (¬ ∃ a, a ∈ L ∧ ∃ b, b ∈ L ∧ t.F a x ≠ t.F b x) → t.afterP x L = 1024 ∧ t.behind x L = L.length := fun x hx h => by
    have h' : ∀ a, a ∈ L → ∀ b, b ∈ L → t.F a x = t.F b x := fun a ha b hb => Classical.byContradiction fun hne => h ⟨a, ha, b, hb, hne⟩
    obtain ⟨h1, f, hf1, hf2⟩ := behind_none hf hx (List.ne_nil_of_mem ha) h'
    refine ⟨?_, h1⟩
    unfold Qt.afterP
    rw [if_pos (anyB_true.2 ⟨f, hf1, by rw [hf2]; simp⟩)]
  obtain ⟨h3, h4⟩ := hsp x0 ⟨a, ha, b, hb, hne⟩
  refine Int.le_antisymm (minF_le.2 ?_) (minF_le.2 ?_)
  · rcases minF_le.1 (Int.le_refl (minF 1024 (fun x => 1 + t.afterP x L) t.tests)) with h | ⟨x, hx, h⟩
    · exact .inl (by omega)
    · by_cases hs : ∃ a, a ∈ L ∧ ∃ b, b ∈ L ∧ t.F a x ≠ t.F b x
      · exact .inr ⟨x, hx, by rw [(hsp x hs).1] at h; exact h⟩
      · exact .inl (by have := (hns x hx hs).1; omega)
  · rcases minF_le.1 (Int.le_refl (minF (L.length : Int) (fun x => 1 + t.behind x L) t.tests)) with h | ⟨x, hx, h⟩
    · exact .inr ⟨x0, hx0, by omega⟩
    · by_cases hs : ∃ a, a ∈ L ∧ ∃ b, b ∈ L ∧ t.F a x ≠ t.F b x
      · exact .inr ⟨x, hx, by rw [(hsp x hs).1]; exact h⟩
      · exact .inr ⟨x0, hx0, by have := (hns x hx hs).2; omega⟩
end Go.Proofs.YthnojgdckkdcgaaDoor

namespace Go.Proofs.YthnojgdckkdcgaaDoor
open Go.RowKit Go.Sort
/-! ### What is known -/
/-! ### Draws -/
end Go.Proofs.YthnojgdckkdcgaaDoor

namespace Go.Proofs.YthnojgdckkdcgaaDoor
open Go.RowKit Go.Sort
end Go.Proofs.YthnojgdckkdcgaaDoor

namespace Go.Proofs.YthnojgdckkdcgaaDoor
open Go.RowKit Go.Sort
end Go.Proofs.YthnojgdckkdcgaaDoor

namespace Go.Proofs.YthnojgdckkdcgaaDoor
open Go.RowKit Go.Sort
section
variable {P : Program} {ops : Array Oper} {md : Region.Mode}
theorem frameOf_none {V : Nat → Value} {L : Nat → Bool} {a : Act} (h : ∀ k, L k = false) : ∀ k, frameOf ops V L a k = a
  | 0 => rfl
  | k + 1 => by unfold frameOf; rw [h k]; exact frameOf_none h k
end
theorem newer_of {P : Program} {f : Nat} {args : Array Value} {w : World} {v : Value} (h : Calls P f args w fun e w' => e = .returned v ∧ Below w.heap.size w w') : Calls P f args w fun e w' => e = .returned v ∧ Newer w w' := h
end Go.Proofs.YthnojgdckkdcgaaDoor

namespace Go.Proofs.YthnojgdckkdcgaaDoor
open Go.RowKit Go.Sort
end Go.Proofs.YthnojgdckkdcgaaDoor

namespace Go.Proofs.YthnojgdckkdcgaaDoor
open Go.RowKit Go.Sort
/-- how an element lies in memory -/
structure Elem (α : Type) where
  enc : α → List Value
  size : Nat
  ty : TypeId
  sl : TypeId
  z : Value
  bytes : Nat
structure Elem.Good {α : Type} (E : Elem α) : Prop where
  info : (Tryd.prog.info? E.ty).map (fun i => (i.zero, i.size, i.bytes)) = some (some E.z, E.size, E.bytes)
  und : Tryd.prog.underlying E.sl = some (.slice E.ty)
  zs : E.z.cells.size = E.size
  pos : 0 < E.size
  len : ∀ x, (E.enc x).length = E.size
  one : ∀ x, ∀ u ∈ E.enc x, u.oneCell' = true
  by_ : E.bytes ≤ 1000000
def Elem.cells {α : Type} (E : Elem α) (l : List α) : List Value := l.flatMap E.enc
theorem Elem.cells_len {α : Type} {E : Elem α} (g : E.Good) : ∀ l : List α, (E.cells l).length = l.length * E.size
  | [] => by simp [Elem.cells]
  | x :: l => by
    have ih := Elem.cells_len g l
    unfold Elem.cells at ih ⊢
    rw [List.flatMap_cons, List.length_append, g.len, ih, List.length_cons, Nat.succ_mul, Nat.add_comm]
theorem Elem.cells_get {α : Type} {E : Elem α} (g : E.Good) : ∀ {l : List α} {j : Nat} {x : α} (i : Nat), l[j]? = some x → i < E.size → (E.cells l)[j * E.size + i]? = (E.enc x)[i]?
  | [], j, x, i, h, _ => by simp at h
  | y :: l, 0, x, i, h, hi => by
    obtain rfl : y = x := by simpa using h
    unfold Elem.cells
    rw [List.flatMap_cons, Nat.zero_mul, Nat.zero_add, List.getElem?_append_left (by rw [g.len]; exact hi)]
  | y :: l, j + 1, x, i, h, hi => by
    have ih := Elem.cells_get g (l := l) (j := j) (x := x) i (by simpa using h) hi
    unfold Elem.cells at ih ⊢
    rw [List.flatMap_cons, List.getElem?_append_right (by rw [g.len, Nat.succ_mul]; omega), g.len, Nat.succ_mul, show j * E.size + E.size + i - E.size = j * E.size + i by omega]
    exact ih
/-- a slice of the call's own that holds a list -/
def OwnE {α : Type} (E : Elem α) (w : World) (base : Nat) (v : Value) (l : List α) : Prop := w.ownsRow base E.ty E.size v l.length (E.cells l)
section
variable {α : Type} {E : Elem α} {w w' : World} {base : Nat} {v : Value} {l : List α}
theorem OwnE.nil (E : Elem α) (w : World) (base : Nat) : OwnE E w base (.slice none 0 0) [] := World.ownsRow_nil _ _ _ _
theorem OwnE.mono (h : OwnE E w base v l) (hb : Below w.heap.size w w') : OwnE E w' base v l := owns_below h hb
theorem OwnE.lower {base' : Nat} (h : OwnE E w base v l) (hb : base' ≤ base) : OwnE E w base' v l := owns_lower h hb
/-- a slice that reads as a list -/
def SliceE (E : Elem α) (w : World) (v : Value) (l : List α) : Prop := ∃ A c, v = .slice A l.length c ∧ RowAt w A (E.cells l)
theorem OwnE.read (h : OwnE E w base v l) : SliceE E w v l := by
  rcases Nat.eq_zero_or_pos l.length with h0 | h0
  · obtain rfl := List.eq_nil_of_length_eq_zero h0
    rcases h.2 with ⟨rfl, _⟩ | ⟨g, cap, cur, rfl, _⟩
    · exact ⟨_, _, rfl, .inl rfl⟩
    · exact ⟨_, _, rfl, .inl rfl⟩
  · obtain ⟨A, c, e, hr⟩ := AtHand.row (N := base) (.inr ⟨h0, h⟩)
    exact ⟨A, c, e, hr⟩
theorem RowAt.elem (g : E.Good) {A : Option Addr} (h : RowAt w A (E.cells l)) {j : Nat} {x : α} (hj : l[j]? = some x) : ∃ b o, A = some ⟨b, o, none⟩ ∧ b < w.heap.size ∧ ∀ i u, (E.enc x)[i]? = some u → w.cell? ⟨b, o + (j * E.size + i), none⟩ = some u := by
  have hget := fun i (hi : i < E.size) => Elem.cells_get g (l := l) (j := j) (x := x) i hj hi
  rcases h with h | ⟨b, o, rfl, hlt, hc⟩
  · have h1 := hget 0 g.pos
    rw [h] at h1
    have : (E.enc x).length = E.size := g.len x
    have h2 : (E.enc x)[0]? = some ((E.enc x)[0]'(by rw [this]; exact g.pos)) := List.getElem?_eq_getElem _
    rw [h2] at h1
    simp at h1
  · refine ⟨b, o, rfl, hlt, fun i u hu => hc _ u ?_⟩
    have hi : i < (E.enc x).length := by
      rcases Nat.lt_or_ge i (E.enc x).length with h | h
      · exact h
      · rw [List.getElem?_eq_none h] at hu; cases hu
    rw [hget i (by rw [← g.len x]; exact hi)]
    exact hu
/-- 'append(out, x)' -/
theorem wpList_snocE (g : E.Good) (w : World) {ops : Array Oper} {rest : List Oper} {o : Oper} {a : Act} {Q : Exit → Act → World → Prop} (hg : o.guard = none) (s x : Operand) (hop : o.op = Op.call { callee := Callee.builtin Builtin.append, args := #[s, x], argTypes := #[E.sl, E.sl] })
    (base : Nat) (v : Value) (l : List α) (y : α) (hs : a.eval s = v) (hown : OwnE E w base v l) (b : Nat) (hx : a.eval x = .slice (some ⟨b, 0, none⟩) 1 1) (hc : ∀ i u, (E.enc y)[i]? = some u → w.cell? ⟨b, i, none⟩ = some u) (hlen : l.length ≤ 100000) (hbase : base ≤ w.heap.size)
    (h : ∀ v' w', OwnE E w' base v' (l ++ [y]) → (∀ b0 W, b0 ≤ base → Below b0 W w → Below b0 W w') → w.grownBy w' v.ownBlock → v' ≠ .slice none 0 0 → wpList Tryd.prog ops Q rest (a.put o.dst v') w') : wpList Tryd.prog ops Q (o :: rest) a w := by
  obtain ⟨i0, hi, iz0, iz1, iz2⟩ := info_parts g.info
  refine wpList_append_own w hg s x E.sl hop base E.ty i0 E.z E.size E.bytes g.und hi iz0 iz1 iz2 g.zs g.pos v l.length (E.cells l) hs hown ⟨b, 0, none⟩ 1 1 (E.enc y) hx (by rw [g.len, Nat.one_mul]) (fun j u hj => ?_) (fun u hu => g.one y u hu) (by unfold maxLen; omega) (by have := g.by_; exact Nat.le_trans (Nat.mul_le_mul (show l.length + 1 ≤ 100001 by omega) this) (by decide)) hbase fun v' w' h1 h2 h3 => ?_
  · have := hc j u hj
    rwa [show (⟨b, 0, none⟩ : Addr).add j = ⟨b, j, none⟩ from by unfold Addr.add; split <;> simp_all]
  · refine h v' w' ?_ (fun b0 W hb hB => hB.grown h2 (Nat.le_trans hb hbase) fun k hk => Nat.le_trans hb (hown.lt k hk).1) h2 fun e => ?_
    · show w'.ownsRow base E.ty E.size v' (l ++ [y]).length (E.cells (l ++ [y]))
      rw [List.length_append, show E.cells (l ++ [y]) = E.cells l ++ E.enc y from by simp [Elem.cells]]
      exact h1
    · have := h3.1 e
      omega
end
/-! ### Tests, pairs of worlds -/
def tstE : Elem Tp := { enc := fun x => [.int .i64 x.1, .int .i64 x.2], size := 2, ty := 51, sl := 47, z := .agg #[.int .i64 0, .int .i64 0], bytes := 16 }
theorem tstG : tstE.Good :=
  ⟨by kernel_rfl, Tryd.underlying47, by decide, by decide, fun _ => rfl, fun x u hu => by
    rcases (by simpa [tstE] using hu : u = .int .i64 x.1 ∨ u = .int .i64 x.2) with rfl | rfl <;> rfl, by decide⟩
def prE : Elem (Int × Int) := { enc := fun x => [.int .i64 x.1, .int .i64 x.2], size := 2, ty := 109, sl := 87, z := .agg #[.int .i64 0, .int .i64 0], bytes := 16 }
theorem prG : prE.Good :=
  ⟨by kernel_rfl, Tryd.underlying87, by decide, by decide, fun _ => rfl, fun x u hu => by
    rcases (by simpa [prE] using hu : u = .int .i64 x.1 ∨ u = .int .i64 x.2) with rfl | rfl <;> rfl, by decide⟩
theorem SliceE.tst {w : World} {A : Option Addr} {l : List Tp} (h : RowAt w A (tstE.cells l)) {j : Nat} {x : Tp} (hj : l[j]? = some x) : ∃ b o, A = some ⟨b, o, none⟩ ∧ b < w.heap.size ∧ w.cell? ⟨b, o + j * 2, none⟩ = some (.int .i64 x.1) ∧ w.cell? ⟨b, o + j * 2 + 1, none⟩ = some (.int .i64 x.2) := by
  obtain ⟨b, o, h1, h2, h3⟩ := RowAt.elem tstG h hj
  exact ⟨b, o, h1, h2, h3 0 _ rfl, h3 1 _ rfl⟩
theorem SliceE.pr {w : World} {A : Option Addr} {l : List (Int × Int)} (h : RowAt w A (prE.cells l)) {j : Nat} {x : Int × Int} (hj : l[j]? = some x) : ∃ b o, A = some ⟨b, o, none⟩ ∧ b < w.heap.size ∧ w.cell? ⟨b, o + j * 2, none⟩ = some (.int .i64 x.1) ∧ w.cell? ⟨b, o + j * 2 + 1, none⟩ = some (.int .i64 x.2) := by
  obtain ⟨b, o, h1, h2, h3⟩ := RowAt.elem prG h hj
  exact ⟨b, o, h1, h2, h3 0 _ rfl, h3 1 _ rfl⟩
end Go.Proofs.YthnojgdckkdcgaaDoor

namespace Go.Proofs.YthnojgdckkdcgaaDoor
open Go.RowKit Go.Sort
end Go.Proofs.YthnojgdckkdcgaaDoor

namespace Go.Proofs.YthnojgdckkdcgaaDoor
open Go.RowKit Go.Sort
end Go.Proofs.YthnojgdckkdcgaaDoor

namespace Go.Proofs.YthnojgdckkdcgaaDoor
open Go.RowKit Go.Sort
end Go.Proofs.YthnojgdckkdcgaaDoor

namespace Go.Proofs.YthnojgdckkdcgaaDoor
open Go.RowKit Go.Sort
end Go.Proofs.YthnojgdckkdcgaaDoor

namespace Go.Proofs.YthnojgdckkdcgaaDoor
open Go.RowKit Go.Sort
end Go.Proofs.YthnojgdckkdcgaaDoor

namespace Go.Proofs.YthnojgdckkdcgaaDoor
open Go.RowKit Go.Sort
end Go.Proofs.YthnojgdckkdcgaaDoor

namespace Go.Proofs.YthnojgdckkdcgaaDoor
open Go.RowKit Go.Sort
end Go.Proofs.YthnojgdckkdcgaaDoor

namespace Go.Proofs.YthnojgdckkdcgaaDoor
open Go.RowKit Go.Sort
end Go.Proofs.YthnojgdckkdcgaaDoor

namespace Go.Proofs.YthnojgdckkdcgaaDoor
open Go.RowKit Go.Sort
end Go.Proofs.YthnojgdckkdcgaaDoor

namespace Go.Proofs.YthnojgdckkdcgaaDoor
open Go.RowKit Go.Sort
end Go.Proofs.YthnojgdckkdcgaaDoor

namespace Go.Proofs.YthnojgdckkdcgaaDoor
open Go.RowKit Go.Sort
end Go.Proofs.YthnojgdckkdcgaaDoor

namespace Go.Proofs.YthnojgdckkdcgaaDoor
open Go.RowKit Go.Sort
set_option maxHeartbeats 2000000 in
theorem shows_any (Aw Af : Option Addr) (cw cf C mp s : Nat) (t : Qt) (p q i : Nat) (w : World) (hc : CourtAt w C Aw Af cw cf t s mp) (ok : t.Ok) (hp : (p : Int) < t.wells) (hq : (q : Int) < t.wells) (hi : i < t.nw) (hT : QAt w Aw Af t) :
    Calls Tryd.prog 48 #[.pointer (some ⟨C, 0, none⟩), .agg #[.int .i64 p, .int .i64 q], .int .i64 i] w fun e w' => e = .returned (.int .i64 (t.F i (p, q))) ∧ Below w.heap.size w w' := by
  obtain ⟨b, o, b', o', c', b'', o'', c'', n, m, v, rfl, a2, a3, a4, a5, a6, a7, hv, v0, v1, hn, hm⟩ := ok.at hT hi (p := p) (q := q) (by omega) hp (by omega) hq
  rw [Int.toNat_natCast] at a5
  rw [Int.toNat_natCast] at a7
  have HV := Lib.hid (show t.F i (p, q) = v from hv.symm)
  have HB := Lib.hid (bAlloc (Below.refl w.heap.size w) (.cells #[.int .i64 p, .int .i64 q] 51))
  have x0 := hc.box.lt
  have y0 := hc.box.cell 1 _ rfl
  have p1 : (p : Int) < (n : Int) := by omega
  have p0 : (0 : Int) ≤ (p : Int) := by omega
  have q1 : (q : Int) < (m : Int) := by omega
  have q0 : (0 : Int) ≤ (q : Int) := by omega
  have i1 : (i : Int) < (t.nw : Int) := by omega
  have i0 : (0 : Int) ≤ (i : Int) := by omega
  clear hv hn hm hi hp hq ok hT hc
  go_enter Tryd.func48, Tryd.ntmps48
  go_wp2_with fail
  go_region
  go_wp2_with fail
  go_ret
  exact ⟨by rw [HV.out]; rfl, HB.out.drew⟩
end Go.Proofs.YthnojgdckkdcgaaDoor

namespace Go.Proofs.YthnojgdckkdcgaaDoor
open Go.RowKit Go.Sort
/-- a bit for each of some numbers -/
def maskL (l : List Int) : Nat := l.foldl (fun m i => m ||| 2 ^ i.toNat) 0
theorem maskL_snoc (l : List Int) (i : Int) : maskL (l ++ [i]) = maskL l ||| 2 ^ i.toNat := by simp [maskL]
theorem maskL_bitG (j : Nat) : ∀ (l : List Int) (a : Nat), (l.foldl (fun m i => m ||| 2 ^ i.toNat) a).testBit j = (a.testBit j || l.any fun i => i.toNat == j)
  | [], a => by simp
  | x :: l, a => by
    rw [List.foldl_cons, maskL_bitG j l, Nat.testBit_or, List.any_cons]
    by_cases h : x.toNat = j
    · subst h
      simp [Nat.testBit_two_pow_self]
    · rw [Nat.testBit_two_pow_of_ne h, beq_eq_false_iff_ne.2 h]
      simp
theorem maskL_bit (l : List Int) (j : Nat) : (maskL l).testBit j = l.any fun i => i.toNat == j := by
  unfold maskL
  rw [maskL_bitG]
  simp
theorem maskL_lt {l : List Int} (h : ∀ x, x ∈ l → x.toNat < 6) : maskL l < 64 := by
  have key : ∀ (l : List Int) (a : Nat), a < 2 ^ 6 → (∀ x, x ∈ l → x.toNat < 6) → l.foldl (fun m i => m ||| 2 ^ i.toNat) a < 2 ^ 6 := by
    intro l
    induction l with
    | nil => intro a ha _; exact ha
    | cons x l ih =>
      intro a ha hx
      rw [List.foldl_cons]
      exact ih _ (Nat.or_lt_two_pow ha (Nat.pow_lt_pow_right (by decide) (hx x (by simp)))) fun y hy => hx y (by simp [hy])
  exact key l 0 (by decide) h
theorem selTo_mem {p : Nat → Bool} {x : Int} : ∀ {n : Nat}, x ∈ selTo p n ↔ ∃ i : Nat, i < n ∧ p i = true ∧ x = i
  | 0 => by simp [selTo]
  | n + 1 => by
    have ih := selTo_mem (p := p) (x := x) (n := n)
    unfold selTo
    constructor
    · intro h
      split at h
      · rename_i hp
        rw [List.mem_append, ih] at h
        rcases h with ⟨i, h1, h2, h3⟩ | h
        · exact ⟨i, by omega, h2, h3⟩
        · exact ⟨n, by omega, hp, by simpa using h⟩
      · obtain ⟨i, h1, h2, h3⟩ := ih.1 h
        exact ⟨i, by omega, h2, h3⟩
    · rintro ⟨i, h1, h2, h3⟩
      rcases Nat.lt_or_ge i n with h4 | h4
      · have := ih.2 ⟨i, h4, h2, h3⟩
        split
        · rw [List.mem_append]; exact .inl this
        · exact this
      · obtain rfl : i = n := by omega
        rw [if_pos h2, List.mem_append]
        exact .inr (by simp [h3])
theorem selTo_filter (p : Nat → Bool) (r : Int → Bool) : ∀ n, (selTo p n).filter r = selTo (fun j => p j && r (j : Int)) n
  | 0 => rfl
  | n + 1 => by
    have ih := selTo_filter p r n
    unfold selTo
    by_cases hp : p n = true
    · rw [if_pos hp, List.filter_append, ih]
      by_cases hr : r (n : Int) = true
      · simp [hp, hr]
      · simp [hr]
    · rw [if_neg hp, ih]
      simp [hp]
theorem bits_maskL (p : Nat → Bool) : bitsL (maskL (selTo p 6)) = selTo p 6 := by
  unfold bitsL
  refine selTo_congr 6 fun j hj => ?_
  rw [maskL_bit]
  cases h : p j with
  | true => exact List.any_eq_true.2 ⟨(j : Int), selTo_mem.2 ⟨j, hj, h, rfl⟩, by simp⟩
  | false =>
    rw [List.any_eq_false]
    intro x hx
    obtain ⟨i, h1, h2, rfl⟩ := selTo_mem.1 hx
    simp
    rintro rfl
    rw [h] at h2
    cases h2
theorem bitsL_mem {s : Nat} {x : Int} : x ∈ bitsL s ↔ ∃ i : Nat, i < 6 ∧ s.testBit i = true ∧ x = i := selTo_mem
theorem shown_sel (t : Qt) (x : Tp) (s : Nat) (f : Int) : t.shown x (bitsL s) f = selTo (fun j => s.testBit j && (t.F (j : Int) x == f)) 6 := selTo_filter _ _ 6
theorem bits_shown (t : Qt) (x : Tp) (s : Nat) (f : Int) : bitsL (maskL (t.shown x (bitsL s) f)) = t.shown x (bitsL s) f := by rw [shown_sel]; exact bits_maskL _
theorem mask_bits : ∀ s : Nat, s < 64 → maskL (bitsL s) = s := by decide +kernel
theorem shown_same (t : Qt) (x : Tp) {s : Nat} (hs : s < 64) (f : Int) : (maskL (t.shown x (bitsL s) f) = s) ↔ t.shown x (bitsL s) f = bitsL s :=
  ⟨fun h => by rw [← bits_shown, h], fun h => by rw [h, mask_bits s hs]⟩
/-- an array of ten masks -/
structure ArrAt (w : World) (B : Nat) (m : Nat → Nat) : Prop where
  lt : B < w.heap.size
  cell : ∀ f, f < 10 → w.cell? ⟨B, f, none⟩ = some (.int .u64 (m f : Int))
  frz : ∀ o, w.frozen? ⟨B, o, none⟩ = false
theorem ArrAt.mono {w w' : World} {B : Nat} {m : Nat → Nat} (h : ArrAt w B m) (hb : Below w.heap.size w w') : ArrAt w' B m :=
  ⟨Nat.lt_of_lt_of_le h.lt hb.size, fun f hf => (hb.cell (p := ⟨B, f, none⟩) h.lt).trans (h.cell f hf), fun o => (hb.frozen (p := ⟨B, o, none⟩) h.lt).trans (h.frz o)⟩
theorem ArrAt.put {w : World} {B : Nat} {m m' : Nat → Nat} (h : ArrAt w B m) {f : Nat} (hf : f < 10) {u : Nat} (hu : m' f = u) (ho : ∀ g, g ≠ f → m' g = m g) : ArrAt (w.setCell ⟨B, f, none⟩ (.int .u64 (u : Int))) B m' :=
  ⟨by simpa [World.setCell] using h.lt, fun g hg => by
    by_cases e : g = f
    · subst e
      rw [hu]
      exact World.cell?_setCell_same _ _ _ (h.cell g hg)
    · rw [ho g e]
      exact (World.cell?_setCell_other _ _ _ _ (fun e' => by injection e' with _ e'; exact e e'.symm)).trans (h.cell g hg), fun o => by rw [World.frozen?_setCell]; exact h.frz o⟩
/-- what behind hands back -/
def behM (t : Qt) (x : Tp) (s f : Nat) : Nat := maskL (t.shown x (bitsL s) f)
def behV (t : Qt) (x : Tp) (s : Nat) : Value := .agg #[.int .u64 (behM t x s 0), .int .u64 (behM t x s 1), .int .u64 (behM t x s 2), .int .u64 (behM t x s 3), .int .u64 (behM t x s 4), .int .u64 (behM t x s 5), .int .u64 (behM t x s 6), .int .u64 (behM t x s 7), .int .u64 (behM t x s 8), .int .u64 (behM t x s 9)]
/-- after k of the worlds -/
def behK (t : Qt) (x : Tp) (s k f : Nat) : Nat := maskL (((bitsL s).take k).filter fun w => t.F w x == (f : Int))
theorem behK_zero (t : Qt) (x : Tp) (s f : Nat) : behK t x s 0 f = 0 := by simp [behK, maskL]
theorem behK_all (t : Qt) (x : Tp) (s f : Nat) : behK t x s (bitsL s).length f = behM t x s f := by
  unfold behK behM Qt.shown
  rw [List.take_length]
theorem behK_hit (t : Qt) (x : Tp) (s k f i : Nat) (hk : (bitsL s)[k]? = some (i : Int)) (hf : t.F i x = f) : behK t x s (k + 1) f = behK t x s k f ||| 2 ^ i := by
  unfold behK
  rw [List.take_add_one, hk]
  simp only [Option.toList_some, List.filter_append]
  rw [List.filter_cons, if_pos (by rw [hf]; simp)]
  rw [List.filter_nil, maskL_snoc, Int.toNat_natCast]
theorem behK_miss (t : Qt) (x : Tp) (s k f i : Nat) (hk : (bitsL s)[k]? = some (i : Int)) (hf : t.F i x ≠ f) : behK t x s (k + 1) f = behK t x s k f := by
  unfold behK
  rw [List.take_add_one, hk]
  simp only [Option.toList_some, List.filter_append]
  rw [List.filter_cons, if_neg (by simpa using hf)]
  simp
theorem behK_64 (t : Qt) (x : Tp) (s k f : Nat) : behK t x s k f < 64 := maskL_lt fun y hy => by
  obtain ⟨i, h1, _, rfl⟩ := bitsL_mem.1 (List.mem_of_mem_take (List.mem_filter.1 hy).1)
  simpa using h1
theorem set10 {base B : Nat} {w w' : World} (h : Below base w w') (hB : base ≤ B) (v0 v1 v2 v3 v4 v5 v6 v7 v8 v9 : Value) : Below base w ((((((((((w'.setCell ⟨B, 0, none⟩ v0).setCell ⟨B, 1, none⟩ v1).setCell ⟨B, 2, none⟩ v2).setCell ⟨B, 3, none⟩ v3).setCell ⟨B, 4, none⟩ v4).setCell ⟨B, 5, none⟩ v5).setCell ⟨B, 6, none⟩ v6).setCell ⟨B, 7, none⟩ v7).setCell ⟨B, 8, none⟩ v8).setCell ⟨B, 9, none⟩ v9) :=
  ((((((((((h.setCell (p := ⟨B, 0, none⟩) hB v0).setCell (p := ⟨B, 1, none⟩) hB v1).setCell (p := ⟨B, 2, none⟩) hB v2).setCell (p := ⟨B, 3, none⟩) hB v3).setCell (p := ⟨B, 4, none⟩) hB v4).setCell (p := ⟨B, 5, none⟩) hB v5).setCell (p := ⟨B, 6, none⟩) hB v6).setCell (p := ⟨B, 7, none⟩) hB v7).setCell (p := ⟨B, 8, none⟩) hB v8).setCell (p := ⟨B, 9, none⟩) hB v9)
set_option maxHeartbeats 4000000 in
set_option maxRecDepth 100000 in
theorem behind_any (Aw Af : Option Addr) (cw cf C mp s0 s : Nat) (t : Qt) (p q : Nat) (w : World) (hc : CourtAt w C Aw Af cw cf t s0 mp) (ok : t.Ok) (h64 : s < 64) (hsub : ∀ i : Nat, s.testBit i = true → i < t.nw) (hp : (p : Int) < t.wells) (hq : (q : Int) < t.wells) (hT : QAt w Aw Af t) (hB : TabAt w) :
    Calls Tryd.prog 49 #[.pointer (some ⟨C, 0, none⟩), .int .u64 s, .agg #[.int .i64 p, .int .i64 q]] w fun e w' => e = .returned (behV t (p, q) s) ∧ Below w.heap.size w w' := by
  have hb2 := bAlloc (bAlloc (Below.refl w.heap.size w) (.cells #[.int .i64 p, .int .i64 q] 51)) (.cells #[.int .u64 0, .int .u64 0, .int .u64 0, .int .u64 0, .int .u64 0, .int .u64 0, .int .u64 0, .int .u64 0, .int .u64 0, .int .u64 0] 111)
  have HCT := Lib.hid hc
  have HT := Lib.hid hT
  have HTB := Lib.hid (hB.mono hb2)
  have HOK := Lib.hid ok
  have HSUB := Lib.hid hsub
  have HP := Lib.hid hp
  have HQ := Lib.hid hq
  have HB := Lib.hid hb2
  clear hc hT hB hb2 ok hsub hp hq
  go_enter Tryd.func49, Tryd.ntmps49
  go_wp2_with fail
  refine (list_any s _ h64 HTB.out).mono ?_
  rintro e w2 ⟨⟨v, rfl, hv⟩, hb2⟩
  obtain ⟨A, c, rfl, hrow⟩ := hv.nums
  have HV := Lib.hid (hv.lower (show w.heap.size + 2 ≤ _ by simp))
  have hbA := bTrans (bAlloc (Below.refl (w.alloc (.cells #[.int .i64 p, .int .i64 q] 51)).heap.size (w.alloc (.cells #[.int .i64 p, .int .i64 q] 51))) (.cells #[.int .u64 0, .int .u64 0, .int .u64 0, .int .u64 0, .int .u64 0, .int .u64 0, .int .u64 0, .int .u64 0, .int .u64 0, .int .u64 0] 111)) hb2
  have HBA := Lib.hid hbA
  have HX2 := Lib.hid (ArrAt.mono (w := (w.alloc (.cells #[.int .i64 p, .int .i64 q] 51)).alloc (.cells #[.int .u64 0, .int .u64 0, .int .u64 0, .int .u64 0, .int .u64 0, .int .u64 0, .int .u64 0, .int .u64 0, .int .u64 0, .int .u64 0] 111)) (B := w.heap.size + 1) (m := behK t (p, q) s 0) ⟨by simp, fun f hf => by
    rw [behK_zero]
    rcases (by omega : f = 0 ∨ f = 1 ∨ f = 2 ∨ f = 3 ∨ f = 4 ∨ f = 5 ∨ f = 6 ∨ f = 7 ∨ f = 8 ∨ f = 9) with rfl | rfl | rfl | rfl | rfl | rfl | rfl | rfl | rfl | rfl <;> simp [go_sem], fun o => by simp [go_sem]⟩ hb2)
  obtain ⟨n, hn⟩ : ∃ n, (bitsL s).length = n := ⟨_, rfl⟩
  have hn6 : n ≤ 6 := by rw [← hn]; exact bitsL_len s
  rw [hn]
  have HN := Lib.hid hn
  clear hv hrow hb2 hbA hn
  go_wp2_with fail
  go_loopw [12] (fun i wr => ∃ k : Nat, i = .int .i64 k ∧ k ≤ n ∧ ArrAt wr (w.heap.size + 1) (behK t (p, q) s k) ∧ OwnL wr (w.heap.size + 2) (.slice A n c) (bitsL s) ∧ Below (w.heap.size + 1) (w.alloc (.cells #[.int .i64 p, .int .i64 q] 51)) wr) (fun i _ => n - (intOf i).toNat)
  case atStart => exact ⟨0, rfl, Nat.zero_le _, HX2.out, HN.out ▸ HV.out, by have := HBA.out; simpa using this⟩
  case round =>
    obtain ⟨k, rfl, hk, hX, hO, hbel⟩ := hrel
    have HX := Lib.hid hX
    have HO := Lib.hid hO
    have HL := Lib.hid hbel
    have hbw : Below w.heap.size w wr := bTrans (bAlloc (Below.refl w.heap.size w) (.cells #[.int .i64 p, .int .i64 q] 51)) (by simpa using hbel)
    have HBW := Lib.hid hbw
    have hsz := hbel.size
    simp only [World.size_alloc] at hsz
    have hca := (hbel.cell (p := ⟨w.heap.size, 0, none⟩) (by simp)).trans (show _ = some (.int .i64 p) by simp [go_sem])
    have hcb := (hbel.cell (p := ⟨w.heap.size, 1, none⟩) (by simp)).trans (show _ = some (.int .i64 q) by simp [go_sem])
    have hyw : w.heap.size < wr.heap.size := by omega
    clear hX hO hbel
    by_cases hlt : k < n
    · obtain ⟨x, hx⟩ : ∃ x, (bitsL s)[k]? = some x := ⟨_, List.getElem?_eq_getElem (by rw [HN.out]; exact hlt)⟩
      obtain ⟨i, hi6, hbit, rfl⟩ := bitsL_mem.1 (List.mem_of_getElem? hx)
      have hi := HSUB.out i hbit
      obtain ⟨A1, c1, e1, hrow⟩ := HO.out.nums
      injection e1 with e1 e3 e2
      clear e3
      subst e1 e2
      obtain ⟨b, o, rfl, hbs, c0⟩ := hrow.num hx
      have hF := fallAt_bd HOK.out hi (p := p) (q := q) (by omega) HP.out (by omega) HQ.out
      obtain ⟨f, hf⟩ : ∃ f : Nat, t.F i (p, q) = (f : Int) := ⟨(t.F i (p, q)).toNat, by have := hF.1; show (t.world i).fall p q = _; simp only [Qt.fallAt, Int.toNat_natCast] at hF; show _ = (((t.world i).fall p q).toNat : Int); omega⟩
      have hf9 : f < 10 := by
        have h1 : t.F i (p, q) = (t.world i).fall p q := rfl
        simp only [Qt.fallAt, Int.toNat_natCast] at hF
        omega
      have HCS := Lib.hid (fun (w' : World) (hb : Below wr.heap.size wr w') => (hf ▸ shows_any Aw Af cw cf C mp s0 t p q i w' ((HCT.out.mono hbw).mono hb) HOK.out HP.out HQ.out hi ((HT.out.mono hbw).mono hb) : Calls Tryd.prog 48 #[.pointer (some ⟨C, 0, none⟩), .agg #[.int .i64 p, .int .i64 q], .int .i64 i] w' fun e w'' => e = .returned (.int .i64 f) ∧ Below w'.heap.size w' w''))
      obtain ⟨m, hm⟩ : ∃ m, behK t (p, q) s k f = m := ⟨_, rfl⟩
      obtain ⟨u, hu⟩ : ∃ u, 2 ^ i = u := ⟨_, rfl⟩
      obtain ⟨z, hz⟩ : ∃ z, m ||| u = z := ⟨_, rfl⟩
      have y0 := HX.out.cell f hf9
      rw [hm] at y0
      have z0 := HX.out.frz f
      have x0 := HX.out.lt
      have hshl : IntKind.u64.wrap ((2 : Int) ^ i) = (u : Int) := by rw [← hu]; exact shlW i hi6
      have hor : bits BinOp.and IntKind.u64 0 0 = 0 ∧ bits BinOp.or IntKind.u64 (m : Int) (u : Int) = (z : Int) := ⟨by decide +kernel, by
        rw [← hz]
        refine orW m u ?_ ?_
        · rw [← hm]; exact behK_64 _ _ _ _ _
        · rw [← hu]; exact Nat.lt_of_lt_of_le (Nat.pow_lt_pow_right (by decide) hi6) (by decide)⟩
      have hor := hor.2
      have HHIT := Lib.hid (show behK t (p, q) s (k + 1) f = z by rw [behK_hit t (p, q) s k f i hx hf, hm, hu, hz])
      have HMISS := Lib.hid (fun g (hg : g ≠ f) => behK_miss t (p, q) s k g i hx (by rw [hf]; exact fun e => hg (by omega)))
      have f10 : (f : Int) < 10 := by omega
      have f0 : (0 : Int) ≤ (f : Int) := by omega
      have i0 : (0 : Int) ≤ (i : Int) := by omega
      have k1 : (k : Int) < (n : Int) := by omega
      clear hrow hx hF hf hm hu hz hbit hbw
      go_wp2_with fail
      refine wp_region_last 10 (by kernel_rfl) (by kernel_rfl) rfl ?_
      repeat (first | (refine wpCalm_skip rfl ?_) | (refine wpCalm_step rfl (fun K hK => ?_); go_simp; (first | (refine hK _ ?_; clear hK K) | (apply Exists.intro; refine ⟨fun _ => ?_, hK _ ?_⟩; ((go_at_call 48; with_reducible exact newer_of (HCS.out _ (below_regrown _ _ _)))); clear hK K))))
      refine wpCalm_nil ?_
      intro w9 hb9
      have HX9 := Lib.hid (HX.out.mono hb9)
      have HO9 := Lib.hid (HO.out.mono hb9)
      have HL9 := Lib.hid (HL.out.trans (hb9.mono (by omega)))
      have u0 := HX9.out.lt
      have u1 := (hb9.cell (p := ⟨w.heap.size + 1, f, none⟩) x0).trans y0
      have u2 := HX9.out.frz f
      clear hb9 c0 y0 z0 hca hcb x0
      go_wp2_with fail
      go_roundw
      case rel => exact ⟨k + 1, by go_num, by have := HN.out; omega, HX9.out.put hf9 HHIT.out HMISS.out, HO9.out.set (b := w.heap.size + 1) (by omega) f (.int .u64 z), Below.setCell (p := ⟨w.heap.size + 1, f, none⟩) HL9.out (by simp) (.int .u64 z)⟩
      case measure => simp [intOf]; omega
    · obtain rfl : k = n := by omega
      have hall : ∀ f, f < 10 → wr.cell? ⟨w.heap.size + 1, f, none⟩ = some (.int .u64 (behM t (p, q) s f : Nat)) := fun f hf => by rw [HX.out.cell f hf, ← HN.out, behK_all]
      have c0 := hall 0 (by decide)
      have c1 := hall 1 (by decide)
      have c2 := hall 2 (by decide)
      have c3 := hall 3 (by decide)
      have c4 := hall 4 (by decide)
      have c5 := hall 5 (by decide)
      have c6 := hall 6 (by decide)
      have c7 := hall 7 (by decide)
      have c8 := hall 8 (by decide)
      have c9 := hall 9 (by decide)
      have x0 := HX.out.lt
      have z0 := HX.out.frz
      clear hall hca hcb
      go_wp2_with fail
      refine bodyPost_ret (v := behV t (p, q) s) (by simp [results, behV, Tryd.results49, go_sem, *]) rfl ⟨rfl, ?_⟩
      exact set10 HBW.out (Nat.le_succ _) _ _ _ _ _ _ _ _ _ _
end Go.Proofs.YthnojgdckkdcgaaDoor

namespace Go.Proofs.YthnojgdckkdcgaaDoor
open Go.RowKit Go.Sort
theorem mask_sub {t : Qt} (i : Nat) (h : (t.maskTo t.nw).testBit i = true) : i < t.nw := by
  rw [maskTo_bit] at h
  simp at h
  exact h.1
def behA (t : Qt) (x : Tp) (s : Nat) : Array Value := #[.int .u64 (behM t x s 0), .int .u64 (behM t x s 1), .int .u64 (behM t x s 2), .int .u64 (behM t x s 3), .int .u64 (behM t x s 4), .int .u64 (behM t x s 5), .int .u64 (behM t x s 6), .int .u64 (behM t x s 7), .int .u64 (behM t x s 8), .int .u64 (behM t x s 9)]
theorem behA_get (t : Qt) (x : Tp) (s : Nat) {k : Nat} (h : k < 10) : (behA t x s)[k]? = some (.int .u64 (behM t x s k : Int)) := by
  rcases (by omega : k = 0 ∨ k = 1 ∨ k = 2 ∨ k = 3 ∨ k = 4 ∨ k = 5 ∨ k = 6 ∨ k = 7 ∨ k = 8 ∨ k = 9) with rfl | rfl | rfl | rfl | rfl | rfl | rfl | rfl | rfl | rfl <;> rfl
theorem index10 (ba : Array Value) (k : Nat) (u : Nat) (h : ba[k]? = some (.int .u64 (u : Int))) (hk : k < 10) (w : World) : (Instr.index 111 (.agg ba) (.int .i64 k)).run Tryd.prog w = .ok (.int .u64 (u : Int)) w := by
  have h1 : (k : Int) < 10 := by omega
  have hs : (ba.extract k (k + 1)) = #[.int .u64 (u : Int)] := by
    obtain ⟨hlt, he⟩ := Array.getElem?_eq_some_iff.1 h
    apply Array.ext
    · simp; omega
    · intro i hi1 hi2
      have : i = 0 := by simp at hi2; omega
      subst this
      simpa using he
  simp [Instr.index, run_underlying Tryd.underlying111, asIntOf, go_sem, h1, hs, h]
  intro h2
  omega
end Go.Proofs.YthnojgdckkdcgaaDoor

namespace Go.Proofs.YthnojgdckkdcgaaDoor
open Go.RowKit Go.Sort
/-- tests of a town -/
def Qt.TestsOk (t : Qt) (l : List Tp) : Prop := ∀ x, x ∈ l → (x.1 : Int) < t.wells ∧ (x.2 : Int) < t.wells
/-- pairs of worlds of a town -/
def Qt.PairsOk (t : Qt) (ps : List (Int × Int)) : Prop := ∀ x, x ∈ ps → ∃ i j : Nat, x = ((i : Int), (j : Int)) ∧ i < t.nw ∧ j < t.nw
def tget (l : List Tp) (i : Nat) : Tp := l[i]?.getD (0, 0)
theorem tget_mem {l : List Tp} {i : Nat} (h : i < l.length) : tget l i ∈ l := by
  unfold tget
  rw [List.getElem?_eq_getElem h]
  exact List.getElem_mem h
theorem tget_some {l : List Tp} {i : Nat} (h : i < l.length) : l[i]? = some (tget l i) := by
  unfold tget
  rw [List.getElem?_eq_getElem h]
  rfl
theorem testsAt_row {w : World} {A : Option Addr} {l : List Tp} (h : RowAt w A (tstE.cells l)) : TestsAt w A l.length (fun i => ⟨((tget l i).1 : Int), ((tget l i).2 : Int)⟩) := by
  cases l with
  | nil => exact .inl rfl
  | cons x l' =>
    obtain ⟨b, o, h1, h2, _⟩ := SliceE.tst h (j := 0) (tget_some (by simp))
    refine .inr ⟨b, o, h1, h2, fun i hi => ?_⟩
    obtain ⟨b', o', h1', _, h3, h4⟩ := SliceE.tst h (j := i) (tget_some hi)
    rw [h1] at h1'
    injection h1' with h1'
    injection h1' with e1 e2
    subst e1 e2
    exact ⟨h3, h4⟩
theorem any_tget (l : List Tp) (p : Tp → Bool) : anyB (fun i => p (tget l i)) l.length = l.any p := by
  refine Bool.eq_iff_iff.2 ?_
  rw [anyB_true, List.any_eq_true]
  constructor
  · rintro ⟨i, hi, h⟩
    exact ⟨_, tget_mem hi, h⟩
  · rintro ⟨x, hx, h⟩
    obtain ⟨i, hi, rfl⟩ := List.getElem_of_mem hx
    exact ⟨i, hi, by unfold tget; rw [List.getElem?_eq_getElem hi]; exact h⟩
set_option maxHeartbeats 2000000 in
theorem told1_any (Aw Af : Option Addr) (cw cf C mp s a d : Nat) (t : Qt) (p q i j : Nat) (w : World) (hc : CourtAt w C Aw Af cw cf t s mp) (ok : t.Ok) (hp : (p : Int) < t.wells) (hq : (q : Int) < t.wells) (hi : i < t.nw) (hj : j < t.nw) (hT : QAt w Aw Af t)
    (ha : a < w.heap.size) (hca : w.cell? ⟨a, 0, none⟩ = some (.pointer (some ⟨C, 0, none⟩))) (hd : d < w.heap.size) (hcd : w.cell? ⟨d, 0, none⟩ = some (.int .i64 i)) (hce : w.cell? ⟨d, 1, none⟩ = some (.int .i64 j)) :
    Calls Tryd.prog 61 #[.agg #[.int .i64 p, .int .i64 q], .pointer (some ⟨a, 0, none⟩), .pointer (some ⟨d, 0, none⟩)] w fun e w' => e = .returned (.bool (t.apart (p, q) i j)) ∧ Below w.heap.size w w' := by
  have hb0 := bAlloc (Below.refl w.heap.size w) (.cells #[.int .i64 p, .int .i64 q] 51)
  have HCT := Lib.hid (hc.mono hb0)
  have HT := Lib.hid (hT.mono hb0)
  have HB := Lib.hid hb0
  have HOK := Lib.hid ok
  have HP := Lib.hid hp
  have HQ := Lib.hid hq
  obtain ⟨u, hu⟩ : ∃ u, t.F i (p, q) = u := ⟨_, rfl⟩
  obtain ⟨v, hv⟩ : ∃ v, t.F j (p, q) = v := ⟨_, rfl⟩
  have HE := Lib.hid (show t.apart (p, q) i j = (u != v) by unfold Qt.apart; rw [hu, hv])
  have HC1 := Lib.hid (fun (w' : World) (hb : Below (w.alloc (.cells #[.int .i64 p, .int .i64 q] 51)).heap.size (w.alloc (.cells #[.int .i64 p, .int .i64 q] 51)) w') => (hu ▸ shows_any Aw Af cw cf C mp s t p q i w' (HCT.out.mono hb) HOK.out HP.out HQ.out hi (HT.out.mono hb) : Calls Tryd.prog 48 #[.pointer (some ⟨C, 0, none⟩), .agg #[.int .i64 p, .int .i64 q], .int .i64 i] w' fun e w'' => e = .returned (.int .i64 u) ∧ Below w'.heap.size w' w''))
  have HC2 := Lib.hid (fun (w' : World) (hb : Below (w.alloc (.cells #[.int .i64 p, .int .i64 q] 51)).heap.size (w.alloc (.cells #[.int .i64 p, .int .i64 q] 51)) w') => (hv ▸ shows_any Aw Af cw cf C mp s t p q j w' (HCT.out.mono hb) HOK.out HP.out HQ.out hj (HT.out.mono hb) : Calls Tryd.prog 48 #[.pointer (some ⟨C, 0, none⟩), .agg #[.int .i64 p, .int .i64 q], .int .i64 j] w' fun e w'' => e = .returned (.int .i64 v) ∧ Below w'.heap.size w' w''))
  clear hu hv hc hT hb0 ok hp hq
  go_enter Tryd.func61, Tryd.ntmps61
  go_wp2_with fail
  refine wp_region_quiet_below (by kernel_rfl) (by kernel_rfl) ?_
  repeat (go_big_quiet_step (((first | (go_at_call 48; with_reducible exact Calls.regrown_of (HC1.out _ (below_regrown _ _ _))) | (go_at_call 48; with_reducible exact Calls.regrown_of (HC2.out _ (below_regrown _ _ _)))))))
  refine wpQuiet_nil ?_
  intro w4 hw4
  have HB4 := Lib.hid (below_of_regrown hw4)
  clear hw4
  go_wp2_with fail
  go_ret
  exact ⟨by rw [HE.out]; first | rfl | exact ret_bool (by by_cases h : u = v <;> simp [h]), bTrans HB.out HB4.out⟩
theorem told_step {t : Qt} {l : List Tp} {ps : List (Int × Int)} {k : Nat} {x : Int × Int} (hk : ps[k]? = some x) (h : t.someB l x.1 x.2 = false) : t.told l ps = false := by
  unfold Qt.told
  rw [List.all_eq_false]
  exact ⟨x, List.mem_of_getElem? hk, by rw [h]; decide⟩
theorem told_all {t : Qt} {l : List Tp} {ps : List (Int × Int)} (h : ∀ (k : Nat) (x : Int × Int), ps[k]? = some x → t.someB l x.1 x.2 = true) : t.told l ps = true := by
  unfold Qt.told
  rw [List.all_eq_true]
  intro x hx
  obtain ⟨k, hk, rfl⟩ := List.getElem_of_mem hx
  exact h k _ (List.getElem?_eq_getElem hk)
set_option maxHeartbeats 4000000 in
set_option maxRecDepth 100000 in
theorem told_any (Aw Af A Ap : Option Addr) (cw cf C mp s c cp : Nat) (t : Qt) (l : List Tp) (ps : List (Int × Int)) (w : World) (hc : CourtAt w C Aw Af cw cf t s mp) (ok : t.Ok) (hl : t.TestsOk l) (hp : t.PairsOk ps) (hT : QAt w Aw Af t) (hA : RowAt w A (tstE.cells l)) (hP : RowAt w Ap (prE.cells ps)) (hlen : l.length ≤ 100000) (hplen : ps.length ≤ 100000) :
    Calls Tryd.prog 46 #[.pointer (some ⟨C, 0, none⟩), .slice A l.length c, .slice Ap ps.length cp] w fun e w' => e = .returned (.bool (t.told l ps)) ∧ Below w.heap.size w w' := by
  have hb0 := bAlloc (Below.refl w.heap.size w) (.cells #[.pointer (some ⟨C, 0, none⟩)] 74)
  have HCT := Lib.hid (hc.mono hb0)
  have HT := Lib.hid (hT.mono hb0)
  have HA := Lib.hid (hA.mono hb0)
  have HPR := Lib.hid (hP.mono hb0)
  have HB := Lib.hid hb0
  have HOK := Lib.hid ok
  have HLO := Lib.hid hl
  have HPO := Lib.hid hp
  obtain ⟨n, hn⟩ : ∃ n, ps.length = n := ⟨_, rfl⟩
  obtain ⟨m, hm⟩ : ∃ m, l.length = m := ⟨_, rfl⟩
  rw [hn] at hplen ⊢
  rw [hm] at hlen ⊢
  have HN := Lib.hid hn
  have HM := Lib.hid hm
  clear hc hT hA hP hb0 ok hl hp hn hm
  go_enter Tryd.func46, Tryd.ntmps46
  go_wp2_with fail
  go_loopw [11] (fun i wr => ∃ k : Nat, i = .int .i64 k ∧ k ≤ n ∧ (∀ j x, j < k → ps[j]? = some x → t.someB l x.1 x.2 = true) ∧ Below (w.alloc (.cells #[.pointer (some ⟨C, 0, none⟩)] 74)).heap.size (w.alloc (.cells #[.pointer (some ⟨C, 0, none⟩)] 74)) wr) (fun i _ => n - (intOf i).toNat)
  case atStart => exact ⟨0, rfl, Nat.zero_le _, fun j x hj => absurd hj (Nat.not_lt_zero _), Below.refl _ _⟩
  case round =>
    obtain ⟨k, rfl, hk, hall, hbel⟩ := hrel
    have HALL := Lib.hid hall
    have HL := Lib.hid hbel
    obtain ⟨bc3, bf3⟩ := bcell hbel
    have hz3 := hbel.size
    simp only [World.size_alloc] at hz3
    have hy3 : w.heap.size < wr.heap.size := hz3
    clear hbel hall
    by_cases hlt : k < n
    · obtain ⟨x, hx⟩ : ∃ x, ps[k]? = some x := ⟨_, List.getElem?_eq_getElem (by rw [HN.out]; exact hlt)⟩
      obtain ⟨i, j, rfl, hi, hj⟩ := HPO.out x (List.mem_of_getElem? hx)
      obtain ⟨b, o, rfl, hbs, c0, c1⟩ := SliceE.pr (HPR.out.mono HL.out) hx
      have HX := Lib.hid hx
      have k1 : (k : Int) < (n : Int) := by omega
      have hb4 := bAlloc (Below.refl wr.heap.size wr) (.cells #[.int .i64 i, .int .i64 j] 109)
      obtain ⟨r, hr⟩ : ∃ r, t.someB l (i : Int) (j : Int) = r := ⟨_, rfl⟩
      have hca : (wr.alloc (.cells #[.int .i64 i, .int .i64 j] 109)).cell? ⟨w.heap.size, 0, none⟩ = some (.pointer (some ⟨C, 0, none⟩)) := (hb4.cell (p := ⟨w.heap.size, 0, none⟩) hy3).trans ((HL.out.cell (p := ⟨w.heap.size, 0, none⟩) (by simp)).trans (by simp [go_sem]))
      have HNT := Lib.hid (none_test A m c 61 #[.pointer (some ⟨w.heap.size, 0, none⟩), .pointer (some ⟨wr.heap.size, 0, none⟩)] (fun i => ⟨((tget l i).1 : Int), ((tget l i).2 : Int)⟩) (fun g => t.apart (tget l g) i j) (wr.alloc (.cells #[.int .i64 i, .int .i64 j] 109)) (by omega) (HM.out ▸ ((testsAt_row HA.out).mono HL.out).mono hb4) (enters_of Tryd.func61 (by kernel_rfl)) (fun g hg w' hb' => by
        have hm := HLO.out _ (tget_mem (l := l) (i := g) (by rw [HM.out]; exact hg))
        have hz := hb'.size
        simp only [World.size_alloc] at hz
        exact told1_any Aw Af cw cf C mp s w.heap.size wr.heap.size t (tget l g).1 (tget l g).2 i j w' (((HCT.out.mono HL.out).mono hb4).mono hb') HOK.out hm.1 hm.2 hi hj (((HT.out.mono HL.out).mono hb4).mono hb') (by omega) ((hb'.cell (p := ⟨w.heap.size, 0, none⟩) (by simp; omega)).trans hca) (by omega) ((hb'.cell (p := ⟨wr.heap.size, 0, none⟩) (by simp)).trans (by simp [go_sem])) ((hb'.cell (p := ⟨wr.heap.size, 1, none⟩) (by simp)).trans (by simp [go_sem]))))
      rw [show anyB (fun g => t.apart (tget l g) i j) m = r by rw [← HM.out, any_tget l (fun x => t.apart x i j)]; exact hr] at HNT
      have HR := Lib.hid hr
      clear hr hx hca hi hj
      cases r
      · go_wp2_with fail
        refine HNT.out.mono ?_
        rintro e w5 ⟨rfl, hb5⟩
        have HB5 := Lib.hid (bTrans HL.out (bTrans hb4 hb5))
        have HZ := Lib.hid (told_step HX.out HR.out)
        clear hb5 hb4 c0 c1
        go_wp2_with fail
        go_ret
        exact ⟨by rw [HZ.out]; rfl, bTrans HB.out HB5.out⟩
      · go_wp2_with fail
        refine HNT.out.mono ?_
        rintro e w5 ⟨rfl, hb5⟩
        have HB5 := Lib.hid (bTrans HL.out (bTrans hb4 hb5))
        have HA2 := Lib.hid (show ∀ g x, g < k + 1 → ps[g]? = some x → t.someB l x.1 x.2 = true from fun g x hg hx => by
          rcases Nat.lt_or_ge g k with h1 | h1
          · exact HALL.out g x h1 hx
          · obtain rfl : g = k := by omega
            rw [HX.out] at hx
            injection hx with hx
            rw [← hx]
            exact HR.out)
        clear hb5 hb4 c0 c1
        go_wp2_with fail
        go_roundw
        case rel =>
          first
          | exact ⟨k + 1, by go_num, by omega, HA2.out, HB5.out⟩
          | ((repeat apply Exists.intro)
             refine ⟨⟨k + 1, ?_, by omega, HA2.out, HB5.out⟩, rfl⟩
             go_num)
        case measure => simp [intOf]; omega
    · obtain rfl : n = k := by omega
      have HZ := Lib.hid (told_all (t := t) (l := l) (ps := ps) fun g x hx => HALL.out g x (by
        rcases Nat.lt_or_ge g n with h1 | h1
        · exact h1
        · rw [List.getElem?_eq_none (by rw [HN.out]; exact h1)] at hx; cases hx) hx)
      go_wp2_with fail
      go_ret
      exact ⟨by rw [HZ.out]; rfl, bTrans HB.out HL.out⟩
end Go.Proofs.YthnojgdckkdcgaaDoor

