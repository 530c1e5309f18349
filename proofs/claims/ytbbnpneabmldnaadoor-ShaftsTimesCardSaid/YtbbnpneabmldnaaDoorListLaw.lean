/- What Within says of all plans; all lists of stops, the plans among them, and the first one with the fewest stops: in plain Lean. No program in sight. -/
import Derived.Test.YtbbnpneabmldnaaDoorPlanLaw
namespace Go.Proofs.YtbbnpneabmldnaaDoor
open Go.RowKit Go.Sort
def Sh.dig (S : Sh) : Int := sumTo S.hour S.nf
structure Sh.Best (S : Sh) (K : Nat) (v : Int) : Prop where
  is : ∃ l, S.Chain 0 l ∧ l.length ≤ K ∧ S.pay l = v
  least : ∀ l, S.Chain 0 l → l.length ≤ K → v ≤ S.pay l
def Sh.There (S : Sh) (h : Int) : Prop := S.dig ≤ h ∧ ∃ l, S.Chain 0 l ∧ l.length ≤ S.ringsIn h
theorem within_cases {S : Sh} (ok : S.Ok) (h : Int) : (S.There h ∧ ∃ v, S.withinOut h = (v, 0) ∧ S.Best (S.ringsIn h) v ∧ 0 ≤ v ∧ v ≤ 4968) ∨ (¬ S.There h ∧ S.withinOut h = (0, 3)) := by
  by_cases hd : h < sumTo S.hour S.nf
  · exact .inr ⟨fun ⟨h1, _⟩ => by unfold Sh.dig at h1; omega, withinOut_few ok hd⟩
  · have M := measP S
    by_cases hn : S.waysOf ltP (min (S.ringsIn h) S.nf) 0 = noWay
    · refine .inr ⟨fun ⟨_, l, h1, h2⟩ => (waysOf_best M _ 0 l h1 (by have := h1.len; omega)).1 hn, withinOut_none ok hd hn⟩
    · obtain ⟨l, h1, h2, _, h3⟩ := waysOf_sound M _ 0 (Nat.zero_le _) hn
      obtain ⟨y0, y1, _, _⟩ := digs_bd ok (k := S.nf) (Nat.le_refl _)
      obtain ⟨p0, p1⟩ := pence_bd ok ltP (min (S.ringsIn h) S.nf) (by have := ok.nf; omega)
      refine .inl ⟨⟨by unfold Sh.dig; omega, l, h1, by omega⟩, _, withinOut_some ok hd hn, ⟨⟨l, h1, by omega, by unfold Sh.pay; rw [h3]⟩, fun l' h1' h2' => ?_⟩, by omega, by omega⟩
      have := (waysOf_best M (min (S.ringsIn h) S.nf) 0 l' h1' (by have := h1'.len; omega)).2
      unfold Sh.pay
      omega
theorem le_ringsIn {S : Sh} (ok : S.Ok) {h : Int} (hd : S.dig ≤ h) {m : Nat} (hm : m ≤ 12) : m ≤ S.ringsIn h ↔ S.dig + (m : Int) * S.rest ≤ h := by
  have r0 := ok.r0
  unfold Sh.ringsIn
  by_cases hr : 0 < S.rest
  · rw [if_pos hr]
    have e : (h - sumTo S.hour S.nf).toNat / S.rest.toNat = ((h - S.dig) / S.rest).toNat := by
      have h1 : (((h - sumTo S.hour S.nf).toNat / S.rest.toNat : Nat) : Int) = (h - S.dig) / S.rest := by
        rw [Int.natCast_ediv, Int.toNat_of_nonneg (by unfold Sh.dig at hd; omega), Int.toNat_of_nonneg (by omega)]; rfl
      rw [← h1]; rfl
    rw [e]
    have h2 : (m : Int) ≤ (h - S.dig) / S.rest ↔ (m : Int) * S.rest ≤ h - S.dig := Int.le_ediv_iff_mul_le hr
    have h3 : 0 ≤ (h - S.dig) / S.rest := Int.ediv_nonneg (by omega) (by omega)
    constructor
    · intro h4
      have := h2.1 (by omega)
      omega
    · intro h4
      have := h2.2 (by omega)
      omega
  · rw [if_neg hr]
    have : S.rest = 0 := by omega
    rw [this, Int.mul_zero]
    exact ⟨fun _ => by omega, fun _ => hm⟩
theorem there_iff {S : Sh} (ok : S.Ok) {m : Nat} (hf : S.IsFew m) (h : Int) : S.There h ↔ S.dig + (m : Int) * S.rest ≤ h := by
  have hm := hf.le
  have hnf := ok.nf
  have hmr : 0 ≤ (m : Int) * S.rest := Int.mul_nonneg (by omega) ok.r0
  constructor
  · rintro ⟨h1, l, h2, h3⟩
    have := hf.least l h2
    exact (le_ringsIn ok h1 (by omega)).1 (by omega)
  · intro h1
    obtain ⟨l, h2, h3⟩ := hf.is
    exact ⟨by omega, l, h2, by rw [h3]; exact (le_ringsIn ok (by omega) (by omega)).2 h1⟩
theorem ringsIn_mono {S : Sh} (ok : S.Ok) {h h' : Int} (hd : S.dig ≤ h) (hh : h ≤ h') : S.ringsIn h ≤ S.ringsIn h' := by
  have h1 := (le_ringsIn ok hd (ringsIn_le S h)).1 (Nat.le_refl _)
  exact (le_ringsIn ok (by omega) (ringsIn_le S h)).2 (by omega)
theorem best_mono {S : Sh} {K K' : Nat} {v v' : Int} (h : S.Best K v) (h' : S.Best K' v') (hk : K ≤ K') : v' ≤ v := by
  obtain ⟨l, h1, h2, h3⟩ := h.is
  have := h'.least l h1 (by omega)
  omega
theorem best_cheap {S : Sh} {K : Nat} {v n : Int} (h : S.Best K v) (hc : S.IsCheap n) : n ≤ v := by
  obtain ⟨l, h1, _, h3⟩ := h.is
  have := hc.least l h1
  omega
/-- with the hours of a plan that costs the least -/
theorem within_cheapest {S : Sh} (ok : S.Ok) {m : Nat} {g : Nat → Int} {n : Int} (hP : S.Plan m g) (hc : S.costOf m g = n) (hn : S.IsCheap n) : S.withinOut (S.hoursOf m) = (n, 0) := by
  have hch := plan_chain hP
  have hm : m ≤ 12 := by have := hch.len; rw [stopsL_len] at this; have := ok.nf; omega
  have hmr : 0 ≤ (m : Int) * S.rest := Int.mul_nonneg (by omega) ok.r0
  have hh : S.hoursOf m = S.dig + (m : Int) * S.rest := by unfold Sh.hoursOf Sh.dig; rw [Int.mul_comm]; omega
  have hK : m ≤ S.ringsIn (S.hoursOf m) := (le_ringsIn ok (by omega) hm).2 (by omega)
  rcases within_cases ok (S.hoursOf m) with ⟨_, v, h1, h2, _, _⟩ | ⟨h1, _⟩
  · have h3 := h2.least _ hch (by rw [stopsL_len]; exact hK)
    rw [← costOf_pay, hc] at h3
    have h4 := best_cheap h2 hn
    rw [h1]
    congr 1
    omega
  · exact absurd ⟨by omega, _, hch, by rw [stopsL_len]; exact hK⟩ h1
/-- the numbers of a list, 0 behind its end -/
def gOf (l : List Int) : Nat → Int := fun i => l.getD i 0
theorem gOf_get {l : List Int} {i : Nat} {x : Int} (h : l[i]? = some x) : gOf l i = x := by unfold gOf; rw [List.getD_eq_getElem?_getD, h]; rfl
theorem gOf_append {l t : List Int} {i : Nat} (h : i < l.length) : gOf (l ++ t) i = gOf l i := by
  unfold gOf
  rw [List.getD_eq_getElem?_getD, List.getD_eq_getElem?_getD, List.getElem?_append_left h]
theorem gOf_last (l : List Int) (x : Int) : gOf (l ++ [x]) l.length = x := by
  unfold gOf
  rw [List.getD_eq_getElem?_getD, List.getElem?_append_right (Nat.le_refl _), Nat.sub_self]
  rfl
def lastL (l : List Int) : Nat := stopAt (gOf l) l.length
theorem lastL_snoc (l : List Int) (d : Nat) : lastL (l ++ [(d : Int)]) = d := by
  unfold lastL
  rw [List.length_append]
  show (gOf (l ++ [(d : Int)]) l.length).toNat = d
  rw [gOf_last]
  rfl
/-- the lists that go on from l with numbers above nf - f -/
def behindL (nf : Nat) : Nat → List Int → List (List Int)
  | 0, _ => []
  | f + 1, l => ((l ++ [((nf - f : Nat) : Int)]) :: behindL nf f (l ++ [((nf - f : Nat) : Int)])) ++ behindL nf f l
theorem behindL_len (nf : Nat) : ∀ f l, (behindL nf f l).length + 1 = 2 ^ f
  | 0, _ => rfl
  | f + 1, l => by
    have h1 := behindL_len nf f (l ++ [((nf - f : Nat) : Int)])
    have h2 := behindL_len nf f l
    simp only [behindL, List.length_append, List.length_cons]
    rw [Nat.pow_succ]
    omega
/-- ascending numbers above lo, up to nf -/
def UpL (nf : Nat) : Nat → List Nat → Prop
  | _, [] => True
  | lo, d :: t => lo < d ∧ d ≤ nf ∧ UpL nf d t
def intsOf (l : List Nat) : List Int := l.map fun d => ((d : Nat) : Int)
theorem mem_behind {nf : Nat} : ∀ f, f ≤ nf → ∀ (t : List Nat) (l : List Int), t ≠ [] → UpL nf (nf - f) t → l ++ intsOf t ∈ behindL nf f l
  | 0, _, t, l, ht, hu => by
    cases t with
    | nil => exact absurd rfl ht
    | cons d t => have := hu.1; have := hu.2.1; omega
  | f + 1, hf, t, l, ht, hu => by
    cases t with
    | nil => exact absurd rfl ht
    | cons d t =>
      obtain ⟨h1, h2, h3⟩ := hu
      simp only [behindL, List.mem_append, List.mem_cons]
      by_cases e : d = nf - f
      · left
        subst e
        cases t with
        | nil => exact .inl rfl
        | cons d2 t =>
          right
          have := mem_behind f (by omega) (d2 :: t) (l ++ [((nf - f : Nat) : Int)]) (by simp) h3
          rw [List.append_assoc] at this
          exact this
      · right
        exact mem_behind f (by omega) (d :: t) l (by simp) ⟨by omega, h2, h3⟩
def allLists (nf : Nat) : List (List Int) := [] :: behindL nf nf []
theorem mem_all {nf : Nat} {t : List Nat} (h : UpL nf 0 t) : intsOf t ∈ allLists nf := by
  cases t with
  | nil => exact List.mem_cons_self ..
  | cons d t =>
    refine List.mem_cons_of_mem _ ?_
    have := mem_behind nf (Nat.le_refl _) (d :: t) [] (by simp) (by rw [Nat.sub_self]; exact h)
    simpa using this
def LexLt : List Int → List Int → Prop
  | [], [] => False
  | [], _ :: _ => True
  | _ :: _, [] => False
  | x :: s, y :: t => x < y ∨ (x = y ∧ LexLt s t)
theorem LexLt.irrefl : ∀ l, ¬ LexLt l l
  | [] => fun h => h
  | x :: s => fun h => by
    rcases h with h | ⟨_, h⟩
    · exact Int.lt_irrefl _ h
    · exact LexLt.irrefl s h
theorem LexLt.trans : ∀ {a b c : List Int}, LexLt a b → LexLt b c → LexLt a c
  | [], [], _, h, _ => h.elim
  | [], _ :: _, [], _, h => h.elim
  | [], _ :: _, _ :: _, _, _ => trivial
  | _ :: _, [], _, h, _ => h.elim
  | _ :: _, _ :: _, [], _, h => h.elim
  | x :: a, y :: b, z :: c, h1, h2 => by
    rcases h1 with h1 | ⟨rfl, h1⟩
    · rcases h2 with h2 | ⟨rfl, h2⟩
      · exact .inl (Int.lt_trans h1 h2)
      · exact .inl h1
    · rcases h2 with h2 | ⟨rfl, h2⟩
      · exact .inl h2
      · exact .inr ⟨rfl, LexLt.trans h1 h2⟩
theorem LexLt.pre : ∀ (l : List Int) {s t : List Int}, LexLt s t → LexLt (l ++ s) (l ++ t)
  | [], _, _, h => h
  | _ :: l, _, _, h => .inr ⟨rfl, LexLt.pre l h⟩
theorem behind_form {nf : Nat} : ∀ f, f ≤ nf → ∀ (l : List Int) x, x ∈ behindL nf f l → ∃ d t, x = l ++ (d :: t) ∧ ((nf - f : Nat) : Int) < d
  | 0, _, l, x, h => by cases h
  | f + 1, hf, l, x, h => by
    simp only [behindL, List.mem_append, List.mem_cons] at h
    rcases h with (rfl | h) | h
    · exact ⟨_, [], rfl, by omega⟩
    · obtain ⟨d, t, rfl, _⟩ := behind_form f (by omega) _ _ h
      exact ⟨((nf - f : Nat) : Int), d :: t, by simp, by omega⟩
    · obtain ⟨d, t, rfl, h1⟩ := behind_form f (by omega) _ _ h
      exact ⟨d, t, rfl, by omega⟩
theorem behind_order {nf : Nat} : ∀ f, f ≤ nf → ∀ l, (behindL nf f l).Pairwise LexLt
  | 0, _, l => List.Pairwise.nil
  | f + 1, hf, l => by
    simp only [behindL]
    refine List.pairwise_append.2 ⟨List.pairwise_cons.2 ⟨fun x hx => ?_, behind_order f (by omega) _⟩, behind_order f (by omega) _, fun x hx y hy => ?_⟩
    · obtain ⟨d, t, rfl, _⟩ := behind_form f (by omega) _ _ hx
      rw [List.append_assoc]
      refine LexLt.pre l ?_
      exact .inr ⟨rfl, trivial⟩
    · obtain ⟨d, t, rfl, h1⟩ := behind_form f (by omega) _ _ hy
      have h2 : ∃ s, x = l ++ (((nf - f : Nat) : Int) :: s) := by
        rcases List.mem_cons.1 hx with rfl | hx
        · exact ⟨[], rfl⟩
        · obtain ⟨d', t', rfl, _⟩ := behind_form f (by omega) _ _ hx
          exact ⟨d' :: t', by simp⟩
      obtain ⟨s, rfl⟩ := h2
      exact LexLt.pre l (.inl h1)
theorem all_order (nf : Nat) : (allLists nf).Pairwise LexLt := by
  refine List.pairwise_cons.2 ⟨fun x hx => ?_, behind_order nf (Nat.le_refl _) _⟩
  obtain ⟨d, t, rfl, _⟩ := behind_form nf (Nat.le_refl _) _ _ hx
  exact trivial
theorem behind_lens {nf : Nat} : ∀ f (l : List Int) x, x ∈ behindL nf f l → x.length ≤ l.length + f
  | 0, l, x, h => by cases h
  | f + 1, l, x, h => by
    simp only [behindL, List.mem_append, List.mem_cons] at h
    rcases h with (rfl | h) | h
    · simp
    · have := behind_lens f _ _ h
      simp only [List.length_append, List.length_cons, List.length_nil] at this
      omega
    · have := behind_lens f _ _ h
      omega
theorem all_lens {nf : Nat} {x : List Int} (h : x ∈ allLists nf) : x.length ≤ nf := by
  rcases List.mem_cons.1 h with rfl | h
  · exact Nat.zero_le _
  · have := behind_lens nf [] x h
    simpa using this
/-! ### Plans -/
noncomputable def Sh.isPlanL (S : Sh) (l : List Int) : Bool := S.planB l.length (gOf l)
noncomputable def Sh.plansL (S : Sh) : List (List Int) := (allLists S.nf).filter S.isPlanL
theorem intsOf_len (l : List Nat) : (intsOf l).length = l.length := by simp [intsOf]
theorem stopsL_ints {l : List Int} (h : ∀ x ∈ l, 0 ≤ x) : intsOf (stopsL (gOf l) 0 l.length) = l := by
  refine List.ext_getElem? fun i => ?_
  unfold intsOf
  rw [List.getElem?_map]
  rcases Nat.lt_or_ge i l.length with h1 | h1
  · rw [stopsL_get _ _ _ _ h1, Nat.zero_add]
    have h2 : l[i]? = some l[i] := List.getElem?_eq_getElem h1
    rw [h2, gOf_get h2]
    have := h l[i] (List.getElem_mem h1)
    simp; omega
  · rw [List.getElem?_eq_none (by rw [stopsL_len]; exact h1), List.getElem?_eq_none h1]
    rfl
theorem ints_stops (l : List Nat) : stopsL (gOf (intsOf l)) 0 (intsOf l).length = l := by
  refine List.ext_getElem? fun i => ?_
  rcases Nat.lt_or_ge i l.length with h1 | h1
  · rw [stopsL_get _ _ _ _ (by rw [intsOf_len]; exact h1), Nat.zero_add]
    have h2 : l[i]? = some l[i] := List.getElem?_eq_getElem h1
    have h3 : (intsOf l)[i]? = some ((l[i] : Nat) : Int) := by unfold intsOf; rw [List.getElem?_map, h2]; rfl
    rw [gOf_get h3, h2]
    rfl
  · rw [List.getElem?_eq_none (by rw [stopsL_len, intsOf_len]; exact h1), List.getElem?_eq_none h1]
theorem chain_up {S : Sh} : ∀ {l : List Nat} {a : Nat}, S.Chain a l → UpL S.nf a l
  | [], _, _ => trivial
  | d :: l, a, h => ⟨h.1.1, by have := h.2.len; omega, chain_up h.2⟩
theorem up_mem {nf : Nat} : ∀ {l : List Nat} {a : Nat}, UpL nf a l → ∀ x ∈ l, a < x ∧ x ≤ nf
  | [], _, _, x, hx => by cases hx
  | d :: l, a, h, x, hx => by
    rcases List.mem_cons.1 hx with rfl | hx
    · exact ⟨h.1, h.2.1⟩
    · have := up_mem h.2.2 x hx; have := h.1; omega
theorem up_rising {nf : Nat} {l : List Nat} (h : UpL nf 0 l) : Rising 1 (nf : Int) (intsOf l).length (gOf (intsOf l)) := by
  have hg : ∀ i, (h1 : i < l.length) → gOf (intsOf l) i = ((l[i] : Nat) : Int) := fun i h1 => by
    refine gOf_get ?_
    unfold intsOf
    rw [List.getElem?_map, List.getElem?_eq_getElem h1]
    rfl
  have hlt : ∀ {l : List Nat} {a : Nat}, UpL nf a l → l.Pairwise (· < ·) := by
    intro l
    induction l with
    | nil => intro a _; exact List.Pairwise.nil
    | cons d t ih => intro a h; exact List.pairwise_cons.2 ⟨fun x hx => (up_mem h.2.2 x hx).1, ih h.2.2⟩
  rw [intsOf_len]
  refine ⟨fun i hi => ?_, fun i hi => ?_, fun i j hij hj => ?_⟩
  · rw [hg i hi]; have := up_mem h l[i] (List.getElem_mem hi); omega
  · rw [hg i hi]; have := up_mem h l[i] (List.getElem_mem hi); omega
  · rw [hg i (by omega), hg j hj]
    have := List.pairwise_iff_getElem.1 (hlt h) i j (by omega) hj hij
    omega
/-- the chains are just the plans that are listed -/
theorem chain_listed {S : Sh} {t : List Nat} (h : S.Chain 0 t) : intsOf t ∈ S.plansL := by
  refine List.mem_filter.2 ⟨mem_all (chain_up h), Sh.planB_t ((plan_iff (up_rising (chain_up h))).2 ?_)⟩
  rw [ints_stops]
  exact h
theorem listed_plan {S : Sh} {l : List Int} (h : l ∈ S.plansL) : S.Plan l.length (gOf l) := Sh.planB_iff.1 (List.mem_filter.1 h).2
theorem plan_nonneg {S : Sh} {l : List Int} (h : S.Plan l.length (gOf l)) : ∀ x ∈ l, 0 ≤ x := by
  intro x hx
  obtain ⟨i, hi, e⟩ := List.getElem_of_mem hx
  have := h.rising.lo i hi
  rw [gOf_get (x := x) (by rw [List.getElem?_eq_getElem hi, e])] at this
  omega
theorem plan_chainL {S : Sh} {l : List Int} (h : S.Plan l.length (gOf l)) : ∃ t, S.Chain 0 t ∧ l = intsOf t ∧ t = stopsL (gOf l) 0 l.length :=
  ⟨_, plan_chain h, (stopsL_ints (plan_nonneg h)).symm, rfl⟩
theorem plans_has {S : Sh} : S.plansL ≠ [] ↔ S.Has := by
  constructor
  · intro h
    obtain ⟨l, hl⟩ := List.exists_mem_of_ne_nil _ h
    obtain ⟨t, ht, _⟩ := plan_chainL (listed_plan hl)
    exact ⟨t, ht⟩
  · rintro ⟨t, ht⟩ e
    have := chain_listed ht
    rw [e] at this
    cases this
/-! ### The first one with the fewest -/
def bestFrom : List Int → List (List Int) → List Int
  | b, [] => b
  | b, x :: xs => bestFrom (if x.length < b.length then x else b) xs
theorem bestFrom_spec : ∀ (xs : List (List Int)) (b : List Int), (b :: xs).Pairwise LexLt → bestFrom b xs ∈ b :: xs ∧ ∀ x ∈ b :: xs, (bestFrom b xs).length ≤ x.length ∧ (x.length = (bestFrom b xs).length → bestFrom b xs = x ∨ LexLt (bestFrom b xs) x)
  | [], b, _ => ⟨List.mem_cons_self .., fun x hx => by
    rcases List.mem_cons.1 hx with rfl | hx
    · exact ⟨Nat.le_refl _, fun _ => .inl rfl⟩
    · cases hx⟩
  | y :: ys, b, h => by
    obtain ⟨h1, h2⟩ := List.pairwise_cons.1 h
    obtain ⟨h3, h4⟩ := List.pairwise_cons.1 h2
    by_cases hlt : y.length < b.length
    · obtain ⟨g1, g2⟩ := bestFrom_spec ys y h2
      have e : bestFrom b (y :: ys) = bestFrom y ys := by simp only [bestFrom]; rw [if_pos hlt]
      rw [e]
      refine ⟨List.mem_cons_of_mem _ g1, fun x hx => ?_⟩
      rcases List.mem_cons.1 hx with rfl | hx
      · have := (g2 y (List.mem_cons_self ..)).1
        exact ⟨by omega, fun h => by omega⟩
      · exact g2 x hx
    · have hp : (b :: ys).Pairwise LexLt := List.pairwise_cons.2 ⟨fun x hx => h1 x (List.mem_cons_of_mem _ hx), h4⟩
      obtain ⟨g1, g2⟩ := bestFrom_spec ys b hp
      have e : bestFrom b (y :: ys) = bestFrom b ys := by simp only [bestFrom]; rw [if_neg hlt]
      rw [e]
      have hb := g2 b (List.mem_cons_self ..)
      refine ⟨?_, fun x hx => ?_⟩
      · rcases List.mem_cons.1 g1 with h | h
        · rw [h]; exact List.mem_cons_self ..
        · exact List.mem_cons_of_mem _ (List.mem_cons_of_mem _ h)
      · rcases List.mem_cons.1 hx with rfl | hx
        · exact hb
        · rcases List.mem_cons.1 hx with rfl | hx
          · refine ⟨by omega, fun hxl => .inr ?_⟩
            have hlex := h1 x (List.mem_cons_self ..)
            rcases hb.2 (by omega) with h5 | h5
            · rw [h5]; exact hlex
            · exact h5.trans hlex
          · exact g2 x (List.mem_cons_of_mem _ hx)
/-! ### What the ways with the fewest rings go on to -/
theorem few_stay {S : Sh} {d : Nat} (hd : d < S.nf) : ∀ j k, S.waysOf ltR k d ≠ noWay → (∀ l, S.Chain d l → (S.waysOf ltR k d).rings ≤ l.length) → S.waysOf ltR (k + j) d = S.waysOf ltR k d
  | 0, k, _, _ => rfl
  | j + 1, k, hn, hmin => by
    have ih := few_stay hd j k hn hmin
    have hs := waysOf_step (measR S) (k + j) hd
    rw [show k + (j + 1) = k + j + 1 from rfl]
    have hf := S.falls_bd (Nat.le_of_lt hd)
    rw [hs.stay (by rw [ih]; exact hn) (fun i hi hc => ?_), ih]
    rw [ih]
    have hx : d + 1 + i ≤ S.nf := by omega
    obtain ⟨l, h1, _, h3, _⟩ := waysOf_sound (measR S) (k + j) (d + 1 + i) hx hc.1
    have := hmin ((d + 1 + i) :: l) ⟨⟨by omega, by omega, hc.2⟩, h1⟩
    rw [h3]
    simp only [List.length_cons] at this
    omega
theorem few_next {S : Sh} {d : Nat} (hd : d < S.nf) (_ : S.waysOf ltR S.nf d ≠ noWay) {x : Nat} {l : List Nat} (hch : S.Chain d (x :: l)) (hlen : (((x :: l).length : Nat) : Int) = (S.waysOf ltR S.nf d).rings) : (S.waysOf ltR S.nf d).next ≤ x := by
  have M := measR S
  obtain ⟨⟨s1, s2, s3⟩, hl⟩ := hch
  have hmin : ∀ l', S.Chain d l' → (x :: l).length ≤ l'.length := fun l' h' => by
    have := (waysOf_best M S.nf d l' h' (by have := h'.len; omega)).2
    rw [costL_one] at this
    omega
  -- with as many rings as l it is not there yet
  have h0 : S.waysOf ltR l.length d = noWay := by
    cases Classical.em (S.waysOf ltR l.length d = noWay) with
    | inl h => exact h
    | inr h =>
      obtain ⟨l', h1, h2, _, _⟩ := waysOf_sound M l.length d (by omega) h
      have := hmin l' h1
      simp only [List.length_cons] at this
      omega
  obtain ⟨b1, b2⟩ := waysOf_best M (l.length + 1) d (x :: l) ⟨⟨s1, s2, s3⟩, hl⟩ (by simp)
  obtain ⟨l1, c1, c2, c3, _⟩ := waysOf_sound M (l.length + 1) d (by omega) b1
  have hk : (S.waysOf ltR (l.length + 1) d).rings = ((x :: l).length : Nat) := by
    have := hmin l1 c1
    simp only [List.length_cons] at this ⊢
    omega
  have hle : l.length + 1 ≤ S.nf := by have := hl.len; omega
  have hst := few_stay hd (S.nf - (l.length + 1)) (l.length + 1) b1 (fun l' h' => by have := hmin l' h'; omega)
  rw [show l.length + 1 + (S.nf - (l.length + 1)) = S.nf from by omega] at hst
  rw [hst]
  have hs := waysOf_step M l.length hd
  have hnx := hl.len
  obtain ⟨p1, p2⟩ := waysOf_best M l.length x l hl (Nat.le_refl _)
  obtain ⟨l2, q1, q2, q3, _⟩ := waysOf_sound M l.length x (by omega) p1
  have hx := hmin (x :: l2) ⟨⟨s1, s2, s3⟩, q1⟩
  simp only [List.length_cons] at hx
  have := hs.first h0 (x - (d + 1)) (by omega) (by rw [show d + 1 + (x - (d + 1)) = x from by omega]; exact ⟨p1, s3⟩) (by
    rw [show d + 1 + (x - (d + 1)) = x from by omega, hk, q3]
    simp only [List.length_cons]
    omega)
  rw [show d + 1 + (x - (d + 1)) = x from by omega] at this
  exact this
/-- the stops that follow the ways come first among those with as few -/
theorem few_first {S : Sh} {g : Nat → Int} : ∀ m k, (∀ i, k ≤ i → i < k + m → g i = (S.waysOf ltR S.nf (stopAt g i)).next ∧ 0 < g i) → ¬ 0 < (S.waysOf ltR S.nf (stopAt g (k + m))).next → stopAt g k ≤ S.nf → S.waysOf ltR S.nf (stopAt g k) ≠ noWay →
    ∀ l, S.Chain (stopAt g k) l → l.length = m → l = stopsL g k m ∨ LexLt (intsOf (stopsL g k m)) (intsOf l)
  | 0, k, _, _, _, _, l, _, hl => .inl (by rw [List.eq_nil_of_length_eq_zero hl]; rfl)
  | m + 1, k, hs, hend, hk, hn, l, hch, hl => by
    cases l with
    | nil => simp at hl
    | cons x l =>
      obtain ⟨hg, hp⟩ := hs k (Nat.le_refl _) (by omega)
      have hkl : stopAt g k < S.nf := by have := hch.1.1; have := hch.2.len; omega
      obtain ⟨n, h1, h2, h3, h4⟩ := waysOf_last (measR S) hkl hn
      have hn' : stopAt g (k + 1) = n := by rw [stopAt_succ, hg, h1]; rfl
      have hnf : n ≤ S.nf := by have := S.falls_bd hk; have := h2.2.1; omega
      obtain ⟨c1, c2⟩ := chain_ways (measR S) (g := g) (m + 1) k hs hend hk hn
      rw [costL_one, stopsL_len] at c2
      have h5 := few_next hkl hn hch (by rw [hl]; exact c2)
      rw [h1] at h5
      simp only [stopsL]
      rw [← stopAt_succ, hn']
      rcases Nat.eq_or_lt_of_le (show n ≤ x by omega) with e | e
      · subst e
        have ih := few_first m (k + 1) (fun i hi hi2 => hs i (by omega) (by omega)) (by rw [show k + 1 + m = k + (m + 1) from by omega]; exact hend) (by rw [hn']; exact hnf) (by rw [hn']; exact h3) l (by rw [hn']; exact hch.2) (by simpa using hl)
        rcases ih with rfl | ih
        · exact .inl rfl
        · exact .inr (.inr ⟨rfl, ih⟩)
      · exact .inr (.inl (show ((n : Nat) : Int) < ((x : Nat) : Int) by omega))
/-- the plan of the program is the first one with the fewest stops -/
theorem plan_best {S : Sh} {m : Nat} {g : Nat → Int} (h : ChainTo (S.waysOf ltR S.nf) m g) (hend : ¬ 0 < (S.waysOf ltR S.nf (stopAt g m)).next) (hn : S.waysOf ltR S.nf 0 ≠ noWay) {b : List Int} {xs : List (List Int)} (hL : S.plansL = b :: xs) :
    bestFrom b xs = intsOf (stopsL g 0 m) ∧ (bestFrom b xs).length = m := by
  obtain ⟨hR, hc, hP, hcost⟩ := stops_plan (measR S) h hend hn
  have hord : (b :: xs).Pairwise LexLt := by rw [← hL]; exact (all_order S.nf).filter _
  obtain ⟨g1, g2⟩ := bestFrom_spec xs b hord
  have hmem : intsOf (stopsL g 0 m) ∈ b :: xs := by rw [← hL]; exact chain_listed hc
  have hlenp : (intsOf (stopsL g 0 m)).length = m := by rw [intsOf_len, stopsL_len]
  obtain ⟨q1, q2⟩ := g2 _ hmem
  rw [← hL] at g1
  obtain ⟨t, t1, t2, _⟩ := plan_chainL (listed_plan g1)
  have hmin : m ≤ t.length := by
    have := (waysOf_best (measR S) S.nf 0 t t1 (by have := t1.len; omega)).2
    rw [costL_one] at this hcost
    rw [stopsL_len] at hcost
    omega
  have htl : (bestFrom b xs).length = t.length := by rw [t2, intsOf_len]
  have hm : t.length = m := by omega
  have hf := few_first (S := S) (g := g) m 0 (fun i _ hi => ⟨h.step i (by omega), h.pos i (by omega)⟩) (by rw [Nat.zero_add]; exact hend) (Nat.zero_le S.nf) hn t t1 hm
  refine ⟨?_, by omega⟩
  rcases hf with h5 | h5
  · rw [t2, h5]
  · rw [← t2] at h5
    rcases q2 (by omega) with h6 | h6
    · exact h6
    · exact absurd (h5.trans h6) (LexLt.irrefl _)
/-! ### The least cost -/
theorem min_cost {S : Sh} {b : List Int} {xs : List (List Int)} (_ : S.plansL = b :: xs) {n : Int} (h1 : ∃ l ∈ S.plansL, S.costOf l.length (gOf l) = n) (h2 : ∀ l ∈ S.plansL, n ≤ S.costOf l.length (gOf l)) : S.IsCheap n := by
  obtain ⟨l, hl, e⟩ := h1
  obtain ⟨t, t1, t2, t3⟩ := plan_chainL (listed_plan hl)
  refine ⟨⟨t, t1, by rw [← e, costOf_pay, t3]⟩, fun t' h' => ?_⟩
  have := h2 _ (chain_listed h')
  rw [costOf_pay, ints_stops] at this
  exact this
end Go.Proofs.YtbbnpneabmldnaaDoor
