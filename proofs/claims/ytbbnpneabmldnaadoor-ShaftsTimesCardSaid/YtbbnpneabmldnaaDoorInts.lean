/- Slices of integers that are appended to, or copied: laws for the walk. No condition but that lengths are small. -/
import Derived.Test.YtbbnpneabmldnaaDoorWalkZb
import Derived.Test.YtbbnpneabmldnaaDoorRegionHeld
import Derived.ArgAppend
namespace Go.Proofs.YtbbnpneabmldnaaDoor
open Go.RowKit Go.Sort
def snocF (g : Nat → Int) (n : Nat) (v : Int) : Nat → Int := fun i => if i = n then v else g i
theorem intL_snoc (g : Nat → Int) (n : Nat) (v : Int) : intL (snocF g n v) (n + 1) = intL g n ++ [.int .i64 v] := by
  simp only [intL]
  rw [intL_congr (g := snocF g n v) (g' := g) (fun i hi => by unfold snocF; rw [if_neg (by omega)])]
  simp [snocF]
theorem intL_read {w : World} {A : Option Addr} {n : Nat} {g : Nat → Int} (h : IntsAt w A n g) : ∀ b, A = some b → ∀ j u, (intL g n)[j]? = some u → w.cell? (b.add j) = some u := by
  intro b hb j u hj
  have hjn : j < n := by
    have := (List.getElem?_eq_some_iff.1 hj).1
    rwa [intL_len] at this
  rcases h with h | ⟨bl, o, hA, hlt, hc⟩
  · omega
  · rw [hA] at hb
    injection hb with hb
    subst hb
    rw [intL_get g hjn] at hj
    injection hj with hj
    subst hj
    rw [show (⟨bl, o, none⟩ : Addr).add j = ⟨bl, o + j, none⟩ from by unfold Addr.add; split <;> simp_all]
    exact hc j hjn
theorem intL_one (g : Nat → Int) : ∀ n, ∀ u ∈ intL g n, u.oneCell' = true
  | 0, u, h => by simp [intL] at h
  | n + 1, u, h => by
    simp only [intL, List.mem_append, List.mem_singleton] at h
    rcases h with h | rfl
    · exact intL_one g n u h
    · rfl
theorem below_grown {w w' : World} (h : w.grownBy w' none) : Below w.heap.size w w' := below_grownBy h (Nat.le_refl _) (fun k hk => by cases hk)
/-- one number behind a slice without room -/
theorem wpList_app_full (w : World) {ops : Array Oper} {rest : List Oper} {o : Oper} {a : Act} {Q : Exit → Act → World → Prop}
    (hg : o.guard = none) (s x : Operand) (hop : o.op = Op.call { callee := Callee.builtin Builtin.append, args := #[s, x], argTypes := #[23, 23] })
    (A : Option Addr) (n : Nat) (g : Nat → Int) (hs : a.eval s = .slice A n n) (hnil : A = none → n = 0) (hI : IntsAt w A n g) (ad : Addr) (v : Int) (hx : a.eval x = .slice (some ad) 1 1) (hc : w.cell? ad = some (.int .i64 v)) (hn : n ≤ 1000000)
    (hK : ∀ b c' w', IntsAt w' (some ⟨b, 0, none⟩) (n + 1) (snocF g n v) → Newer w w' → n + 1 ≤ c' → c' ≤ 9223372036854775807 → w.heap.size ≤ b → wpList Tryd.prog ops Q rest (a.put o.dst (.slice (some ⟨b, 0, none⟩) (n + 1) c')) w') :
    wpList Tryd.prog ops Q (o :: rest) a w := by
  obtain ⟨i0, hi, iz0, iz1, iz2⟩ := info_parts infoInt
  refine wpList_append_grows w hg s x 23 hop 3 i0 (.int .i64 0) 1 8 Tryd.underlying23 hi iz0 iz1 iz2 rfl (by decide) A n n (intL g n) hs (fun h => ⟨hnil h, hnil h⟩) (by rw [intL_len]; omega) (intL_read hI) ad 1 1 [.int .i64 v] hx rfl ?_ ?_ (by omega) (by unfold maxLen; omega) (by omega) ?_
  · intro j u hj
    match j, hj with
    | 0, hj => simp at hj; subst hj; rw [show ad.add 0 = ad from by unfold Addr.add; split <;> simp_all]; exact hc
  · intro u hu; simp at hu; subst hu; rfl
  · intro v' w' hown hgrow
    rw [← intL_snoc] at hown
    rcases id hown.2 with ⟨_, h0⟩ | ⟨b, cap, cur, hv, hb, _, h5, h6, _⟩
    · simp at h0
    · obtain ⟨A', c', e, h1, h2⟩ := intsAt_own hown
      subst e
      injection hv with e1 e2 e3
      subst e1 e3
      unfold maxLen at h6
      exact hK _ _ w' h1 (below_grown hgrow) h5 h6 hb
end Go.Proofs.YtbbnpneabmldnaaDoor
