/- Parts joined: what the claim PlacesFree needs beyond the others. -/
import Derived.WalkKit
import Derived.WalkSpells
import Derived.WalkLawsBesides
import Derived.BigQuiet
import Derived.Lib.Hide
import Derived.Lib.QuietBelow
import Derived.Deep.RegionHeld3
import Derived.OwnWalk
import Derived.Laws.AppendOwn
import Derived.Laws.OwnMore
import Derived.Laws.IdiomCopy
import Derived.Deep.RegionLaw
import Derived.Lib.SliceRun
import Derived.ArgAppend
import Derived.RegionTactic
import Derived.Laws.MakeOwn
import Derived.Test.YtjpfdhhiofjpbaaGreatDoorProg
import Derived.Test.YtjpfdhhiofjpbaaGreatDoorNQA
import Derived.Test.YtjpfdhhiofjpbaaGreatDoorNQB
import Derived.Test.YtjpfdhhiofjpbaaGreatDoorNQC
import Derived.Test.YtjpfdhhiofjpbaaGreatDoorNQD
import Derived.Test.YtjpfdhhiofjpbaaGreatDoorNQE
import Derived.Test.YtjpfdhhiofjpbaaGreatDoorNQF
import Derived.Test.YtjpfdhhiofjpbaaGreatDoorNQG
import Derived.Test.YtjpfdhhiofjpbaaGreatDoorNQH
import Derived.Test.YtjpfdhhiofjpbaaGreatDoorNQI
import Derived.Test.YtjpfdhhiofjpbaaGreatDoorNQJ
import Derived.Test.YtjpfdhhiofjpbaaGreatDoorNQK
import Derived.Test.YtjpfdhhiofjpbaaGreatDoorNQL
import Derived.Test.YtjpfdhhiofjpbaaGreatDoorNQM
import Derived.Test.YtjpfdhhiofjpbaaGreatDoorNQN
import Derived.Test.YtjpfdhhiofjpbaaGreatDoorNQO
import Derived.Test.YtjpfdhhiofjpbaaGreatDoorNQP
import Derived.Test.YtjpfdhhiofjpbaaGreatDoorNQQ
import Derived.Test.YtjpfdhhiofjpbaaGreatDoorNQR
import Derived.Test.YtjpfdhhiofjpbaaGreatDoorNQS
import Derived.Test.YtjpfdhhiofjpbaaGreatDoorNQT
import Derived.Test.YtjpfdhhiofjpbaaGreatDoorNQU
set_option linter.unusedSimpArgs false
set_option linter.unusedVariables false
namespace Go.Proofs.YtjpfdhhiofjpbaaGreatDoor
open Go.RowKit Go.Sort
/-! ### Worlds -/
attribute [go_sem] cell_grow frozen_grow Instr.field asAgg
section
variable {w x y : World}
end
/-! ### Endings -/
/-! ### Plain notions -/
/-! ### How slices read -/
/-- the stops that a list of numbers is -/
def memOf (m : Nat) (g : Nat → Int) (d : Nat) : Bool := anyB (fun i => g i == (d : Int)) m
theorem memOf_iff {m : Nat} {g : Nat → Int} {d : Nat} : memOf m g d = true ↔ ∃ i, i < m ∧ g i = (d : Int) := by
  unfold memOf; rw [anyB_true]; simp
structure Rising (lo hi : Int) (n : Nat) (g : Nat → Int) : Prop where
  lo : ∀ i, i < n → lo ≤ g i
  hi : ∀ i, i < n → g i ≤ hi
  lt : ∀ i j, i < j → j < n → g i < g j
section
variable {P : Program} {ops : Array Oper} {md : Region.Mode}

/-! ### The frame behind some of the operations -/
/-! ### Operations that are calm: one value in every world that is the first one with new blocks; what they leave is that with new blocks -/
attribute [go_sem] Oper.calm Oper.calmAt Oper.calmUpon
/-! ### Whoever looks at a slot, and whoever writes it, wait for each other -/
end
section
variable {P : Program} {ops : Array Oper} {md : Region.Mode}
attribute [go_sem] Oper.heldAt Oper.heldUpon newer_refl depsP
end
section
variable {m : Nat} {g : Nat → Int} {x d n : Nat} {h : Nat → Int}
end
section
variable {P : Program} {ops : Array Oper} {md : Region.Mode}
theorem wpStir_stir {W : World} {Q : Act → World → Prop} {k : Nat} {o : Oper} {l : List Oper} {s : Value → Prop} {r : World → Value → Prop} {S : World → World → Prop} {hs : List Stir} {a : Act} {F : List (Nat × (World → Prop))} (hg : o.guard = none)
    (h1 : ∀ w', Below W.heap.size W w' → depsP md ops k F w' → Oper.stirAt P o a w' S (fun w v => s v ∧ r w v))
    (h2 : ∀ v, s v → wpStir P md ops W Q (k + 1) l hs (a.put o.dst v) ((k, fun w => r w v) :: F)) : wpStir P md ops W Q k (o :: l) (.stir s r S :: hs) a F := by
  refine ⟨?_, fun v hv => h2 v hv⟩
  unfold Oper.stirAsk Region.wanted
  rw [hg, if_pos rfl]
  exact fun p => h1 _ (below_regrown _ _ _)
attribute [go_sem] Oper.stirAt Oper.stirUpon
end
/-- but for new memory, only a row of the region's own may have been gone on with -/
def RowOn (N : Nat) (e : TypeId) (size n : Nat) (w w' : World) : Prop :=
  Below w.heap.size w w' ∨ (0 < n ∧ ∃ g cur cur' : _, N ≤ g ∧ w.heap[g]? = some (.cells cur e (0, 0)) ∧ w'.heap[g]? = some (.cells cur' e (0, 0)) ∧ (cur' : Array Value).size = (cur : Array Value).size ∧ cur'.toList.take (n * size) = cur.toList.take (n * size) ∧ w.grownBy w' (some g))
theorem RowOn.below {N : Nat} {e : TypeId} {size n : Nat} {w w' : World} (h : RowOn N e size n w w') (hN : N ≤ w.heap.size) : Below N w w' := by
  rcases h with h | ⟨_, g, _, _, h1, _, _, _, _, h2⟩
  · exact h.mono hN
  · exact ⟨h2.os, h2.tape, h2.output, h2.size, fun k hk => h2.block k (by omega) (fun e => by injection e with e; omega)⟩
theorem RowOn.owns {N base : Nat} {e : TypeId} {size n k : Nat} {w w' : World} (h : RowOn N e size n w w') {v : Value} {xs : List Value} (hk : k ≤ n) (ho : w.ownsRow base e size v k xs) : w'.ownsRow base e size v k xs := by
  rcases h with h | ⟨_, g, cur, cur', h1, h2, h3, h4, h5, h6⟩
  · exact owns_below ho h
  · by_cases hg : v.ownBlock = some g
    · refine ⟨ho.1, ?_⟩
      rcases ho.2 with hn | ⟨g', cap, c0, rfl, b1, b2, b3, b4, b5, b6⟩
      · exact .inl hn
      · have : g' = g := by simpa [Value.ownBlock] using hg
        subst this
        rw [h2] at b2
        injection b2 with b2
        injection b2 with b2
        subst b2
        refine .inr ⟨g', cap, cur', rfl, b1, h3, b3, b4, by rw [h4, b5], ?_⟩
        have hle : k * size ≤ n * size := Nat.mul_le_mul_right _ hk
        have e1 : cur'.toList.take (k * size) = (cur'.toList.take (n * size)).take (k * size) := by rw [List.take_take, Nat.min_eq_left hle]
        rw [e1, h5, List.take_take, Nat.min_eq_left hle]
        exact b6
    · exact ho.kept h6 (.inr hg)
theorem AtHand.on {N : Nat} {e : TypeId} {size n : Nat} {xs : List Value} {w w' : World} {v : Value} (hb : RowOn N e size n w w') (h : AtHand N e size n xs w v) : AtHand N e size n xs w' v :=
  h.imp id fun h => ⟨h.1, hb.owns (Nat.le_refl _) h.2⟩
/-- 'append([]T{}, xs...)' at a step of a region -/
theorem stir_copy {P : Program} {o : Oper} {a : Act} (w : World) (s x : Operand) (t : TypeId) (hop : o.op = Op.call { callee := Callee.builtin Builtin.append, args := #[s, x], argTypes := #[t, t] })
    (e : TypeId) (z : Value) (size bytes : Nat) (hinfo : (P.info? e).map (fun i => (i.zero, i.size, i.bytes)) = some (some z, size, bytes)) (ht : P.underlying t = some (.slice e)) (hzs : z.cells.size = size) (hsz : 0 < size)
    (ad : Nat) (A : Option Addr) (m c : Nat) (L : List Value) (hs : a.eval s = .slice (some ⟨ad, 0, none⟩) 0 0) (hx : a.eval x = .slice A m c) (hl : L.length = m * size) (hr : RowAt w A L) (h63 : m ≤ 1000000) (hby : bytes ≤ 1000000) (N : Nat) (hN : N ≤ w.heap.size) :
    Oper.stirAt P o a w Newer (fun w' v => ShapeOf m v ∧ AtHand N e size m L w' v) := by
  obtain ⟨i0, hi, iz0, iz1, iz2⟩ := info_parts hinfo
  have hbytes : (0 + m) * bytes ≤ 140737488355328 := by rw [Nat.zero_add]; exact Nat.le_trans (Nat.mul_le_mul h63 hby) (by decide)
  rcases Nat.eq_zero_or_pos m with h0 | h0
  · subst h0
    obtain rfl : L = [] := List.eq_nil_of_length_eq_zero (by simpa using hl)
    have hrun : (Builtin.append_ #[t, t] o.type #[.slice (some ⟨ad, 0, none⟩) 0 0, .slice A 0 c]).run P w = .ok (.slice (some ⟨ad, 0, none⟩) 0 0) w := by
      cases A with
      | none => simp [Builtin.append_, run_underlying ht, sizeOf, typeInfo, hi, Builtin.lenOf, Builtin.firstCells, storeCells]
      | some a =>
        have hfc := run_firstCells_some (P := P) w i0.size 0 a 0 c [] (by simp) (fun j u h => by simp at h)
        simp [Builtin.append_, run_underlying ht, sizeOf, typeInfo, hi, Builtin.lenOf, hfc, storeCells]
    unfold Oper.stirAt
    simp only [execOp, hop, resolve, invoke, builtin, List.map_toArray, List.map_cons, List.map_nil, hs, hx, hrun, Result.andThen, Sem.run_bind, Sem.run_pure, Oper.stirUpon]
    exact ⟨Below.refl _ _, ⟨_, _, rfl⟩, .inl ⟨rfl, rfl, _, rfl⟩⟩
  · rcases hr with hr | ⟨b, o', rfl, hlt, hc⟩
    · rw [hr] at hl
      have := Nat.mul_pos h0 hsz
      simp only [List.length_nil] at hl
      omega
    · obtain ⟨v', w', hrun, hown, hg⟩ := run_append_arg_grows (P := P) w t o.type e i0 z size bytes ht hi iz0 iz1 iz2 hzs hsz ⟨ad, 0, none⟩ 0 0 [] (by simp) (fun j u h => by simp at h) ⟨b, o', none⟩ m c L hl (fun j u h => by
        rw [show (⟨b, o', none⟩ : Addr).add j = ⟨b, o' + j, none⟩ from by unfold Addr.add; split <;> simp_all]; exact hc j u h) (by omega) (by unfold maxLen; omega) hbytes
      simp only [List.nil_append, Nat.zero_add] at hown
      obtain ⟨g, cap, rfl⟩ := owns_form hown h0
      unfold Oper.stirAt
      simp only [execOp, hop, resolve, invoke, builtin, List.map_toArray, List.map_cons, List.map_nil, hs, hx, hrun, Result.andThen, Sem.run_bind, Sem.run_pure, Oper.stirUpon]
      exact ⟨below_grown hg, ⟨_, _, rfl⟩, .inr ⟨h0, owns_lower hown hN⟩⟩
/-- 'append(row, xs...)' of a row of the region's own, at a step of a region -/
theorem stir_append {P : Program} {o : Oper} {a : Act} (w : World) (s x : Operand) (t : TypeId) (hop : o.op = Op.call { callee := Callee.builtin Builtin.append, args := #[s, x], argTypes := #[t, t] })
    (e : TypeId) (z : Value) (size bytes : Nat) (hinfo : (P.info? e).map (fun i => (i.zero, i.size, i.bytes)) = some (some z, size, bytes)) (ht : P.underlying t = some (.slice e)) (hzs : z.cells.size = size) (hsz : 0 < size)
    (v : Value) (n : Nat) (xs : List Value) (A : Option Addr) (m c : Nat) (L : List Value) (N : Nat) (hv : AtHand N e size n xs w v) (hs : a.eval s = v) (hx : a.eval x = .slice A m c) (hm : 0 < m) (hl : L.length = m * size) (hr : RowAt w A L) (h1 : ∀ u ∈ L, u.oneCell' = true) (h63 : n + m ≤ 1000000) (hby : bytes ≤ 1000000) (hN : N ≤ w.heap.size) :
    Oper.stirAt P o a w (RowOn N e size n) (fun w' v => ShapeOf (n + m) v ∧ w'.ownsRow N e size v (n + m) (xs ++ L)) := by
  obtain ⟨i0, hi, iz0, iz1, iz2⟩ := info_parts hinfo
  have hbytes : (n + m) * bytes ≤ 140737488355328 := Nat.le_trans (Nat.mul_le_mul h63 hby) (by decide)
  rcases hr with hr | ⟨b, o', rfl, hlt, hc⟩
  · rw [hr] at hl
    have := Nat.mul_pos hm hsz
    simp only [List.length_nil] at hl
    omega
  have hc' : ∀ j u, L[j]? = some u → w.cell? ((⟨b, o', none⟩ : Addr).add j) = some u := fun j u h => by
    rw [show (⟨b, o', none⟩ : Addr).add j = ⟨b, o' + j, none⟩ from by unfold Addr.add; split <;> simp_all]; exact hc j u h
  have fin : ∀ v' w', (Builtin.append_ #[t, t] o.type #[v, .slice (some ⟨b, o', none⟩) m c]).run P w = .ok v' w' → RowOn N e size n w w' → w'.ownsRow N e size v' (n + m) (xs ++ L) → Oper.stirAt P o a w (RowOn N e size n) (fun w' v => ShapeOf (n + m) v ∧ w'.ownsRow N e size v (n + m) (xs ++ L)) := fun v' w' hrun hon hown => by
    unfold Oper.stirAt
    simp only [execOp, hop, resolve, invoke, builtin, List.map_toArray, List.map_cons, List.map_nil, hs, hx, hrun, Result.andThen, Sem.run_bind, Sem.run_pure, Oper.stirUpon]
    obtain ⟨g, cap, hg⟩ := owns_form hown (by omega)
    exact ⟨hon, ⟨g, cap, hg⟩, hown⟩
  rcases hv with ⟨rfl, rfl, g, rfl⟩ | ⟨hn, hown⟩
  · obtain ⟨v', w', hrun, hown, hg⟩ := run_append_arg_grows (P := P) w t o.type e i0 z size bytes ht hi iz0 iz1 iz2 hzs hsz ⟨g, 0, none⟩ 0 0 [] (by simp) (fun j u h => by simp at h) ⟨b, o', none⟩ m c L hl hc' (by omega) (by unfold maxLen; omega) hbytes
    exact fin v' w' hrun (.inl (below_grown hg)) (owns_lower hown hN)
  · rcases id hown.2 with ⟨_, h0⟩ | ⟨g, cap, cur, rfl, b1, b2, b3, b4, b5, b6⟩
    · omega
    · have hxl := hown.1
      by_cases hroom : n + m ≤ cap
      · have hfit : n * size + L.length ≤ cur.size := by rw [hl, b5, ← Nat.add_mul]; exact Nat.mul_le_mul_right _ hroom
        have hlt2 : n * size ≤ cur.toList.length := by simp; omega
        have hrun := run_append_room (P := P) w t o.type e i0 ht hi g n cap cur b2 ⟨b, o', none⟩ m c L (by rw [hl, iz1]) hc' h1 hroom (by rw [iz1]; exact hfit)
        rw [iz1] at hrun
        have hh := setRow_heap w g cur (cur.toList.take (n * size) ++ L ++ cur.toList.drop (n * size + L.length)).toArray e (0, 0) b2
        have hsz' : (cur.toList.take (n * size) ++ L ++ cur.toList.drop (n * size + L.length)).toArray.size = cur.size := by simp; omega
        have hgrow : w.grownBy (w.setRow g (cur.toList.take (n * size) ++ L ++ cur.toList.drop (n * size + L.length)).toArray) (some g) :=
          ⟨rfl, rfl, rfl, by simp [World.setRow], fun k hk hne => by
            simp only [World.setRow]
            rw [Array.getElem?_modify, if_neg (fun e => hne (by rw [e]))]⟩
        refine fin _ _ hrun (.inr ⟨hn, g, cur, _, b1, b2, hh, hsz', ?_, hgrow⟩) ⟨by rw [List.length_append, hxl, hl, Nat.add_mul], .inr ⟨g, cap, _, rfl, b1, hh, hroom, b4, by rw [hsz', b5], ?_⟩⟩
        · rw [List.toList_toArray, List.append_assoc, List.take_append_of_le_length (by rw [List.length_take]; omega), List.take_take, Nat.min_self]
        · rw [List.toList_toArray, b6]
          exact List.take_left' (by rw [List.length_append, hxl, hl, Nat.add_mul])
      · obtain ⟨v', w', hrun, hown', hg⟩ := run_append_arg_grows (P := P) w t o.type e i0 z size bytes ht hi iz0 iz1 iz2 hzs hsz ⟨g, 0, none⟩ n cap xs hxl (fun j u h => hown.cells (g := g) rfl j u h) ⟨b, o', none⟩ m c L hl hc' (by omega) (by unfold maxLen; omega) hbytes
        exact fin v' w' hrun (.inl (below_grown hg)) (owns_lower hown' hN)
/-! ### Bounds -/
/-! ### Spans -/
section
variable {P : Program} {ops : Array Oper} {md : Region.Mode}
end
/-! ### Rows of structs -/
/-! ### A row at hand -/
end Go.Proofs.YtjpfdhhiofjpbaaGreatDoor

namespace Go.Proofs.YtjpfdhhiofjpbaaGreatDoor
open Go.RowKit Go.Sort
theorem RowAt.num {w : World} {A : Option Addr} {l : List Int} (h : RowAt w A (numL l)) {i : Nat} {x : Int} (hi : l[i]? = some x) : ∃ b o, A = some ⟨b, o, none⟩ ∧ b < w.heap.size ∧ w.cell? ⟨b, o + i, none⟩ = some (.int .i64 x) := by
  rcases h with h | ⟨b, o, rfl, hlt, hc⟩
  · have : l = [] := List.map_eq_nil_iff.1 h
    rw [this] at hi
    simp at hi
  · exact ⟨b, o, rfl, hlt, hc i _ (by unfold numL; rw [List.getElem?_map, hi]; rfl)⟩
end Go.Proofs.YtjpfdhhiofjpbaaGreatDoor

namespace Go.Proofs.YtjpfdhhiofjpbaaGreatDoor
open Go.RowKit Go.Sort
def oneS (v : Value) : Prop := ∃ b, v = .slice (some ⟨b, 0, none⟩) 1 1
end Go.Proofs.YtjpfdhhiofjpbaaGreatDoor

namespace Go.Proofs.YtjpfdhhiofjpbaaGreatDoor
open Go.RowKit Go.Sort

theorem Sh.minSt_lt {S : Sh} {a m : Nat} {x : Int} (hx : x ≤ 12) : S.minSt a m < x ↔ ∃ j, j < m ∧ (S.rk (a + j)).stand < x := by
  induction m with
  | zero => simp only [Sh.minSt]; exact ⟨fun h => by omega, fun ⟨j, h, _⟩ => by omega⟩
  | succ m ih =>
    simp only [Sh.minSt]
    constructor
    · intro h
      by_cases h1 : S.minSt a m < x
      · obtain ⟨j, hj, h2⟩ := ih.1 h1; exact ⟨j, by omega, h2⟩
      · exact ⟨m, by omega, by omega⟩
    · rintro ⟨j, hj, h2⟩
      by_cases h3 : j < m
      · have := ih.2 ⟨j, h3, h2⟩; omega
      · obtain rfl : j = m := by omega
        omega
theorem Sh.fallsAt_iff {S : Sh} {a f : Nat} (h : a ≤ f) (hf : f < 12) : S.fallsAt a f = true ↔ ∃ i, a ≤ i ∧ i ≤ f ∧ (S.rk i).stand < (f : Int) - a + 1 := by
  unfold Sh.fallsAt
  rw [decide_eq_true_iff, Sh.minSt_lt (by omega)]
  constructor
  · rintro ⟨j, hj, h2⟩; exact ⟨a + j, by omega, by omega, h2⟩
  · rintro ⟨i, h1, h2, h3⟩; exact ⟨i - a, by omega, by rw [show a + (i - a) = i from by omega]; exact h3⟩
/-- the last stop at or above f (0: there is none) -/
def lastS (mem : Nat → Bool) : Nat → Nat
  | 0 => 0
  | f + 1 => if mem (f + 1) then f + 1 else lastS mem f
theorem lastS_le (mem : Nat → Bool) (f : Nat) : lastS mem f ≤ f := by
  induction f with
  | zero => exact Nat.le_refl 0
  | succ f ih => unfold lastS; split <;> omega
/-- whether it falls with the foot f, with some stops -/
def Sh.fallAt (S : Sh) (mem : Nat → Bool) (f : Nat) : Bool := S.fallsAt (lastS mem f) f
/-- the first foot with which it falls, with some stops; the number of feet: there is none -/
def Sh.firstFall (S : Sh) (mem : Nat → Bool) : Nat := firstFrom (S.fallAt mem) S.nf 0
/-! ### Stops -/
def stBad (lo hi : Int) (g : Nat → Int) (i : Nat) : Bool := !inR (g i) lo hi || (decide (0 < i) && decide (g i ≤ g (i - 1)))
/-- whether numbers are strictly ascending, from lo to hi -/
def risingB (lo hi : Int) (n : Nat) (g : Nat → Int) : Bool := !anyB (stBad lo hi g) n
theorem rising_iff {lo hi : Int} {n : Nat} {g : Nat → Int} : risingB lo hi n g = true ↔ Rising lo hi n g := by
  unfold risingB
  rw [Bool.not_eq_true', anyB_false]
  constructor
  · intro h
    have h1 : ∀ i, i < n → lo ≤ g i ∧ g i ≤ hi := fun i hi => by
      have := h i hi; unfold stBad at this; simp only [Bool.or_eq_false_iff, Bool.not_eq_false', inR_iff] at this; exact this.1
    have h2 : ∀ i, i + 1 < n → g i < g (i + 1) := fun i hi => by
      have := h (i + 1) hi; unfold stBad at this; simp at this; exact this.2
    refine ⟨fun i hi => (h1 i hi).1, fun i hi => (h1 i hi).2, fun i j hij hj => ?_⟩
    induction j with
    | zero => omega
    | succ j ih =>
      have h3 := h2 j hj
      rcases Nat.lt_or_ge i j with h4 | h4
      · have := ih h4 (by omega); omega
      · obtain rfl : i = j := by omega
        exact h3
  · intro h i hi
    unfold stBad
    simp only [Bool.or_eq_false_iff, Bool.not_eq_false', inR_iff, Bool.and_eq_false_iff, decide_eq_false_iff_not]
    refine ⟨⟨h.lo i hi, h.hi i hi⟩, ?_⟩
    by_cases h0 : 0 < i
    · have := h.lt (i - 1) i (by omega) hi; exact .inr (by omega)
    · exact .inl h0
theorem stopAt_le {hi : Int} {n : Nat} {g : Nat → Int} {N : Nat} (hN : hi = N) (h : Rising 1 hi n g) {k : Nat} (hk : k ≤ n) : stopAt g k ≤ N := by
  cases k with
  | zero => simp [stopAt]
  | succ k => have := h.hi k (by omega); simp only [stopAt]; omega
theorem lastS_between {hi : Int} {n : Nat} {g : Nat → Int} (h : Rising 1 hi n g) {k : Nat} (hk : k ≤ n) : ∀ f, stopAt g k ≤ f → (∀ i, i < n → k ≤ i → (f : Int) < g i) → lastS (memOf n g) f = stopAt g k
  | 0, h1, _ => by simp only [lastS]; omega
  | f + 1, h1, h2 => by
    unfold lastS
    cases hm : memOf n g (f + 1)
    · simp only [Bool.false_eq_true, if_false]
      refine lastS_between h hk f ?_ (fun i hi h3 => by have := h2 i hi h3; omega)
      rcases Nat.eq_or_lt_of_le h1 with e | e
      · cases k with
        | zero => simp only [stopAt] at e; omega
        | succ k =>
          have hl := h.lo k (by omega)
          have : memOf n g (f + 1) = true := memOf_iff.2 ⟨k, by omega, by simp only [stopAt] at e; omega⟩
          rw [hm] at this; cases this
      · omega
    · simp only [if_true]
      obtain ⟨i, hi, he⟩ := memOf_iff.1 hm
      have hik : i < k := by
        rcases Nat.lt_or_ge i k with h3 | h3
        · exact h3
        · have := h2 i hi h3; omega
      cases k with
      | zero => omega
      | succ k =>
        have hl := h.lo k (by omega)
        have : g i ≤ g k := by
          rcases Nat.lt_or_ge i k with h3 | h3
          · have := h.lt i k h3 (by omega); omega
          · obtain rfl : i = k := by omega
            omega
        simp only [stopAt] at h1 ⊢
        omega
/-- behind k stops: no fall before the next stop, or the first one is found -/
theorem Sh.fall_seg {S : Sh} {n : Nat} {g : Nat → Int} (h : Rising 1 S.nf n g) {k : Nat} (hk : k ≤ n) (hno : ∀ j, j < stopAt g k → S.fallAt (memOf n g) j = false) {b : Nat} (hb : ∀ i, i < n → k ≤ i → (b : Int) ≤ g i) :
    ∀ j, j < S.falls (stopAt g k) → j < b → S.fallAt (memOf n g) j = false := by
  intro j h1 h2
  rcases Nat.lt_or_ge j (stopAt g k) with h3 | h3
  · exact hno j h3
  · unfold Sh.fallAt
    rw [lastS_between h hk j h3 (fun i hi h4 => by have := hb i hi h4; omega)]
    exact (firstFrom_spec (S.fallsAt (stopAt g k)) (S.nf - stopAt g k) (stopAt g k)).2.2.1 j h3 h1
theorem Sh.fall_found {S : Sh} {n : Nat} {g : Nat → Int} (h : Rising 1 S.nf n g) {k : Nat} (hk : k ≤ n) (hno : ∀ j, j < stopAt g k → S.fallAt (memOf n g) j = false) (hb : ∀ i, i < n → k ≤ i → (S.falls (stopAt g k) : Int) < g i) :
    S.firstFall (memOf n g) = S.falls (stopAt g k) := by
  have hs := stopAt_le rfl h hk
  obtain ⟨b1, b2⟩ := S.falls_bd hs
  refine firstFrom_eq _ _ _ _ (Nat.zero_le _) (by omega) (fun j _ hj => Sh.fall_seg h hk hno (b := S.falls (stopAt g k)) (fun i hi h4 => Int.le_of_lt (hb i hi h4)) j hj hj) (fun hlt => ?_)
  unfold Sh.fallAt
  rw [lastS_between h hk _ b1 hb]
  exact (firstFrom_spec (S.fallsAt (stopAt g k)) (S.nf - stopAt g k) (stopAt g k)).2.2.2 (by unfold Sh.falls at hlt; omega)
theorem Rising.count {N : Nat} {n : Nat} {g : Nat → Int} (h : Rising 1 N n g) : n ≤ N := by
  have key : ∀ k, k < n → (k : Int) + 1 ≤ g k := by
    intro k
    induction k with
    | zero => intro hk; have := h.lo 0 hk; omega
    | succ k ih => intro hk; have := ih (by omega); have := h.lt k (k + 1) (by omega) hk; omega
  rcases Nat.eq_zero_or_pos n with h0 | h0
  · omega
  · have := key (n - 1) (by omega); have := h.hi (n - 1) (by omega); omega
/-- stops that are a plan -/
structure Sh.Plan (S : Sh) (m : Nat) (g : Nat → Int) : Prop where
  rising : Rising 1 S.nf m g
  fall : S.firstFall (memOf m g) = S.nf
  rest : ∀ i, i < m → S.restsB (g i).toNat = true
  last : stopAt g m = S.nf
open Classical in
noncomputable def Sh.planB (S : Sh) (m : Nat) (g : Nat → Int) : Bool := if S.Plan m g then true else false
theorem Sh.planB_t {S : Sh} {m : Nat} {g : Nat → Int} (h : S.Plan m g) : S.planB m g = true := if_pos h
theorem Sh.planB_f {S : Sh} {m : Nat} {g : Nat → Int} (h : ¬ S.Plan m g) : S.planB m g = false := if_neg h
theorem Sh.planB_iff {S : Sh} {m : Nat} {g : Nat → Int} : S.planB m g = true ↔ S.Plan m g := by
  by_cases h : S.Plan m g
  · simp [Sh.planB_t h, h]
  · simp [Sh.planB_f h, h]
/-- what all feet and the rings of some stops cost, and how many hours they take -/
def Sh.costOf (S : Sh) (m : Nat) (g : Nat → Int) : Int := sumTo S.price S.nf + sumTo (fun i => S.ringc (g i).toNat) m
end Go.Proofs.YtjpfdhhiofjpbaaGreatDoor


namespace Go.Proofs.YtjpfdhhiofjpbaaGreatDoor
open Go.RowKit Go.Sort

theorem stBad_cases (lo hi : Int) (g : Nat → Int) (k : Nat) : (inR (g k) lo hi = false ∧ stBad lo hi g k = true) ∨ (inR (g k) lo hi = true ∧ decide ((0 : Int) < (k : Int)) = false ∧ decide (0 < k) = false ∧ stBad lo hi g k = false) ∨
    (inR (g k) lo hi = true ∧ (0 : Int) < (k : Int) ∧ 0 < k ∧ g k ≤ g (k - 1) ∧ stBad lo hi g k = true) ∨ (inR (g k) lo hi = true ∧ (0 : Int) < (k : Int) ∧ 0 < k ∧ ¬ g k ≤ g (k - 1) ∧ stBad lo hi g k = false) := by
  unfold stBad
  cases inR (g k) lo hi
  · simp
  · by_cases h : 0 < k
    · have h' : (0 : Int) < (k : Int) := by omega
      by_cases h2 : g k ≤ g (k - 1) <;> simp [h, h2]
    · have h' : decide ((0 : Int) < (k : Int)) = false := by simp; omega
      simp [h]
theorem rising_no {lo hi : Int} {n k : Nat} {g : Nat → Int} (h : k < n) (hb : stBad lo hi g k = true) : risingB lo hi n g = false := by simp [risingB, anyB_hit h hb]
theorem rising_yes {lo hi : Int} {n : Nat} {g : Nat → Int} (h : anyB (stBad lo hi g) n = false) : risingB lo hi n g = true := by simp [risingB, h]

set_option maxHeartbeats 1000000 in
theorem rising_any (A : Option Addr) (n c : Nat) (g : Nat → Int) (lo hi : Int) (w : World) (hn : n ≤ 9223372036854775807) (hg : IntsAt w A n g) :
    Calls Tryz.prog 210 #[.slice A n c, .int .i64 lo, .int .i64 hi] w fun e w' => e = .returned (.bool (risingB lo hi n g)) ∧ Below w.heap.size w w' := by
  have HC := Lib.hid hg
  clear hg
  go_enter Tryz.func210, Tryz.ntmps210
  go_wp2_with fail
  go_loopw [7] (fun i wr => ∃ k : Nat, k ≤ n ∧ i = .int .i64 k ∧ anyB (stBad lo hi g) k = false ∧ Below w.heap.size w wr) (fun i _ => n - (intOf i).toNat)
  case atStart => exact ⟨0, Nat.zero_le _, rfl, rfl, Below.refl _ _⟩
  case round =>
    obtain ⟨k, hk, rfl, hno, hbel⟩ := hrel
    have HN := Lib.hid hno
    clear hno
    by_cases hlt : k < n
    · rcases HC.out.mono hbel with h0 | ⟨b, o, hA, hb, hcell⟩
      · omega
      have c0 := hcell k hlt
      have c1 := hcell (k - 1) (by omega)
      clear hcell
      subst hA
      rcases stBad_cases lo hi g k with ⟨g1, he⟩ | ⟨g1, g2, g3, he⟩ | ⟨g1, g2, g3, g4, he⟩ | ⟨g1, g2, g3, g4, he⟩
      all_goals
        have HE := Lib.hid he
        clear he
        go_wp2_with fail
        refine wp_region_quiet_below (by kernel_rfl) (by kernel_rfl) ?_
        repeat (go_big_quiet_step ((go_at_call 45; exact Calls.regrown_of ((Within01_any _ _ _ _).mono fun _ _ h => ⟨h.1, h.2 ▸ Below.refl _ _⟩))))
        refine wpQuiet_nil ?_
        intro w3 hw3
        have hb3 := below_of_regrown hw3
        clear hw3
        go_wp2_with fail
      · go_ret
        exact ⟨ret_bool (rising_no hlt HE.out).symm, bTrans hbel hb3⟩
      · go_roundw
        case rel => exact ⟨k + 1, by omega, by go_num, anyB_step HN.out HE.out, bTrans hbel hb3⟩
        case measure => simp [intOf]; omega
      · go_ret
        exact ⟨ret_bool (rising_no hlt HE.out).symm, bTrans hbel hb3⟩
      · go_roundw
        case rel => exact ⟨k + 1, by omega, by go_num, anyB_step HN.out HE.out, bTrans hbel hb3⟩
        case measure => simp [intOf]; omega
    · obtain rfl : k = n := by omega
      go_wp2_with fail
      go_ret
      exact ⟨ret_bool (rising_yes HN.out).symm, hbel⟩
theorem areStops_ref (Ar Af : Option Addr) (cr cf : Nat) (S : Sh) (A : Option Addr) (n c : Nat) (g : Nat → Int) (w : World) (hn : n ≤ 9223372036854775807) (hg : IntsAt w A n g) :
    Calls Tryz.prog 204 #[.agg #[.slice Ar S.nr cr, .slice Af S.nf cf, .int .i64 S.deep, .int .i64 S.haul, .int .i64 S.rest], .slice A n c] w fun e w' => e = .returned (.bool (risingB 1 S.nf n g)) ∧ Below w.heap.size w w' := by
  have hb0 := bAlloc (Below.refl w.heap.size w) (.cells #[.slice Ar S.nr cr, .slice Af S.nf cf, .int .i64 S.deep, .int .i64 S.haul, .int .i64 S.rest] 57)
  have HS := Lib.hid (hg.mono hb0)
  have HB := Lib.hid hb0
  clear hg hb0
  go_enter Tryz.func204, Tryz.ntmps204
  go_wp2_with (go_at_call 210; refine (rising_any _ _ _ g _ _ _ hn HS.out).mono ?_; rintro e w1 ⟨rfl, hb1⟩)
  go_ret
  exact ⟨rfl, bTrans HB.out hb1⟩
end Go.Proofs.YtjpfdhhiofjpbaaGreatDoor


namespace Go.Proofs.YtjpfdhhiofjpbaaGreatDoor
open Go.RowKit Go.Sort

theorem rockOf_any (Ar Af : Option Addr) (cr cf : Nat) (S : Sh) (w : World) (ok : S.Ok) (hS : ShAt w Ar Af S) (n : Int) (i : Nat) (hn : n = i) (hi : i < S.nf) :
    Calls Tryz.prog 207 #[.agg #[.slice Ar S.nr cr, .slice Af S.nf cf, .int .i64 S.deep, .int .i64 S.haul, .int .i64 S.rest], .int .i64 n] w fun e w' => e = .returned (.agg #[.int .i64 (S.rk i).hours, .int .i64 (S.rk i).pence, .int .i64 (S.rk i).stand, .int .i64 (S.rk i).seat]) ∧ Below w.heap.size w w' := by
  subst hn
  obtain ⟨ba, oa, bf, of_, k, rfl, rfl, hba, hbf, hk, c0, c1, c2, c3, c4⟩ := hS.foot ok hi
  have hnr := ok.nr
  have hnf := ok.nf
  go_enter Tryz.func207, Tryz.ntmps207
  go_wp2_with fail
  go_region
  go_wp2_with fail
  exact bodyPost_ret (v := .agg #[.int .i64 (S.rk i).hours, .int .i64 (S.rk i).pence, .int .i64 (S.rk i).stand, .int .i64 (S.rk i).seat]) (by simp [results, Tryz.results207, go_sem]) rfl ⟨rfl, by (repeat (first | (with_reducible exact Below.refl _ _) | (with_reducible refine bAlloc ?_ _) | (with_reducible refine bDrew ?_) | (with_reducible refine bGrow ?_ _ _) | (with_reducible refine bSet ?_ ?_ _; (first | exact Nat.le_refl _ | exact Nat.le_add_right _ _ | (simp; omega))) | (with_reducible refine bTrans ?_ (by assumption))))⟩
theorem priceOf_any (Ar Af : Option Addr) (cr cf : Nat) (S : Sh) (w : World) (ok : S.Ok) (hS : ShAt w Ar Af S) (i : Nat) (hi : i < S.nf) :
    Calls Tryz.prog 194 #[.agg #[.slice Ar S.nr cr, .slice Af S.nf cf, .int .i64 S.deep, .int .i64 S.haul, .int .i64 S.rest], .int .i64 i] w fun e w' => e = .returned (.int .i64 (S.price i)) ∧ Below w.heap.size w w' := by
  have hb0 := bAlloc (Below.refl w.heap.size w) (.cells #[.slice Ar S.nr cr, .slice Af S.nf cf, .int .i64 S.deep, .int .i64 S.haul, .int .i64 S.rest] 57)
  have HS := Lib.hid (hS.mono hb0)
  have HB := Lib.hid hb0
  clear hS hb0
  have hr := ok.rk hi
  have hp0 := hr.p0
  have hp1 := hr.p1
  have hnf := ok.nf
  obtain ⟨m0, m1⟩ := sh_mul_bd (a := i) (b := S.deep) (by omega) (by omega) ok.d0 ok.d1
  go_enter Tryz.func194, Tryz.ntmps194
  go_wp2_with fail
  refine wp_region_quiet_below (by kernel_rfl) (by kernel_rfl) ?_
  repeat (go_big_quiet_step ((go_at_call 207; exact Calls.regrown_of (rockOf_any _ _ _ _ S _ ok (HS.out.mono (below_regrown _ _ _)) _ i rfl hi))))
  refine wpQuiet_nil ?_
  intro w1 hw1
  have hb1 := below_of_regrown hw1
  clear hw1
  go_wp2_with fail
  go_ret
  exact ⟨rfl, bTrans HB.out hb1⟩
theorem ringOf_any (Ar Af : Option Addr) (cr cf : Nat) (S : Sh) (w : World) (ok : S.Ok) (hS : ShAt w Ar Af S) (n : Int) (d : Nat) (hn : n = d) (h1 : 1 ≤ d) (hd : d ≤ S.nf) :
    Calls Tryz.prog 195 #[.agg #[.slice Ar S.nr cr, .slice Af S.nf cf, .int .i64 S.deep, .int .i64 S.haul, .int .i64 S.rest], .int .i64 n] w fun e w' => e = .returned (.int .i64 (S.ringc d)) ∧ Below w.heap.size w w' := by
  subst hn
  have hb0 := bAlloc (Below.refl w.heap.size w) (.cells #[.slice Ar S.nr cr, .slice Af S.nf cf, .int .i64 S.deep, .int .i64 S.haul, .int .i64 S.rest] 57)
  have HS := Lib.hid (hS.mono hb0)
  have HB := Lib.hid hb0
  clear hS hb0
  have hi : d - 1 < S.nf := by omega
  have hr := ok.rk hi
  have hp0 := hr.t0
  have hp1 := hr.t1
  have hnf := ok.nf
  obtain ⟨m0, m1⟩ := sh_mul_bd (a := d) (b := S.haul) (by omega) (by omega) ok.l0 ok.l1
  go_enter Tryz.func195, Tryz.ntmps195
  go_wp2_with fail
  refine wp_region_quiet_below (by kernel_rfl) (by kernel_rfl) ?_
  repeat (go_big_quiet_step ((go_at_call 207; exact Calls.regrown_of (rockOf_any _ _ _ _ S _ ok (HS.out.mono (below_regrown _ _ _)) _ (d - 1) (by omega) hi))))
  refine wpQuiet_nil ?_
  intro w1 hw1
  have hb1 := below_of_regrown hw1
  clear hw1
  go_wp2_with fail
  go_ret
  exact ⟨rfl, bTrans HB.out hb1⟩
theorem canRest_any (Ar Af : Option Addr) (cr cf : Nat) (S : Sh) (w : World) (ok : S.Ok) (hS : ShAt w Ar Af S) (n : Int) (d : Nat) (hn : n = d) (h1 : 1 ≤ d) (hd : d ≤ S.nf) :
    Calls Tryz.prog 206 #[.agg #[.slice Ar S.nr cr, .slice Af S.nf cf, .int .i64 S.deep, .int .i64 S.haul, .int .i64 S.rest], .int .i64 n] w fun e w' => e = .returned (.bool (S.restsB d)) ∧ Below w.heap.size w w' := by
  subst hn
  have hb0 := bAlloc (Below.refl w.heap.size w) (.cells #[.slice Ar S.nr cr, .slice Af S.nf cf, .int .i64 S.deep, .int .i64 S.haul, .int .i64 S.rest] 57)
  have HS := Lib.hid (hS.mono hb0)
  have HB := Lib.hid hb0
  clear hS hb0
  have hi : d - 1 < S.nf := by omega
  have hnf := ok.nf
  go_enter Tryz.func206, Tryz.ntmps206
  go_wp2_with (go_at_call 207; refine (rockOf_any _ _ _ _ S _ ok HS.out _ (d - 1) (by omega) hi).mono ?_; rintro e w1 ⟨rfl, hb1⟩)
  go_ret
  exact ⟨rfl, bTrans HB.out hb1⟩
end Go.Proofs.YtjpfdhhiofjpbaaGreatDoor


namespace Go.Proofs.YtjpfdhhiofjpbaaGreatDoor
open Go.RowKit Go.Sort

set_option maxHeartbeats 1000000 in
theorem in_any (A : Option Addr) (n c : Nat) (g : Nat → Int) (x : Int) (w : World) (hn : n ≤ 9223372036854775807) (hg : IntsAt w A n g) :
    Calls Tryz.prog 41 #[.slice A n c, .int .i64 x] w fun e w' => e = .returned (.bool (anyB (fun i => g i == x) n)) ∧ Below w.heap.size w w' := by
  have HC := Lib.hid hg
  clear hg
  go_enter Tryz.func41, Tryz.ntmps41
  go_wp2_with fail
  go_loop [5] (fun i => ∃ k : Nat, k ≤ n ∧ i = .int .i64 k ∧ anyB (fun i => g i == x) k = false) (fun i => n - (intOf i).toNat)
  case atStart => exact ⟨0, Nat.zero_le _, rfl, rfl⟩
  case round =>
    obtain ⟨k, hk, rfl, hno⟩ := hrel
    have HN := Lib.hid hno
    clear hno
    by_cases hlt : k < n
    · rcases HC.out with h0 | ⟨b, o, hA, hb, hcell⟩
      · omega
      have c0 := hcell k hlt
      clear hcell
      subst hA
      cases he : (g k == x)
      · go_wp2_with fail
        go_round
        case rel => exact ⟨k + 1, by omega, by go_num, anyB_step HN.out he⟩
        case measure => simp [intOf]; omega
      · go_wp2_with fail
        go_ret
        exact ⟨ret_bool (anyB_hit hlt he).symm, Below.refl _ _⟩
    · obtain rfl : k = n := by omega
      go_wp2_with fail
      go_ret
      exact ⟨ret_bool HN.out.symm, Below.refl _ _⟩
end Go.Proofs.YtjpfdhhiofjpbaaGreatDoor


namespace Go.Proofs.YtjpfdhhiofjpbaaGreatDoor
open Go.RowKit Go.Sort

def Sh.fallsOf (S : Sh) (mem : Nat → Bool) : Int := if S.firstFall mem = S.nf then -1 else S.firstFall mem
theorem Sh.fallsOf_some {S : Sh} {mem : Nat → Bool} {f : Nat} (hf : f < S.nf) (h : ∀ j, j < f → S.fallAt mem j = false) (h2 : S.fallAt mem f = true) : S.fallsOf mem = f := by
  have e : S.firstFall mem = f := firstFrom_eq _ _ _ _ (Nat.zero_le _) (by omega) (fun j _ hj => h j hj) fun _ => h2
  unfold Sh.fallsOf; rw [e, if_neg (by omega)]
theorem Sh.fallsOf_none {S : Sh} {mem : Nat → Bool} (h : ∀ j, j < S.nf → S.fallAt mem j = false) : S.fallsOf mem = -1 := by
  have e : S.firstFall mem = S.nf := firstFrom_eq _ _ _ _ (Nat.zero_le _) (by omega) (fun j _ hj => h j hj) fun h => by omega
  unfold Sh.fallsOf; rw [if_pos e]
theorem forall_lt_succ {p : Nat → Prop} {f : Nat} (h : ∀ j, j < f → p j) (h2 : p f) : ∀ j, j < f + 1 → p j := fun j hj => by
  rcases Nat.lt_or_ge j f with h3 | h3
  · exact h j h3
  · obtain rfl : j = f := by omega
    exact h2
theorem memOf_at {m : Nat} {g : Nat → Int} {f : Nat} {b : Bool} (h : memOf m g (f + 1) = b) : anyB (fun i => g i == (f : Int) + 1) m = b := by rw [← h]; rfl

set_option maxHeartbeats 2000000 in
theorem fallsOf_any (Ar Af : Option Addr) (cr cf : Nat) (S : Sh) (w : World) (ok : S.Ok) (hS : ShAt w Ar Af S) (A : Option Addr) (n c : Nat) (g : Nat → Int) (hn : n ≤ 9223372036854775807) (hg : IntsAt w A n g) :
    Calls Tryz.prog 205 #[.agg #[.slice Ar S.nr cr, .slice Af S.nf cf, .int .i64 S.deep, .int .i64 S.haul, .int .i64 S.rest], .slice A n c] w fun e w' => e = .returned (.int .i64 (S.fallsOf (memOf n g))) ∧ Below w.heap.size w w' := by
  have hb0 := bAlloc (Below.refl w.heap.size w) (.cells #[.slice Ar S.nr cr, .slice Af S.nf cf, .int .i64 S.deep, .int .i64 S.haul, .int .i64 S.rest] 57)
  have HS := Lib.hid (hS.mono hb0)
  have HG := Lib.hid (hg.mono hb0)
  have HB := Lib.hid hb0
  clear hS hg hb0
  have hnf := ok.nf
  go_enter Tryz.func205, Tryz.ntmps205
  go_wp2_with fail
  go_loopw [5, 6] (fun l i wr => ∃ f : Nat, f ≤ S.nf ∧ i = .int .i64 f ∧ l = .int .i64 (lastS (memOf n g) f) ∧ (∀ j, j < f → S.fallAt (memOf n g) j = false) ∧ Below (w.alloc (.cells #[.slice Ar S.nr cr, .slice Af S.nf cf, .int .i64 S.deep, .int .i64 S.haul, .int .i64 S.rest] 57)).heap.size (w.alloc (.cells #[.slice Ar S.nr cr, .slice Af S.nf cf, .int .i64 S.deep, .int .i64 S.haul, .int .i64 S.rest] 57)) wr) (fun _ i _ => S.nf - (intOf i).toNat)
  case atStart => exact ⟨0, Nat.zero_le _, rfl, rfl, fun j h1 => by omega, Below.refl _ _⟩
  case round =>
    obtain ⟨f, hf, rfl, rfl, hno, hbel⟩ := hrel
    have HN := Lib.hid hno
    clear hno
    obtain ⟨bc, bf⟩ := bcell hbel
    have hz := hbel.size
    simp only [World.size_alloc] at hz
    have hy : w.heap.size < wr.heap.size := hz
    obtain ⟨l, hl⟩ : ∃ l, l = lastS (memOf n g) f := ⟨_, rfl⟩
    have hlf : l ≤ f := hl ▸ lastS_le _ _
    rw [← hl]
    have HL := Lib.hid hl
    clear hl
    by_cases hlt : f < S.nf
    · go_wp2_with fail
      obtain ⟨wo, rfl⟩ : ∃ wo : World, wo = wr := ⟨_, rfl⟩
      go_loopw [7] (fun i wr => ∃ t : Nat, l ≤ t ∧ t ≤ f + 1 ∧ i = .int .i64 t ∧ (∀ j, l ≤ j → j < t → ¬ (S.rk j).stand < (f : Int) - l + 1) ∧ Below wo.heap.size wo wr) (fun i _ => f + 1 - (intOf i).toNat)
      case atStart => exact ⟨l, Nat.le_refl _, by omega, rfl, fun j h1 h2 => by omega, Below.refl _ _⟩
      case round =>
        obtain ⟨t, ht1, ht2, rfl, hno, hbel2⟩ := hrel
        have HM := Lib.hid hno
        clear hno
        obtain ⟨bc2, bf2⟩ := bcell hbel2
        have hz2 := hbel2.size
        have hy2 : w.heap.size < wr.heap.size := by omega
        by_cases hlt2 : t < f + 1
        · have r0 := (ok.rk (i := t) (by omega)).s0
          have r1 := (ok.rk (i := t) (by omega)).s1
          by_cases hst : (S.rk t).stand < (f : Int) - l + 1
          · have HF := Lib.hid (show S.fallAt (memOf n g) f = true by unfold Sh.fallAt; rw [← HL.out, Sh.fallsAt_iff hlf (by omega)]; exact ⟨t, ht1, by omega, hst⟩)
            go_wp2_with (go_at_call 207; refine (rockOf_any _ _ _ _ S _ ok ((HS.out.mono hbel).mono hbel2) _ t (by omega) (by omega)).mono ?_; rintro e w1 ⟨rfl, hb1⟩)
            go_ret
            exact ⟨ret_int (Sh.fallsOf_some hlt HN.out HF.out).symm, bTrans (bTrans (bTrans HB.out hbel) hbel2) hb1⟩
          · go_wp2_with (go_at_call 207; refine (rockOf_any _ _ _ _ S _ ok ((HS.out.mono hbel).mono hbel2) _ t (by omega) (by omega)).mono ?_; rintro e w1 ⟨rfl, hb1⟩)
            go_roundw
            case rel => exact ⟨t + 1, by omega, by omega, by go_num, fun j h1 h2 => by (rcases Nat.lt_or_ge j t with h | h); (have := HM.out j h1 h; omega); (obtain rfl : j = t := by omega); omega, bTrans hbel2 hb1⟩
            case measure => simp [intOf]; omega
        · obtain rfl : t = f + 1 := by omega
          have HF := Lib.hid (show S.fallAt (memOf n g) f = false by
            cases e : S.fallAt (memOf n g) f
            · rfl
            · unfold Sh.fallAt at e; rw [← HL.out, Sh.fallsAt_iff hlf (by omega)] at e
              obtain ⟨i, h1, h2, h3⟩ := e
              exact absurd h3 (HM.out i h1 (by omega)))
          have HG2 := Lib.hid ((HG.out.mono hbel).mono hbel2)
          cases hm : memOf n g (f + 1)
          · have hm2 := memOf_at hm
            have HLS := Lib.hid (show lastS (memOf n g) (f + 1) = l by rw [lastS, hm]; simp [HL.out])
            clear hm
            go_wp2_with (go_at_call 41; refine (in_any _ _ _ g _ _ hn HG2.out).mono ?_; rintro e w1 ⟨rfl, hb1⟩)
            go_roundw
            case rel => exact ⟨f + 1, by omega, by go_num, by rw [HLS.out], forall_lt_succ HN.out HF.out, bTrans (bTrans hbel hbel2) hb1⟩
            case measure => simp [intOf]; omega
          · have hm2 := memOf_at hm
            have HLS := Lib.hid (show lastS (memOf n g) (f + 1) = f + 1 by rw [lastS, hm]; simp)
            clear hm
            go_wp2_with (go_at_call 41; refine (in_any _ _ _ g _ _ hn HG2.out).mono ?_; rintro e w1 ⟨rfl, hb1⟩)
            go_roundw
            case rel => exact ⟨f + 1, by omega, by go_num, by rw [HLS.out]; go_num, forall_lt_succ HN.out HF.out, bTrans (bTrans hbel hbel2) hb1⟩
            case measure => simp [intOf]; omega
    · obtain rfl : f = S.nf := by omega
      go_wp2_with fail
      go_ret
      exact ⟨ret_int (Sh.fallsOf_none HN.out).symm, bTrans HB.out hbel⟩
end Go.Proofs.YtjpfdhhiofjpbaaGreatDoor


namespace Go.Proofs.YtjpfdhhiofjpbaaGreatDoor
open Go.RowKit Go.Sort
theorem stop_nat {S : Sh} {m : Nat} {g : Nat → Int} (h : Rising 1 S.nf m g) {k : Nat} (hk : k < m) : g k = ((g k).toNat : Int) ∧ 1 ≤ (g k).toNat ∧ (g k).toNat ≤ S.nf := by
  have := h.lo k hk; have := h.hi k hk; omega
theorem rings_bd {S : Sh} (ok : S.Ok) {m : Nat} {g : Nat → Int} (h : Rising 1 S.nf m g) {k : Nat} (hk : k ≤ m) : -12 ≤ sumTo (fun i => S.ringc (g i).toNat) k ∧ sumTo (fun i => S.ringc (g i).toNat) k ≤ 2484 := by
  have h1 := sumTo_bd (f := fun i => S.ringc (g i).toNat) (n := k) (lo := -1) (hi := 207) fun i hi => ringc_bd ok (stop_nat h (by omega)).2.1 (stop_nat h (by omega)).2.2
  have := h.count
  have hnf := ok.nf
  omega
set_option maxHeartbeats 2000000 in
theorem costOf_any (Ar Af : Option Addr) (cr cf : Nat) (S : Sh) (w : World) (ok : S.Ok) (hS : ShAt w Ar Af S) (A : Option Addr) (m c : Nat) (g : Nat → Int) (hg : IntsAt w A m g) (hR : Rising 1 S.nf m g) :
    Calls Tryz.prog 180 #[.agg #[.slice Ar S.nr cr, .slice Af S.nf cf, .int .i64 S.deep, .int .i64 S.haul, .int .i64 S.rest], .slice A m c] w fun e w' => e = .returned (.int .i64 (S.costOf m g)) ∧ Below w.heap.size w w' := by
  have hb0 := bAlloc (Below.refl w.heap.size w) (.cells #[.slice Ar S.nr cr, .slice Af S.nf cf, .int .i64 S.deep, .int .i64 S.haul, .int .i64 S.rest] 57)
  have HS := Lib.hid (hS.mono hb0)
  have HG := Lib.hid (hg.mono hb0)
  have HB := Lib.hid hb0
  have HR := Lib.hid hR
  have hm := hR.count
  clear hS hg hb0 hR
  have hnf := ok.nf
  go_enter Tryz.func180, Tryz.ntmps180
  go_wp2_with fail
  go_loopw [5, 6] (fun s i wr => ∃ k : Nat, k ≤ S.nf ∧ i = .int .i64 k ∧ s = .int .i64 (sumTo S.price k) ∧ Below (w.alloc (.cells #[.slice Ar S.nr cr, .slice Af S.nf cf, .int .i64 S.deep, .int .i64 S.haul, .int .i64 S.rest] 57)).heap.size (w.alloc (.cells #[.slice Ar S.nr cr, .slice Af S.nf cf, .int .i64 S.deep, .int .i64 S.haul, .int .i64 S.rest] 57)) wr) (fun _ i _ => S.nf - (intOf i).toNat)
  case atStart => exact ⟨0, Nat.zero_le _, rfl, rfl, Below.refl _ _⟩
  case round =>
    obtain ⟨k, hk, rfl, rfl, hbel⟩ := hrel
    obtain ⟨bc, bf⟩ := bcell hbel
    have hz := hbel.size
    simp only [World.size_alloc] at hz
    have hy : w.heap.size < wr.heap.size := hz
    obtain ⟨d0, d1, _, _⟩ := digs_bd ok hk
    by_cases hlt : k < S.nf
    · obtain ⟨p0, p1⟩ := price_bd ok hlt
      go_wp2_with (go_at_call 194; refine (priceOf_any _ _ _ _ S _ ok (HS.out.mono hbel) k hlt).mono ?_; rintro e w1 ⟨rfl, hb1⟩)
      go_roundw
      case rel => exact ⟨k + 1, by omega, by go_num, rfl, bTrans hbel hb1⟩
      case measure => simp [intOf]; omega
    · obtain rfl : k = S.nf := by omega
      go_wp2_with fail
      obtain ⟨w1, rfl⟩ : ∃ w1 : World, w1 = wr := ⟨_, rfl⟩
      have HB1 := Lib.hid (bTrans HB.out hbel)
      have HS1 := Lib.hid (HS.out.mono hbel)
      have HG1 := Lib.hid (HG.out.mono hbel)
      clear hbel
      go_loopw [5, 7] (fun s i wr => ∃ k : Nat, k ≤ m ∧ i = .int .i64 k ∧ s = .int .i64 (sumTo S.price S.nf + sumTo (fun i => S.ringc (g i).toNat) k) ∧ Below w1.heap.size w1 wr) (fun _ i _ => m - (intOf i).toNat)
      case atStart => exact ⟨0, Nat.zero_le _, rfl, by simp [sumTo], Below.refl _ _⟩
      case round =>
        obtain ⟨k, hk, rfl, rfl, hbel⟩ := hrel
        obtain ⟨bc2, bf2⟩ := bcell hbel
        have hz2 := hbel.size
        have hy2 : w.heap.size < wr.heap.size := by omega
        obtain ⟨e0, e1⟩ := rings_bd ok HR.out hk
        by_cases hlt : k < m
        · rcases HG1.out.mono hbel with h0 | ⟨b, o, hA, hb, hcell⟩
          · omega
          have c0 := hcell k hlt
          clear hcell
          subst hA
          obtain ⟨hs0, hs1, hs2⟩ := stop_nat HR.out hlt
          obtain ⟨r0, r1⟩ := ringc_bd ok hs1 hs2
          have HS0 := Lib.hid hs0
          clear hs0
          go_wp2_with fail
          refine wp_region_quiet_below (by kernel_rfl) (by kernel_rfl) ?_
          repeat (go_big_quiet_step ((go_at_call 195; exact Calls.regrown_of (ringOf_any _ _ _ _ S _ ok ((HS1.out.mono hbel).mono (below_regrown _ _ _)) _ _ HS0.out hs1 hs2))))
          refine wpQuiet_nil ?_
          intro w3 hw3
          have hb3 := below_of_regrown hw3
          clear hw3
          go_wp2_with fail
          go_roundw
          case rel => exact ⟨k + 1, by omega, by go_num, by simp only [sumTo]; go_num, bTrans hbel hb3⟩
          case measure => simp [intOf]; omega
        · obtain rfl : k = m := by omega
          go_wp2_with fail
          go_ret
          exact ⟨rfl, bTrans HB1.out hbel⟩
end Go.Proofs.YtjpfdhhiofjpbaaGreatDoor


namespace Go.Proofs.YtjpfdhhiofjpbaaGreatDoor
open Go.RowKit Go.Sort
theorem firstFall_le (S : Sh) (mem : Nat → Bool) : S.firstFall mem ≤ S.nf := by
  have := (firstFrom_spec (S.fallAt mem) S.nf 0).2.1; unfold Sh.firstFall; omega
theorem fallsOf_cases (S : Sh) (mem : Nat → Bool) : (S.firstFall mem = S.nf ∧ S.fallsOf mem = -1) ∨ (S.firstFall mem < S.nf ∧ S.fallsOf mem = S.firstFall mem ∧ 0 ≤ S.fallsOf mem) := by
  have := firstFall_le S mem
  unfold Sh.fallsOf
  by_cases h : S.firstFall mem = S.nf
  · exact .inl ⟨h, if_pos h⟩
  · rw [if_neg h]; exact .inr ⟨by omega, rfl, by omega⟩
theorem plan_last {S : Sh} {m : Nat} {g : Nat → Int} (hR : Rising 1 S.nf m g) : (((S.nf : Int) == 0) = true ∧ (S.nf == 0) = true ∧ stopAt g m = S.nf) ∨
    (((S.nf : Int) == 0) = false ∧ (S.nf == 0) = false ∧ decide ((0 : Int) < (m : Int)) = false ∧ decide (0 < m) = false ∧ stopAt g m ≠ S.nf) ∨
    (((S.nf : Int) == 0) = false ∧ (S.nf == 0) = false ∧ (0 : Int) < (m : Int) ∧ 0 < m ∧ (g (m - 1) == (S.nf : Int)) = false ∧ stopAt g m ≠ S.nf) ∨
    (((S.nf : Int) == 0) = false ∧ (S.nf == 0) = false ∧ (0 : Int) < (m : Int) ∧ 0 < m ∧ (g (m - 1) == (S.nf : Int)) = true ∧ stopAt g m = S.nf) := by
  have hc := hR.count
  by_cases h0 : S.nf = 0
  · have : m = 0 := by omega
    subst this
    exact .inl ⟨by simp [h0], by simp [h0], by simp [stopAt, h0]⟩
  · have e1 : ((S.nf : Int) == 0) = false := by simp [h0]
    have e2 : (S.nf == 0) = false := by simp [h0]
    cases m with
    | zero => exact .inr (.inl ⟨e1, e2, by simp, by simp, by simp only [stopAt]; omega⟩)
    | succ k =>
      have hl := hR.lo k (by omega)
      by_cases h : g k = (S.nf : Int)
      · exact .inr (.inr (.inr ⟨e1, e2, by omega, by omega, by simp [h], by simp only [stopAt]; omega⟩))
      · exact .inr (.inr (.inl ⟨e1, e2, by omega, by omega, by simp [h], by simp only [stopAt]; omega⟩))
set_option maxHeartbeats 2000000 in
theorem isPlan_any (Ar Af : Option Addr) (cr cf : Nat) (S : Sh) (w : World) (ok : S.Ok) (hS : ShAt w Ar Af S) (A : Option Addr) (m c : Nat) (g : Nat → Int) (hm : m ≤ 9223372036854775807) (hg : IntsAt w A m g) :
    Calls Tryz.prog 193 #[.agg #[.slice Ar S.nr cr, .slice Af S.nf cf, .int .i64 S.deep, .int .i64 S.haul, .int .i64 S.rest], .slice A m c] w fun e w' => e = .returned (.bool (S.planB m g)) ∧ Below w.heap.size w w' := by
  have hb0 := bAlloc (Below.refl w.heap.size w) (.cells #[.slice Ar S.nr cr, .slice Af S.nf cf, .int .i64 S.deep, .int .i64 S.haul, .int .i64 S.rest] 57)
  have HS := Lib.hid (hS.mono hb0)
  have HG := Lib.hid (hg.mono hb0)
  have HB := Lib.hid hb0
  clear hS hg hb0
  have hnf := ok.nf
  cases hrb : risingB 1 S.nf m g
  · have HE := Lib.hid (S.planB_f (m := m) (g := g) fun h => by rw [rising_iff.2 h.rising] at hrb; cases hrb)
    go_enter Tryz.func193, Tryz.ntmps193
    go_wp2_with (go_at_call 204; refine (areStops_ref _ _ _ _ S _ _ _ g _ hm HG.out).mono ?_; rintro e w1 ⟨rfl, hb1⟩)
    go_ret
    exact ⟨ret_bool HE.out.symm, bTrans HB.out hb1⟩
  · have HR := Lib.hid (rising_iff.1 hrb)
    rcases fallsOf_cases S (memOf m g) with ⟨hff, hfo⟩ | ⟨hff, _, hfo⟩
    · have HFF := Lib.hid hff
      clear hff
      go_enter Tryz.func193, Tryz.ntmps193
      go_wp2_with (first | (go_at_call 204; refine (areStops_ref _ _ _ _ S _ _ _ g _ hm HG.out).mono ?_; rintro e w1 ⟨rfl, hb1⟩; obtain ⟨bc1, bf1⟩ := bcell hb1; have hz1 := hb1.size; simp only [World.size_alloc] at hz1; have hy1 : w.heap.size < w1.heap.size := hz1) | (go_at_call 205; refine (fallsOf_any _ _ _ _ S _ ok (HS.out.mono hb1) _ _ _ g hm (HG.out.mono hb1)).mono ?_; rintro e w2 ⟨rfl, hb2⟩; obtain ⟨bc2, bf2⟩ := bcell hb2; have hz2 := hb2.size; have hy2 : w.heap.size < w2.heap.size := (by omega)))
      have HB2 := Lib.hid (bTrans (bTrans HB.out hb1) hb2)
      have HS2 := Lib.hid ((HS.out.mono hb1).mono hb2)
      have HG2 := Lib.hid ((HG.out.mono hb1).mono hb2)
      clear hb1 hb2
      go_loopw [5] (fun i wr => ∃ k : Nat, k ≤ m ∧ i = .int .i64 k ∧ (∀ j, j < k → S.restsB (g j).toNat = true) ∧ Below w2.heap.size w2 wr) (fun i _ => m - (intOf i).toNat)
      case atStart => exact ⟨0, Nat.zero_le _, rfl, fun j hj => by omega, Below.refl _ _⟩
      case round =>
        obtain ⟨k, hk, rfl, hno, hbel⟩ := hrel
        have HN := Lib.hid hno
        clear hno
        obtain ⟨bc3, bf3⟩ := bcell hbel
        have hz3 := hbel.size
        have hy3 : w.heap.size < wr.heap.size := by omega
        by_cases hlt : k < m
        · rcases HG2.out.mono hbel with h0 | ⟨b, o, hA, hb, hcell⟩
          · omega
          have c0 := hcell k hlt
          clear hcell
          subst hA
          obtain ⟨hs0, hs1, hs2⟩ := stop_nat HR.out hlt
          have HS0 := Lib.hid hs0
          clear hs0
          cases hrest : S.restsB (g k).toNat
          all_goals
            go_wp2_with fail
            refine wp_region_quiet_below (by kernel_rfl) (by kernel_rfl) ?_
            repeat (go_big_quiet_step ((go_at_call 206; exact Calls.regrown_of (canRest_any _ _ _ _ S _ ok ((HS2.out.mono hbel).mono (below_regrown _ _ _)) _ _ HS0.out hs1 hs2))))
            refine wpQuiet_nil ?_
            intro w4 hw4
            have hb4 := below_of_regrown hw4
            clear hw4
            go_wp2_with fail
          · go_ret
            exact ⟨ret_bool (S.planB_f fun h => by rw [h.rest k hlt] at hrest; cases hrest).symm, bTrans (bTrans HB2.out hbel) hb4⟩
          · go_roundw
            case rel => exact ⟨k + 1, by omega, by go_num, forall_lt_succ HN.out hrest, bTrans hbel hb4⟩
            case measure => simp [intOf]; omega
        · obtain rfl : k = m := by omega
          rcases plan_last HR.out with ⟨p1, p2, p3⟩ | ⟨p1, p2, p3, p4, p5⟩ | ⟨p1, p2, p3, p4, p5, p6⟩ | ⟨p1, p2, p3, p4, p5, p6⟩
          · have HP := Lib.hid p3
            clear p3
            go_wp2_with fail
            refine wp_region_quiet_below (by kernel_rfl) (by kernel_rfl) ?_
            repeat (go_big_quiet_step ((fail)))
            refine wpQuiet_nil ?_
            intro w4 hw4
            have hb4 := below_of_regrown hw4
            clear hw4
            go_wp2_with fail
            go_ret
            exact ⟨ret_bool (S.planB_t ⟨HR.out, HFF.out, HN.out, HP.out⟩).symm, bTrans (bTrans HB2.out hbel) hb4⟩
          · have HP := Lib.hid p5
            clear p5
            go_wp2_with fail
            refine wp_region_quiet_below (by kernel_rfl) (by kernel_rfl) ?_
            repeat (go_big_quiet_step ((fail)))
            refine wpQuiet_nil ?_
            intro w4 hw4
            have hb4 := below_of_regrown hw4
            clear hw4
            go_wp2_with fail
            go_ret
            exact ⟨ret_bool (S.planB_f fun h => HP.out h.last).symm, bTrans (bTrans HB2.out hbel) hb4⟩
          all_goals
            have HP := Lib.hid p6
            clear p6
            rcases HG2.out.mono hbel with h0 | ⟨b, o, hA, hb, hcell⟩
            · omega
            have c0 := hcell (k - 1) (by omega)
            clear hcell
            subst hA
            go_wp2_with fail
            refine wp_region_quiet_below (by kernel_rfl) (by kernel_rfl) ?_
            repeat (go_big_quiet_step ((fail)))
            refine wpQuiet_nil ?_
            intro w4 hw4
            have hb4 := below_of_regrown hw4
            clear hw4
            go_wp2_with fail
            go_ret
          · exact ⟨ret_bool (S.planB_f fun h => HP.out h.last).symm, bTrans (bTrans HB2.out hbel) hb4⟩
          · exact ⟨ret_bool (S.planB_t ⟨HR.out, HFF.out, HN.out, HP.out⟩).symm, bTrans (bTrans HB2.out hbel) hb4⟩
    · have HE := Lib.hid (S.planB_f (m := m) (g := g) fun h => by have := h.fall; omega)
      clear hff
      go_enter Tryz.func193, Tryz.ntmps193
      go_wp2_with (first | (go_at_call 204; refine (areStops_ref _ _ _ _ S _ _ _ g _ hm HG.out).mono ?_; rintro e w1 ⟨rfl, hb1⟩; obtain ⟨bc1, bf1⟩ := bcell hb1; have hz1 := hb1.size; simp only [World.size_alloc] at hz1; have hy1 : w.heap.size < w1.heap.size := hz1) | (go_at_call 205; refine (fallsOf_any _ _ _ _ S _ ok (HS.out.mono hb1) _ _ _ g hm (HG.out.mono hb1)).mono ?_; rintro e w2 ⟨rfl, hb2⟩; obtain ⟨bc2, bf2⟩ := bcell hb2; have hz2 := hb2.size; have hy2 : w.heap.size < w2.heap.size := (by omega)))
      go_ret
      exact ⟨ret_bool HE.out.symm, bTrans (bTrans HB.out hb1) hb2⟩
end Go.Proofs.YtjpfdhhiofjpbaaGreatDoor


namespace Go.Proofs.YtjpfdhhiofjpbaaGreatDoor
open Go.RowKit Go.Sort
attribute [go_sem ↓] eqlWay
def ltR (x y : Way) : Bool := decide (x.rings < y.rings)
end Go.Proofs.YtjpfdhhiofjpbaaGreatDoor


namespace Go.Proofs.YtjpfdhhiofjpbaaGreatDoor
open Go.RowKit Go.Sort
open Classical in
noncomputable def Sh.fewestOut (S : Sh) : Int × Int := if ¬ S.Ok then (0, 20) else if S.waysOf ltR S.nf 0 = noWay then (0, 3) else ((S.waysOf ltR S.nf 0).rings, 0)
theorem fewestOut_none {S : Sh} (h : S.Ok) (h2 : S.waysOf ltR S.nf 0 = noWay) : S.fewestOut = (0, 3) := by unfold Sh.fewestOut; rw [if_neg (not_not_intro h), if_pos h2]
theorem fewestOut_some {S : Sh} (h : S.Ok) (h2 : S.waysOf ltR S.nf 0 ≠ noWay) : S.fewestOut = ((S.waysOf ltR S.nf 0).rings, 0) := by unfold Sh.fewestOut; rw [if_neg (not_not_intro h), if_neg h2]
end Go.Proofs.YtjpfdhhiofjpbaaGreatDoor


namespace Go.Proofs.YtjpfdhhiofjpbaaGreatDoor
open Go.RowKit Go.Sort
def emptyS (v : Value) : Prop := ∃ b, v = .slice (some ⟨b, 0, none⟩) 0 0
end Go.Proofs.YtjpfdhhiofjpbaaGreatDoor


namespace Go.Proofs.YtjpfdhhiofjpbaaGreatDoor
open Go.RowKit Go.Sort
theorem CopyAt9.mono {w w' : World} {base : Nat} {vW vF vO vP vS : Value} {t : Pt} (h : CopyAt9 w base vW vF vO vP vS t) (hb : Below w.heap.size w w') : CopyAt9 w' base vW vF vO vP vS t := by
  obtain ⟨h1, h2, h3, us, h4, h5⟩ := h
  exact ⟨h1.mono hb, owns_below h2 hb, owns_below h3 hb, us, owns_below h4 hb, h5.mono hb⟩
theorem CopyAt9.lower {w : World} {base base' : Nat} {vW vF vO vP vS : Value} {t : Pt} (h : CopyAt9 w base vW vF vO vP vS t) (hb : base' ≤ base) : CopyAt9 w base' vW vF vO vP vS t := by
  obtain ⟨h1, h2, h3, us, h4, h5⟩ := h
  exact ⟨h1.lower hb, owns_lower h2 hb, owns_lower h3 hb, us, owns_lower h4 hb, h5⟩
end Go.Proofs.YtjpfdhhiofjpbaaGreatDoor

namespace Go.Proofs.YtjpfdhhiofjpbaaGreatDoor
open Go.RowKit Go.Sort
attribute [local go_sem] neqFact
set_option maxHeartbeats 4000000 in
set_option maxRecDepth 100000 in
theorem same5_any (Aw Af Bw Bf : Option Addr) (cw cf dw df : Nat) (t : Qt) (w : World) (hs : t.Small) (hA : QAt w Aw Af t) (hB : QAt w Bw Bf t) :
    Calls Tryz.prog 92 #[.agg #[.int .i64 t.wells, .slice Aw t.nw cw, .slice Af t.nf cf], .agg #[.int .i64 t.wells, .slice Bw t.nw dw, .slice Bf t.nf df]] w fun e w' => e = .returned (.bool true) ∧ Below w.heap.size w w' := by
  have hb2 := bAlloc (bAlloc (Below.refl w.heap.size w) (.cells #[.int .i64 t.wells, .slice Aw t.nw cw, .slice Af t.nf cf] 25)) (.cells #[.int .i64 t.wells, .slice Bw t.nw dw, .slice Bf t.nf df] 25)
  have HA := Lib.hid (hA.mono hb2)
  have HB := Lib.hid (hB.mono hb2)
  have HBB := Lib.hid hb2
  have HS := Lib.hid hs
  have hn := hs.1
  have hm := hs.2.1
  clear hA hB hb2 hs
  go_enter Tryz.func92, Tryz.ntmps92
  go_wp2_with fail
  go_loopw [5] (fun s wr => ∃ k : Nat, k ≤ t.nf ∧ s = .int .i64 k ∧ Below ((w.alloc (.cells #[.int .i64 t.wells, .slice Aw t.nw cw, .slice Af t.nf cf] 25)).alloc (.cells #[.int .i64 t.wells, .slice Bw t.nw dw, .slice Bf t.nf df] 25)).heap.size ((w.alloc (.cells #[.int .i64 t.wells, .slice Aw t.nw cw, .slice Af t.nf cf] 25)).alloc (.cells #[.int .i64 t.wells, .slice Bw t.nw dw, .slice Bf t.nf df] 25)) wr) (fun s _ => t.nf - (intOf s).toNat)
  case atStart => exact ⟨0, Nat.zero_le _, rfl, Below.refl _ _⟩
  case round =>
    obtain ⟨k, hk, rfl, hbel⟩ := hrel
    have HL := Lib.hid hbel
    obtain ⟨bc3, bf3⟩ := bcell hbel
    have hz3 := hbel.size
    simp only [World.size_alloc] at hz3
    have hy3 : w.heap.size < wr.heap.size := by omega
    have hv3 : w.heap.size + 1 < wr.heap.size := by omega
    clear hbel
    by_cases hlt : k < t.nf
    · have k1 : (k : Int) < (t.nf : Int) := by omega
      have k0 : (0 : Int) ≤ (k : Int) := by omega
      rcases (HA.out.mono HL.out).facts with h0 | ⟨b, o, e1, hb, hc⟩
      · omega
      obtain ⟨c0, c1, c2, c3, c4⟩ := hc k hlt
      subst e1
      rcases (HB.out.mono HL.out).facts with h0 | ⟨b2, o2, e2, hb2, hc2⟩
      · omega
      obtain ⟨d0, d1, d2, d3, d4⟩ := hc2 k hlt
      subst e2
      generalize t.fact k = f at *
      obtain ⟨f0, f1, f2, f3, f4⟩ := f
      simp only at c0 c1 c2 c3 c4 d0 d1 d2 d3 d4
      clear hc hc2
      go_wp2_with fail
      refine wp_region_quiet_below (by kernel_rfl) (by kernel_rfl) ?_
      repeat (go_big_quiet_step ((fail)))
      refine wpQuiet_nil ?_
      intro w9 hw9
      have HL9 := Lib.hid (bTrans HL.out (below_of_regrown hw9))
      clear hw9
      go_wp2_with fail
      go_roundw
      case rel =>
        refine ⟨k + 1, by omega, ?_, HL9.out⟩
        go_num
      case measure => simp [intOf]; omega
    · obtain rfl : k = t.nf := by omega
      have hk1 : ¬ ((t.nf : Int) < (t.nf : Int)) := by omega
      go_wp2_with fail
      clear bc3 bf3 hz3 hy3 hv3
      go_loopw [6] (fun s wx => ∃ i : Nat, i ≤ t.nw ∧ s = .int .i64 i ∧ Below ((w.alloc (.cells #[.int .i64 t.wells, .slice Aw t.nw cw, .slice Af t.nf cf] 25)).alloc (.cells #[.int .i64 t.wells, .slice Bw t.nw dw, .slice Bf t.nf df] 25)).heap.size ((w.alloc (.cells #[.int .i64 t.wells, .slice Aw t.nw cw, .slice Af t.nf cf] 25)).alloc (.cells #[.int .i64 t.wells, .slice Bw t.nw dw, .slice Bf t.nf df] 25)) wx) (fun s _ => t.nw - (intOf s).toNat)
      case atStart => exact ⟨0, Nat.zero_le _, rfl, HL.out⟩
      case round =>
        obtain ⟨i, hi, rfl, hbel⟩ := hrel
        have HX := Lib.hid hbel
        obtain ⟨bc3, bf3⟩ := bcell hbel
        have hz3 := hbel.size
        simp only [World.size_alloc] at hz3
        have hy3 : w.heap.size < wr.heap.size := by omega
        have hv3 : w.heap.size + 1 < wr.heap.size := by omega
        clear hbel
        by_cases hlt : i < t.nw
        · have k1 : (i : Int) < (t.nw : Int) := by omega
          have k0 : (0 : Int) ≤ (i : Int) := by omega
          rcases (HA.out.mono HX.out).worlds with h0 | ⟨b, o, e1, hb, hc⟩
          · omega
          obtain ⟨A1, a1, c0, hr1, hl1⟩ := hc i hlt
          subst e1
          rcases (HB.out.mono HX.out).worlds with h0 | ⟨b2, o2, e2, hb2, hc2⟩
          · omega
          obtain ⟨A2, a2, d0, hr2, _⟩ := hc2 i hlt
          subst e2
          obtain ⟨x, hx⟩ : ∃ x, t.world i = x := ⟨_, rfl⟩
          rw [hx] at c0 hr1 hl1 d0 hr2
          have HR1 := Lib.hid hr1
          have HR2 := Lib.hid hr2
          clear hc hc2 hx hr1 hr2
          go_wp2_with fail
          refine wp_region_quiet_below (by kernel_rfl) (by kernel_rfl) ?_
          repeat (go_big_quiet_step ((fail)))
          refine wpQuiet_nil ?_
          intro w9 hw9
          have hb9 := below_of_regrown hw9
          have HX9 := Lib.hid (bTrans HX.out hb9)
          have HD9 := Lib.hid hb9
          have e0 := (hb9.cell (p := ⟨b, o + i, none⟩) hb).trans c0
          have e1 := (hb9.cell (p := ⟨b2, o2 + i, none⟩) hb2).trans d0
          have hb' := Nat.lt_of_lt_of_le hb hb9.size
          have hb2' := Nat.lt_of_lt_of_le hb2 hb9.size
          have HE0 := Lib.hid e0
          have HE1 := Lib.hid e1
          clear hw9 hb9 c0 d0 hb hb2 bc3 bf3 hz3 hy3 hv3
          go_wp2_with fail
          clear e0 e1
          go_loopw [7] (fun s wy => ∃ j : Nat, j ≤ x.n ∧ s = .int .i64 j ∧ Below w9.heap.size w9 wy) (fun s _ => x.n - (intOf s).toNat)
          case atStart => exact ⟨0, Nat.zero_le _, rfl, Below.refl _ _⟩
          case round =>
            obtain ⟨j, hj, rfl, hbel⟩ := hrel
            have HY := Lib.hid hbel
            have HYB := Lib.hid (bTrans HX9.out hbel)
            have HYD := Lib.hid (bTrans HD9.out hbel)
            obtain ⟨bc3, bf3⟩ := bcell HYB.out
            have hz3 := HYB.out.size
            simp only [World.size_alloc] at hz3
            have hy3 : w.heap.size < wr.heap.size := by omega
            have hv3 : w.heap.size + 1 < wr.heap.size := by omega
            have c0 := (hbel.cell (p := ⟨b, o + i, none⟩) hb').trans HE0.out
            have d0 := (hbel.cell (p := ⟨b2, o2 + i, none⟩) hb2').trans HE1.out
            have hbb := Nat.lt_of_lt_of_le hb' hbel.size
            have hbb2 := Nat.lt_of_lt_of_le hb2' hbel.size
            clear hbel
            by_cases hlj : j < x.n
            · have j1 : (j : Int) < (x.n : Int) := by omega
              have j0 : (0 : Int) ≤ (j : Int) := by omega
              rcases HR1.out.mono HYD.out with h0 | ⟨b3, o3, e3, hb3, hc3⟩
              · omega
              obtain ⟨A3, a3, c3, hi3, hl3⟩ := hc3 j hlj
              subst e3
              rcases HR2.out.mono HYD.out with h0 | ⟨b4, o4, e4, hb4, hc4⟩
              · omega
              obtain ⟨A4, a4, c4, hi4, _⟩ := hc4 j hlj
              subst e4
              have HSI := Lib.hid (fun (w' : World) (hb : Below wr.heap.size wr w') => (by
                have := sameInts_any A3 A4 (x.len j) (x.len j) a3 a4 (x.fall j) (x.fall j) w' hl3 hl3 (hi3.mono hb) (hi4.mono hb)
                rw [show (decide (x.len j = x.len j) && !anyB (fun i => x.fall j i != x.fall j i) (x.len j)) = true by rw [anyB_false.2 fun i _ => by simp]; simp] at this
                exact this : Calls Tryz.prog 32 #[.slice A3 (x.len j) a3, .slice A4 (x.len j) a4] w' fun e w'' => e = .returned (.bool true) ∧ Below w'.heap.size w' w''))
              clear hc3 hc4 hi3 hi4
              go_wp2_with fail
              refine wp_region_quiet_below (by kernel_rfl) (by kernel_rfl) ?_
              repeat (go_big_quiet_step (((go_at_call 32; with_reducible exact Calls.regrown_of (HSI.out _ (below_regrown _ _ _))))))
              refine wpQuiet_nil ?_
              intro w8 hw8
              have HY8 := Lib.hid (bTrans HY.out (below_of_regrown hw8))
              clear hw8
              go_wp2_with fail
              go_roundw
              case rel =>
                refine ⟨j + 1, by omega, ?_, HY8.out⟩
                go_num
              case measure => simp [intOf]; omega
            · obtain rfl : j = x.n := by omega
              have hj1 : ¬ ((x.n : Int) < (x.n : Int)) := by omega
              go_wp2_with fail
              go_roundw
              case rel =>
                refine ⟨i + 1, by omega, ?_, HYB.out⟩
                go_num
              case measure => simp [intOf]; omega
        · obtain rfl : i = t.nw := by omega
          go_wp2_with fail
          go_ret
          exact ⟨rfl, bTrans HBB.out HX.out⟩
end Go.Proofs.YtjpfdhhiofjpbaaGreatDoor

namespace Go.Proofs.YtjpfdhhiofjpbaaGreatDoor
open Go.RowKit Go.Sort
attribute [local go_sem ↓] neqRock9
theorem sameInts_t (A B : Option Addr) (n c c' : Nat) (f : Nat → Int) (w : World) (hn : n ≤ 9223372036854775807) (hf : IntsAt w A n f) (hg : IntsAt w B n f) :
    Calls Tryz.prog 32 #[.slice A n c, .slice B n c'] w fun e w' => e = .returned (.bool true) ∧ Below w.heap.size w w' := by
  have := sameInts_any A B n n c c' f f w hn hn hf hg
  rw [show (decide (n = n) && !anyB (fun i => f i != f i) n) = true by rw [anyB_false.2 fun i _ => by simp]; simp] at this
  exact this
set_option maxHeartbeats 4000000 in
set_option maxRecDepth 100000 in
theorem sameSh_any (Ar Af Ar' Af' : Option Addr) (cr cf cr' cf' : Nat) (S : Sh) (w : World) (hr : S.nr ≤ 9223372036854775807) (hf : S.nf ≤ 9223372036854775807) (hS : ShAt w Ar Af S) (hS' : ShAt w Ar' Af' S) :
    Calls Tryz.prog 154 #[.agg #[.slice Ar S.nr cr, .slice Af S.nf cf, .int .i64 S.deep, .int .i64 S.haul, .int .i64 S.rest], .agg #[.slice Ar' S.nr cr', .slice Af' S.nf cf', .int .i64 S.deep, .int .i64 S.haul, .int .i64 S.rest]] w fun e w' => e = .returned (.bool true) ∧ Below w.heap.size w w' := by
  have hb0 := bAlloc (bAlloc (Below.refl w.heap.size w) (.cells #[.slice Ar S.nr cr, .slice Af S.nf cf, .int .i64 S.deep, .int .i64 S.haul, .int .i64 S.rest] 57)) (.cells #[.slice Ar' S.nr cr', .slice Af' S.nf cf', .int .i64 S.deep, .int .i64 S.haul, .int .i64 S.rest] 57)
  have HS := Lib.hid (hS.mono hb0)
  have HS' := Lib.hid (hS'.mono hb0)
  have HB := Lib.hid hb0
  clear hS hS' hb0
  go_enter Tryz.func154, Tryz.ntmps154
  go_wp2_with (go_at_call 32; refine (sameInts_t _ _ _ _ _ S.foot _ (by omega) HS.out.feet HS'.out.feet).mono ?_; rintro e w1 ⟨rfl, hb1⟩)
  have HS1 := Lib.hid (HS.out.mono hb1)
  have HS1' := Lib.hid (HS'.out.mono hb1)
  have HB1 := Lib.hid (bTrans HB.out hb1)
  have HBX := Lib.hid hb1
  clear hb1
  go_loopw [5] (fun i wr => ∃ k : Nat, k ≤ S.nr ∧ i = .int .i64 k ∧ Below w1.heap.size w1 wr) (fun i _ => S.nr - (intOf i).toNat)
  case atStart => exact ⟨0, Nat.zero_le _, rfl, Below.refl _ _⟩
  case round =>
    obtain ⟨k, hk, rfl, hbel⟩ := hrel
    obtain ⟨bc, bf⟩ := bcell (bTrans HBX.out hbel)
    have hz := hbel.size
    have hz1 := HBX.out.size
    simp only [World.size_alloc] at hz1
    have hy : w.heap.size < wr.heap.size := by omega
    have hy1 : w.heap.size + 1 < wr.heap.size := by omega
    by_cases hlt : k < S.nr
    · rcases (HS1.out.mono hbel).rocks with h0 | ⟨b, o, hA, hb, hcell⟩
      · omega
      obtain ⟨c0, c1, c2, c3⟩ := hcell k hlt
      clear hcell
      subst hA
      rcases (HS1'.out.mono hbel).rocks with h0 | ⟨b', o', hA', hb', hcell⟩
      · omega
      obtain ⟨d0, d1, d2, d3⟩ := hcell k hlt
      clear hcell
      subst hA'
      go_wp2_with fail
      refine wp_region_quiet_below (by kernel_rfl) (by kernel_rfl) ?_
      repeat (go_big_quiet_step ((fail)))
      refine wpQuiet_nil ?_
      intro w3 hw3
      have hb3 := below_of_regrown hw3
      clear hw3
      go_wp2_with fail
      go_roundw
      case rel => exact ⟨k + 1, by omega, by go_num, bTrans hbel hb3⟩
      case measure => simp [intOf]; omega
    · obtain rfl : k = S.nr := by omega
      go_wp2_with fail
      go_ret
      exact ⟨rfl, bTrans HB1.out hbel⟩
set_option maxHeartbeats 8000000 in
set_option maxRecDepth 100000 in
theorem sameSpots9_any (A B : Option Addr) (n c c' : Nat) (f : Nat → Spot) (w : World) (hn : n ≤ 9223372036854775807) (hs : ∀ i, i < n → (f i).Small) (hA : SpotsAt w A n f) (hB : SpotsAt w B n f) :
    Calls Tryz.prog 93 #[.slice A n c, .slice B n c'] w fun e w' => e = .returned (.bool true) ∧ Below w.heap.size w w' := by
  have HA := Lib.hid hA
  have HB := Lib.hid hB
  have HS := Lib.hid hs
  clear hA hB hs
  go_enter Tryz.func93, Tryz.ntmps93
  go_wp2_with fail
  go_loopw [5] (fun s wr => ∃ k : Nat, k ≤ n ∧ s = .int .i64 k ∧ Below w.heap.size w wr) (fun s _ => n - (intOf s).toNat)
  case atStart => exact ⟨0, Nat.zero_le _, rfl, Below.refl _ _⟩
  case round =>
    obtain ⟨k, hk, rfl, hbel⟩ := hrel
    have HL := Lib.hid hbel
    clear hbel
    by_cases hlt : k < n
    · have k1 : (k : Int) < (n : Int) := by omega
      have k0 : (0 : Int) ≤ (k : Int) := by omega
      obtain ⟨b, o, Ar, Ar2, Ax, cr, cr2, cx, e1, hlb, hsh, hrw, _, c0, c1, c2, c3, c4, c5, c6⟩ := spots_at (HA.out.mono HL.out) hlt
      subst e1
      obtain ⟨b2, o2, Br, Br2, Bx, dr, dr2, dx, e2, hlb2, hsh2, hrw2, _, d0, d1, d2, d3, d4, d5, d6⟩ := spots_at (HB.out.mono HL.out) hlt
      subst e2
      have hsm := HS.out k hlt
      obtain ⟨y, hy⟩ : ∃ y, f k = y := ⟨_, rfl⟩
      rw [hy] at hsm hsh hrw c0 c1 c2 c3 c4 c5 c6 hsh2 hrw2 d0 d1 d2 d3 d4 d5 d6
      have HSM := Lib.hid hsm
      have HR1 := Lib.hid hrw
      have HR2 := Lib.hid hrw2
      have HSS := Lib.hid (fun (w' : World) (hb : Below wr.heap.size wr w') => (sameSh_any Ar Ar2 Br Br2 cr cr2 dr dr2 y.sh w' hsm.nr hsm.nf (hsh.mono hb) (hsh2.mono hb)))
      have hyn := hsm.n
      clear hsm hsh hrw hsh2 hrw2 hy
      go_wp2_with fail
      refine wp_region_quiet_below (by kernel_rfl) (by kernel_rfl) ?_
      repeat (go_big_quiet_step (((go_at_call 154; with_reducible exact Calls.regrown_of (HSS.out _ (below_regrown _ _ _))))))
      refine wpQuiet_nil ?_
      intro w9 hw9
      have hb9 := below_of_regrown hw9
      have HX9 := Lib.hid (bTrans HL.out hb9)
      have HD9 := Lib.hid hb9
      have e0 := (hb9.cell (p := ⟨b, o + k * 7 + 6, none⟩) hlb).trans c6
      have e1 := (hb9.cell (p := ⟨b2, o2 + k * 7 + 6, none⟩) hlb2).trans d6
      have hb' := Nat.lt_of_lt_of_le hlb hb9.size
      have hb2' := Nat.lt_of_lt_of_le hlb2 hb9.size
      have HE0 := Lib.hid e0
      have HE1 := Lib.hid e1
      clear hw9 hb9 c0 c1 c2 c3 c4 c5 c6 d0 d1 d2 d3 d4 d5 d6 hlb hlb2 HSS
      go_wp2_with fail
      clear e0 e1
      go_loopw [6] (fun s wy => ∃ j : Nat, j ≤ y.fl.n ∧ s = .int .i64 j ∧ Below w9.heap.size w9 wy) (fun s _ => y.fl.n - (intOf s).toNat)
      case atStart => exact ⟨0, Nat.zero_le _, rfl, Below.refl _ _⟩
      case round =>
        obtain ⟨j, hj, rfl, hbel⟩ := hrel
        have HYB := Lib.hid (bTrans HX9.out hbel)
        have HYD := Lib.hid (bTrans HD9.out hbel)
        have c0 := (hbel.cell (p := ⟨b, o + k * 7 + 6, none⟩) hb').trans HE0.out
        have d0 := (hbel.cell (p := ⟨b2, o2 + k * 7 + 6, none⟩) hb2').trans HE1.out
        have hbb := Nat.lt_of_lt_of_le hb' hbel.size
        have hbb2 := Nat.lt_of_lt_of_le hb2' hbel.size
        have HY := Lib.hid hbel
        clear hbel
        by_cases hlj : j < y.fl.n
        · have j1 : (j : Int) < (y.fl.n : Int) := by omega
          have j0 : (0 : Int) ≤ (j : Int) := by omega
          rcases HR1.out.mono HYD.out with h0 | ⟨b3, o3, e3, hb3, hc3⟩
          · omega
          obtain ⟨A3, a3, c3, hi3, hl3⟩ := hc3 j hlj
          subst e3
          rcases HR2.out.mono HYD.out with h0 | ⟨b4, o4, e4, hb4, hc4⟩
          · omega
          obtain ⟨A4, a4, c4, hi4, _⟩ := hc4 j hlj
          subst e4
          have HSI := Lib.hid (fun (w' : World) (hb : Below wr.heap.size wr w') => sameInts_t A3 A4 (y.fl.len j) a3 a4 (y.fl.fall j) w' hl3 (hi3.mono hb) (hi4.mono hb))
          clear hc3 hc4 hi3 hi4
          go_wp2_with fail
          refine wp_region_quiet_below (by kernel_rfl) (by kernel_rfl) ?_
          repeat (go_big_quiet_step (((go_at_call 32; with_reducible exact Calls.regrown_of (HSI.out _ (below_regrown _ _ _))))))
          refine wpQuiet_nil ?_
          intro w8 hw8
          have HY8 := Lib.hid (HY.out.trans ((below_of_regrown hw8).mono HY.out.size))
          clear hw8
          go_wp2_with fail
          go_roundw
          case rel =>
            refine ⟨j + 1, by omega, ?_, HY8.out⟩
            go_num
          case measure => simp [intOf]; omega
        · obtain rfl : j = y.fl.n := by omega
          have hk1 : ¬ ((y.fl.n : Int) < (y.fl.n : Int)) := by omega
          go_wp2_with fail
          go_roundw
          case rel =>
            refine ⟨k + 1, by omega, ?_, HYB.out⟩
            go_num
          case measure => simp [intOf]; omega
    · obtain rfl : k = n := by omega
      have hk1 : ¬ ((k : Int) < (k : Int)) := by omega
      go_wp2_with fail
      go_ret
      exact ⟨rfl, HL.out⟩
end Go.Proofs.YtjpfdhhiofjpbaaGreatDoor

namespace Go.Proofs.YtjpfdhhiofjpbaaGreatDoor
open Go.RowKit Go.Sort
set_option maxHeartbeats 8000000 in
set_option maxRecDepth 100000 in
theorem same9_any (Aw Af Ao Ap As : Option Addr) (cw cf co cp cs : Nat) (t : Pt) (Bw Bf Bo Bp Bs : Option Addr) (dw df do_ dp ds : Nat) (w : World) (hs : t.Small) (hT : PAt w Aw Af Ao Ap As t) (hU : PAt w Bw Bf Bo Bp Bs t) :
    Calls Tryz.prog 27 #[.agg #[.int .i64 t.q.wells, .slice Aw t.q.nw cw, .slice Af t.q.nf cf, .slice Ao t.no co, .slice Ap t.np cp, .slice As t.ns cs, .int .i64 t.far, .int .i64 t.harm, .int .i64 t.many], .agg #[.int .i64 t.q.wells, .slice Bw t.q.nw dw, .slice Bf t.q.nf df, .slice Bo t.no do_, .slice Bp t.np dp, .slice Bs t.ns ds, .int .i64 t.far, .int .i64 t.harm, .int .i64 t.many]] w fun e w' => e = .returned (.bool true) ∧ Below w.heap.size w w' := by
  have HD0 := Lib.hid (Below.refl w.heap.size w)
  have HSM := Lib.hid hs
  have HT0 := Lib.hid hT
  have HU0 := Lib.hid hU
  clear hs hT hU
  go_enter Tryz.func27, Tryz.ntmps27
  go_wp2_with fail
  refine (same5_any Aw Af Bw Bf cw cf dw df t.q _ HSM.out.q (HT0.out.mono (bAlloc (bAlloc (Below.refl _ _) (.cells #[.int .i64 t.q.wells, .slice Aw t.q.nw cw, .slice Af t.q.nf cf, .slice Ao t.no co, .slice Ap t.np cp, .slice As t.ns cs, .int .i64 t.far, .int .i64 t.harm, .int .i64 t.many] 29)) (.cells #[.int .i64 t.q.wells, .slice Bw t.q.nw dw, .slice Bf t.q.nf df, .slice Bo t.no do_, .slice Bp t.np dp, .slice Bs t.ns ds, .int .i64 t.far, .int .i64 t.harm, .int .i64 t.many] 29))).q (HU0.out.mono (bAlloc (bAlloc (Below.refl _ _) (.cells #[.int .i64 t.q.wells, .slice Aw t.q.nw cw, .slice Af t.q.nf cf, .slice Ao t.no co, .slice Ap t.np cp, .slice As t.ns cs, .int .i64 t.far, .int .i64 t.harm, .int .i64 t.many] 29)) (.cells #[.int .i64 t.q.wells, .slice Bw t.q.nw dw, .slice Bf t.q.nf df, .slice Bo t.no do_, .slice Bp t.np dp, .slice Bs t.ns ds, .int .i64 t.far, .int .i64 t.harm, .int .i64 t.many] 29))).q).mono ?_
  rintro e w1 ⟨rfl, hb⟩
  have hB1 : Below w.heap.size w w1 := bTrans (bAlloc (bAlloc (Below.refl _ _) (.cells #[.int .i64 t.q.wells, .slice Aw t.q.nw cw, .slice Af t.q.nf cf, .slice Ao t.no co, .slice Ap t.np cp, .slice As t.ns cs, .int .i64 t.far, .int .i64 t.harm, .int .i64 t.many] 29)) (.cells #[.int .i64 t.q.wells, .slice Bw t.q.nw dw, .slice Bf t.q.nf df, .slice Bo t.no do_, .slice Bp t.np dp, .slice Bs t.ns ds, .int .i64 t.far, .int .i64 t.harm, .int .i64 t.many] 29)) hb
  have HD1 := Lib.hid (bTrans HD0.out hB1)
  have HT1 := Lib.hid (HT0.out.mono hB1)
  have HU1 := Lib.hid (HU0.out.mono hB1)
  have T1 := Lib.hid (show TBox w1 w.heap.size 29 #[.int .i64 t.q.wells, .slice Aw t.q.nw cw, .slice Af t.q.nf cf, .slice Ao t.no co, .slice Ap t.np cp, .slice As t.ns cs, .int .i64 t.far, .int .i64 t.harm, .int .i64 t.many] from by have := ((TBox.new w #[.int .i64 t.q.wells, .slice Aw t.q.nw cw, .slice Af t.q.nf cf, .slice Ao t.no co, .slice Ap t.np cp, .slice As t.ns cs, .int .i64 t.far, .int .i64 t.harm, .int .i64 t.many] 29).mono (bAlloc (Below.refl _ _) (.cells #[.int .i64 t.q.wells, .slice Bw t.q.nw dw, .slice Bf t.q.nf df, .slice Bo t.no do_, .slice Bp t.np dp, .slice Bs t.ns ds, .int .i64 t.far, .int .i64 t.harm, .int .i64 t.many] 29))).mono hb; simpa using this)
  have U1 := Lib.hid (show TBox w1 (w.heap.size + 1) 29 #[.int .i64 t.q.wells, .slice Bw t.q.nw dw, .slice Bf t.q.nf df, .slice Bo t.no do_, .slice Bp t.np dp, .slice Bs t.ns ds, .int .i64 t.far, .int .i64 t.harm, .int .i64 t.many] from by have := ((TBox.new (w.alloc (.cells #[.int .i64 t.q.wells, .slice Aw t.q.nw cw, .slice Af t.q.nf cf, .slice Ao t.no co, .slice Ap t.np cp, .slice As t.ns cs, .int .i64 t.far, .int .i64 t.harm, .int .i64 t.many] 29)) #[.int .i64 t.q.wells, .slice Bw t.q.nw dw, .slice Bf t.q.nf df, .slice Bo t.no do_, .slice Bp t.np dp, .slice Bs t.ns ds, .int .i64 t.far, .int .i64 t.harm, .int .i64 t.many] 29).mono (Below.refl _ _)).mono hb; simpa using this)
  clear hb hB1 HD0 HT0 HU0
  obtain ⟨T_0, T_1, T_2, T_3, T_4, T_5, T_6, T_7, T_8, T_l⟩ := T1.out.c9
  obtain ⟨U_0, U_1, U_2, U_3, U_4, U_5, U_6, U_7, U_8, U_l⟩ := U1.out.c9
  go_wp2_with fail
  refine (sameInts_t Ao Bo t.no co do_ t.old _ HSM.out.no HT1.out.old HU1.out.old).mono ?_
  rintro e w2 ⟨rfl, hb⟩
  have hB2 : Below w1.heap.size w1 w2 := bTrans (Below.refl _ _) hb
  have HD2 := Lib.hid (bTrans HD1.out hB2)
  have HT2 := Lib.hid (HT1.out.mono hB2)
  have HU2 := Lib.hid (HU1.out.mono hB2)
  have T2 := Lib.hid (T1.out.mono hB2)
  have U2 := Lib.hid (U1.out.mono hB2)
  clear hb hB2 HD1 HT1 HU1 T1 T_0 T_1 T_2 T_3 T_4 T_5 T_6 T_7 T_8 T_l U1 U_0 U_1 U_2 U_3 U_4 U_5 U_6 U_7 U_8 U_l
  obtain ⟨T_0, T_1, T_2, T_3, T_4, T_5, T_6, T_7, T_8, T_l⟩ := T2.out.c9
  obtain ⟨U_0, U_1, U_2, U_3, U_4, U_5, U_6, U_7, U_8, U_l⟩ := U2.out.c9
  go_wp2_with fail
  refine (sameInts_t Ap Bp t.np cp dp t.pence _ HSM.out.np HT2.out.pence HU2.out.pence).mono ?_
  rintro e w3 ⟨rfl, hb⟩
  have hB3 : Below w2.heap.size w2 w3 := bTrans (Below.refl _ _) hb
  have HD3 := Lib.hid (bTrans HD2.out hB3)
  have HT3 := Lib.hid (HT2.out.mono hB3)
  have HU3 := Lib.hid (HU2.out.mono hB3)
  have T3 := Lib.hid (T2.out.mono hB3)
  have U3 := Lib.hid (U2.out.mono hB3)
  clear hb hB3 HD2 HT2 HU2 T2 T_0 T_1 T_2 T_3 T_4 T_5 T_6 T_7 T_8 T_l U2 U_0 U_1 U_2 U_3 U_4 U_5 U_6 U_7 U_8 U_l
  obtain ⟨T_0, T_1, T_2, T_3, T_4, T_5, T_6, T_7, T_8, T_l⟩ := T3.out.c9
  obtain ⟨U_0, U_1, U_2, U_3, U_4, U_5, U_6, U_7, U_8, U_l⟩ := U3.out.c9
  go_wp2_with fail
  refine (sameSpots9_any As Bs t.ns cs ds t.spot _ HSM.out.ns HSM.out.spot HT3.out.spots HU3.out.spots).mono ?_
  rintro e w4 ⟨rfl, hb⟩
  have hB4 : Below w3.heap.size w3 w4 := bTrans (Below.refl _ _) hb
  have HD4 := Lib.hid (bTrans HD3.out hB4)
  have HT4 := Lib.hid (HT3.out.mono hB4)
  have HU4 := Lib.hid (HU3.out.mono hB4)
  have T4 := Lib.hid (T3.out.mono hB4)
  have U4 := Lib.hid (U3.out.mono hB4)
  clear hb hB4 HD3 HT3 HU3 T3 T_0 T_1 T_2 T_3 T_4 T_5 T_6 T_7 T_8 T_l U3 U_0 U_1 U_2 U_3 U_4 U_5 U_6 U_7 U_8 U_l
  obtain ⟨T_0, T_1, T_2, T_3, T_4, T_5, T_6, T_7, T_8, T_l⟩ := T4.out.c9
  obtain ⟨U_0, U_1, U_2, U_3, U_4, U_5, U_6, U_7, U_8, U_l⟩ := U4.out.c9
  go_wp2_with fail
  go_ret
  exact ⟨rfl, HD4.out⟩
end Go.Proofs.YtjpfdhhiofjpbaaGreatDoor

namespace Go.Proofs.YtjpfdhhiofjpbaaGreatDoor
open Go.RowKit Go.Sort
theorem dst_comm (a b : Int) : dst a b = dst b a := by unfold dst; omega
/-! ### errors -/
/-! ### what each function returns -/
end Go.Proofs.YtjpfdhhiofjpbaaGreatDoor

namespace Go.Proofs.YtjpfdhhiofjpbaaGreatDoor
open Go.RowKit Go.Sort Go.Shelf
attribute [local go_sem] Oper.semAt_some
set_option maxHeartbeats 8000000 in
set_option maxRecDepth 100000 in
theorem freeP_any (Aw Af Ao Ap As : Option Addr) (cw cf co cp cs : Nat) (t : Pt) (w : World) (hs : t.Small) (hT : PAt w Aw Af Ao Ap As t) (hB : TabAt w) (hN : NoneAt w) :
    Calls Tryz.prog 33 #[.agg #[.int .i64 t.q.wells, .slice Aw t.q.nw cw, .slice Af t.q.nf cf, .slice Ao t.no co, .slice Ap t.np cp, .slice As t.ns cs, .int .i64 t.far, .int .i64 t.harm, .int .i64 t.many]] w fun e w' => NumsOut w' w.heap.size (t.knowErr true) t.frees e ∧ Below w.heap.size w w' := by
  have hb0 := bAlloc (Below.refl w.heap.size w) (.cells #[.int .i64 t.q.wells, .slice Aw t.q.nw cw, .slice Af t.q.nf cf, .slice Ao t.no co, .slice Ap t.np cp, .slice As t.ns cs, .int .i64 t.far, .int .i64 t.harm, .int .i64 t.many] 29)
  have HT := Lib.hid (hT.mono hb0)
  have HTB := Lib.hid (hB.mono hb0)
  have HNA := Lib.hid (hN.mono hb0)
  have HB0 := Lib.hid hb0
  have HSM := Lib.hid hs
  obtain ⟨er, her⟩ : ∃ v, t.knowErr true = v := ⟨_, rfl⟩
  have HER := Lib.hid her
  rw [her]
  clear hs hT hB hN hb0 her
  refine (callsIn_wide (n := 7)).1 ?_
  refine callsIn_of_wp_marks Tryz.func33 rfl trivial ?_ rfl
  simp only [Tryz.ntmps33, List.size_toArray, List.length_cons, List.length_nil, Nat.reduceAdd, Nat.reduceSub, Array.replicate_succ, Array.replicate_zero, List.push_toArray, List.append_toArray, List.nil_append, List.cons_append]
  gi_wp2
  refine ⟨trivial, (callsIn_wide.2 (openP_any Aw Af Ao Ap As cw cf co cp cs t true _ HSM.out HT.out HTB.out)).mono ?_⟩
  rintro e w1 ⟨ho, hb1⟩
  rw [HER.out] at ho
  have HB1 := Lib.hid (bTrans HB0.out hb1)
  have hz1 := hb1.size
  simp only [World.size_alloc] at hz1
  by_cases he : er = 0
  case neg =>
    obtain rfl := ho.1 he
    have g0 : (er != 0) = true := by simp [he]
    have HZ := Lib.hid he
    clear ho he hb1
    gi_wp2
    exact ⟨_, results_tmp2 rfl _ _ _, ⟨fun h => absurd h HZ.out, fun _ => rfl⟩, HB1.out⟩
  subst he
  obtain ⟨ok, _, _⟩ := Pt.knowErr_zero HER.out
  obtain ⟨C, Al, cl, rfl, hst, _⟩ := ho.2 rfl
  have HNA1 := Lib.hid (HNA.out.mono hb1)
  have hb2 : Below w1.heap.size w1 (w1.alloc (.cells #[.slice none 0 0] 26)) := bAlloc (Below.refl _ _) _
  have HSEQ := Lib.hid (free_seq 6 C Aw Af Ao Ap As cw cf co cp cs t Al cl w1 (w1.alloc (.cells #[.slice none 0 0] 26)) (by decide) hst HNA1.out hb2 ok HSM.out)
  have HB2 := Lib.hid hb2
  have hlen : t.frees.length ≤ 100 := by
    have := selTo_len t.freeB t.ns
    have := ok.ns
    unfold Pt.frees
    omega
  have HLEN := Lib.hid hlen
  clear ho hst ok hb2 hlen hb1
  gi_wp2
  refine wpIn_range_caps (gf := 104) (bnd := #[.pointer (some ⟨C, 0, none⟩)]) (lb := #[]) rfl (by decide) rfl trivial (enters_of Tryz.func104 (by kernel_rfl)) HSEQ.out below_chain (fun W l o o' hl _ _ => below_putB (Below.refl _ _) (by simp at hl; omega) _) (fun _ => rfl)
    (fun pre W => (∃ v, Boxed W w1.heap.size 26 v ∧ W.ownsRow (w1.heap.size + 1) 3 1 v pre.length (intE.cells pre) ∧ True) ∧ Below w1.heap.size w1 W)
    (fun c pre W => False)
    (OwnFrom.and (Own.from (holdsRow_own (w1.heap.size + 1) w1.heap.size 26 3 1 List.length intE.cells (fun _ _ => True)) _) (ownFrom_below (Nat.le_refl _) (by simp)))
    (fun c _ _ _ _ hs _ _ => hs)
    ⟨⟨_, Boxed.new w1 _ _, World.ownsRow_nil _ _ _ _, trivial⟩, HB2.out⟩
    (fun x a' W => ∃ u0 u1 u2 u3 u4 u5 u8 u9 u10 u11 u12 u13 u14 u15 u16 u17 u18 u19 u20 u21 u22 u23 u24, a' = { tmps := #[u0, u1, u2, u3, u4, u5, .pointer (some ⟨w1.heap.size, 0, none⟩), .int .i64 x, u8, u9, u10, u11, u12, u13, u14, u15, u16, u17, u18, u19, u20, u21, u22, u23, u24], defers := [] })
    (fun x a' _ X Y row hs hg hr => hs) ?assign ?body ?done ?stop
  case assign =>
    rintro l pre x W K hsz hI hK
    simp only [encF]
    gi_wp2
    exact hK _ _ (KeepsFrom.refl _ _) (Below.refl _ _) hI ⟨_, _, _, _, _, _, _, _, _, _, _, _, _, _, _, _, _, _, _, _, _, _, _, rfl⟩
  case body =>
    rintro l pre x a' W hsz ⟨⟨v, hv, hrow, _⟩, hbel⟩ ⟨u0, u1, u2, u3, u4, u5, u8, u9, u10, u11, u12, u13, u14, u15, u16, u17, u18, u19, u20, u21, u22, u23, u24, rfl⟩ hlen
    have HBL := Lib.hid hbel
    have HV := Lib.hid hv
    have HR := Lib.hid (show OwnE intE W (w1.heap.size + 1) v pre from hrow)
    have hpl : pre.length ≤ 100 := by
      have h1 := hlen.length_le
      rw [List.length_append] at h1
      have := HLEN.out
      omega
    have y0 := hv.cell
    have y1 := hv.frozen
    have z0 := hv.lt
    simp only [World.size_alloc] at hsz
    clear hbel hrow hlen hv
    gi_wp2_with (gi_at_builtin; refine wpListIn_snocE intG _ rfl (Operand.tmp 20) (Operand.tmp 22) rfl (w1.heap.size + 1) v pre x rfl ?q1 W.heap.size rfl ?q2 ?q3 ?q4 ?_)
    case q1 => exact HR.out.mono (bAlloc (Below.refl _ _) _)
    case q2 =>
      intro a u hu
      match a, hu with
      | 0, hu =>
        obtain rfl : Value.int .i64 x = u := by simpa [intE] using hu
        simp [go_sem]
    case q3 => omega
    case q4 => simp; omega
    intro v' w5 hown5 hb5 hg5
    have HB5 := Lib.hid (hb5 w1.heap.size w1 (by omega) (bAlloc HBL.out _))
    have hrowA : World.ownsRow (W.alloc (.cells #[.int .i64 x] 3)) (w1.heap.size + 1) 3 1 v pre.length (intE.cells pre) := owns_below HR.out (bAlloc (Below.refl _ _) _)
    have hv5 := (HV.out.alloc (.cells #[.int .i64 x] 3)).kept hg5 (Boxed.not_row (e := 3) (HV.out.alloc _) (by decide) hrowA)
    clear hrowA
    obtain ⟨g5, c5, rfl⟩ := owns_some hown5 (by simp)
    obtain ⟨n5, hn5⟩ : ∃ n5, (pre ++ [x]).length = n5 := ⟨_, rfl⟩
    rw [hn5] at hown5 ⊢
    clear hn5
    have HV5 := Lib.hid hv5
    have HO5 := Lib.hid hown5
    have HG5 := Lib.hid hg5
    have y5 := hv5.cell
    have y6 := hv5.frozen
    have z5 := hv5.lt
    have hz5 := hg5.size
    simp only [World.size_alloc] at hz5
    clear hb5 hg5 hv5 hown5 y0 y1
    gi_wp2
    have hbN : Below w1.heap.size w1 (w5.setCell ⟨w1.heap.size, 0, none⟩ (.slice (some ⟨g5, 0, none⟩) n5 c5)) := Below.setCell (p := ⟨w1.heap.size, 0, none⟩) HB5.out (Nat.le_refl _) _
    refine ⟨?_, ⟨hbN.os.trans HBL.out.os.symm, hbN.tape.trans HBL.out.tape.symm, hbN.output.trans HBL.out.output.symm, by simp [World.setCell]; omega, fun k hk => (hbN.block k hk).trans (HBL.out.block k hk).symm⟩, ⟨⟨_, HV5.out.set _, HO5.out.set (b := w1.heap.size) (by omega) 0 _, trivial⟩, hbN⟩⟩
    refine ((keeps_below (bAlloc (Below.refl W.heap.size W) _)).trans ((KeepsOthers.of_grownBy HG5.out fun r ob e hob => ?_).from _)).trans ((KeepsOthers.setCell _ _ _).from _)
    obtain ⟨_, cur, hcur⟩ := owns_typed (owns_below HR.out (bAlloc (Below.refl _ _) (.cells #[.int .i64 x] 3))) r e
    rw [hcur] at hob
    injection hob with hob
    rw [← hob]
    rfl
  case done =>
    rintro D xs W hD hxs ⟨⟨v, hv, hrow, _⟩, hbel⟩ hK
    have HBL := Lib.hid hbel
    have HV := Lib.hid hv
    have HR := Lib.hid (show W.ownsRow (w1.heap.size + 1) 3 1 v t.frees.length (numL t.frees) by rw [← intE_cells, ← hxs]; exact hrow)
    have y0 := hv.cell
    clear hbel hv hrow hxs
    gi_wp2
    refine ⟨by simp, .inl ⟨_, _, rfl, run_takeDeferred hK, ?_⟩⟩
    simp only [World.size_alloc] at hD
    exact ⟨_, results_tmp2 rfl _ _ _, ⟨fun _ => ⟨v, rfl, owns_lower (ownsRow_putObj HR.out _ hK rfl) (by omega)⟩, fun h => absurd rfl h⟩, bTrans HB1.out (below_put HBL.out (by have := HV.out.lt; omega) (by omega) _)⟩
  case stop =>
    rintro D c pre W _ _ h _
    exact h.elim
end Go.Proofs.YtjpfdhhiofjpbaaGreatDoor

namespace Go.Proofs.YtjpfdhhiofjpbaaGreatDoor
open Go.RowKit Go.Sort
theorem cheap_bd {t : Pt} (ok : t.Ok) {s : Nat} (hs : s < t.ns) : 0 ≤ (t.cheap s).1 ∧ (t.cheap s).1 ≤ 4968 := cheapOut_bd (ok.spot s hs).sh
theorem Pt.m_no {t : Pt} (ok : t.Ok) : t.m = t.no := by have := ok.no; unfold Pt.m; omega
/-! ### towns in which less is forbidden -/
section
variable {o t : Pt} (h : Looser o t)
include h
end
/-! ### towns that are alike -/
section
variable {o t : Pt} (h : Twin o t)
include h
end
/-! ### pairs -/
end Go.Proofs.YtjpfdhhiofjpbaaGreatDoor

namespace Go.Proofs.YtjpfdhhiofjpbaaGreatDoor
open Go.RowKit Go.Sort
theorem selTo_nilQ {p : Nat → Bool} : ∀ {n : Nat}, selTo p n = [] ↔ anyB p n = false
  | 0 => by simp [selTo, anyB]
  | n + 1 => by
    have ih := selTo_nilQ (p := p) (n := n)
    unfold selTo anyB
    cases h : p n
    · simp [ih]
    · simp
end Go.Proofs.YtjpfdhhiofjpbaaGreatDoor

namespace Go.Proofs.YtjpfdhhiofjpbaaGreatDoor
open Go.RowKit Go.Sort
/-! ### one fact more -/
/-! ### the looser law -/
/-! ### the street, seen from the other end -/
/-! ### one spot more -/
/-! ### the least harm -/
theorem anyFree_frees {t : Pt} : t.anyFree = decide (0 < t.frees.length) := by
  refine Bool.eq_iff_iff.2 ?_
  rw [decide_eq_true_eq, List.length_pos_iff]
  unfold Pt.frees
  rw [Ne, selTo_nilQ]
  unfold Pt.anyFree
  simp
end Go.Proofs.YtjpfdhhiofjpbaaGreatDoor

namespace Go.Proofs.YtjpfdhhiofjpbaaGreatDoor
open Go.RowKit Go.Sort
theorem dist9_any (a b : Int) (w : World) (ha : 0 ≤ a ∧ a ≤ 99) (hb : 0 ≤ b ∧ b ≤ 99) : Calls Tryz.prog 58 #[.int .i64 a, .int .i64 b] w fun e w' => e = .returned (.int .i64 (dst a b)) ∧ Below w.heap.size w w' := by
  have h1 : IntKind.i64.wrap (a - b) = a - b := IntWalk.i64_in _ (by omega)
  have h2 : IntKind.i64.wrap (b - a) = b - a := IntWalk.i64_in _ (by omega)
  obtain ⟨u, hu⟩ : ∃ u, (if a - b < b - a then b - a else a - b) = u := ⟨_, rfl⟩
  have HU := Lib.hid (show dst a b = u by rw [← hu]; unfold dst; split <;> omega)
  clear ha hb
  go_enter Tryz.func58, Tryz.ntmps58
  go_wp2_with fail
  go_ret
  exact ⟨by rw [HU.out]; rfl, Below.refl _ _⟩
set_option maxHeartbeats 4000000 in
set_option maxRecDepth 100000 in
theorem ask9_any (Aw Af Ao Ap As : Option Addr) (cw cf co cp cs : Nat) (t : Pt) (is : Bool) (w : World) (hs : t.Small) (hT : PAt w Aw Af Ao Ap As t) :
    Calls Tryz.prog 89 #[.agg #[.int .i64 t.q.wells, .slice Aw t.q.nw cw, .slice Af t.q.nf cf, .slice Ao t.no co, .slice Ap t.np cp, .slice As t.ns cs, .int .i64 t.far, .int .i64 t.harm, .int .i64 t.many], .bool is] w fun e w' => e = .returned (.int .i64 (t.askErr is)) ∧ Below w.heap.size w w' := by
  have HD0 := Lib.hid (Below.refl w.heap.size w)
  have HSM := Lib.hid hs
  have HT0 := Lib.hid hT
  clear hs hT
  go_enter Tryz.func89, Tryz.ntmps89
  go_wp2_with fail
  refine (check9_any Aw Af Ao Ap As cw cf co cp cs t _ HSM.out (HT0.out.mono (bAlloc (Below.refl _ _) (.cells #[.int .i64 t.q.wells, .slice Aw t.q.nw cw, .slice Af t.q.nf cf, .slice Ao t.no co, .slice Ap t.np cp, .slice As t.ns cs, .int .i64 t.far, .int .i64 t.harm, .int .i64 t.many] 29)))).mono ?_
  rintro e w1 ⟨rfl, hb⟩
  have hB1 : Below w.heap.size w w1 := bTrans (bAlloc (Below.refl _ _) (.cells #[.int .i64 t.q.wells, .slice Aw t.q.nw cw, .slice Af t.q.nf cf, .slice Ao t.no co, .slice Ap t.np cp, .slice As t.ns cs, .int .i64 t.far, .int .i64 t.harm, .int .i64 t.many] 29)) hb
  have HD1 := Lib.hid (bTrans HD0.out hB1)
  have HT1 := Lib.hid (HT0.out.mono hB1)
  have T1 := Lib.hid (show TBox w1 w.heap.size 29 #[.int .i64 t.q.wells, .slice Aw t.q.nw cw, .slice Af t.q.nf cf, .slice Ao t.no co, .slice Ap t.np cp, .slice As t.ns cs, .int .i64 t.far, .int .i64 t.harm, .int .i64 t.many] from by have := ((TBox.new w #[.int .i64 t.q.wells, .slice Aw t.q.nw cw, .slice Af t.q.nf cf, .slice Ao t.no co, .slice Ap t.np cp, .slice As t.ns cs, .int .i64 t.far, .int .i64 t.harm, .int .i64 t.many] 29).mono (Below.refl _ _)).mono hb; simpa using this)
  clear hb hB1 HD0 HT0
  obtain ⟨T_0, T_1, T_2, T_3, T_4, T_5, T_6, T_7, T_8, T_l⟩ := T1.out.c9
  by_cases hok : t.Ok
  case neg =>
    have HE := Lib.hid (Pt.askErr_bad hok is)
    rw [Pt.err_bad hok]
    clear hok
    go_wp2_with fail
    go_ret
    exact ⟨by rw [HE.out]; rfl, HD1.out⟩
  rw [Pt.err_ok hok]
  have HOK := Lib.hid hok
  clear hok
  cases is
  · skip
    have HE := Lib.hid (Pt.askErr_arg HOK.out)
    go_wp2_with fail
    go_ret
    exact ⟨by rw [HE.out]; rfl, HD1.out⟩
  · skip
    have HE := Lib.hid (Pt.askErr_ok HOK.out)
    go_wp2_with fail
    go_ret
    exact ⟨by rw [HE.out]; rfl, HD1.out⟩
end Go.Proofs.YtjpfdhhiofjpbaaGreatDoor

namespace Go.Proofs.YtjpfdhhiofjpbaaGreatDoor
open Go.RowKit Go.Sort
section
variable {P : Program} {ops : Array Oper} {md : Region.Mode}
attribute [go_sem] Oper.stirAt Oper.stirUpon
end
theorem AtHand.mono {N : Nat} {e : TypeId} {size n : Nat} {xs : List Value} {w w' : World} {v : Value} (hb : Below w.heap.size w w') (h : AtHand N e size n xs w v) : AtHand N e size n xs w' v :=
  h.imp id fun h => ⟨h.1, owns_below h.2 hb⟩
end Go.Proofs.YtjpfdhhiofjpbaaGreatDoor


namespace Go.Proofs.YtjpfdhhiofjpbaaGreatDoor
open Go.RowKit Go.Sort
/-- from the depth a the next ring can be at d -/
def Sh.okStep (S : Sh) (a d : Nat) : Prop := a < d ∧ d ≤ S.falls a ∧ S.restsB d = true
/-- stops from the depth a on to the bottom -/
def Sh.Chain (S : Sh) : Nat → List Nat → Prop
  | a, [] => a = S.nf
  | a, d :: l => S.okStep a d ∧ S.Chain d l
def costL (c : Nat → Int) : List Nat → Int
  | [] => 0
  | d :: l => c d + costL c l
theorem costL_one (l : List Nat) : costL (fun _ => 1) l = l.length := by
  induction l with
  | nil => rfl
  | cons d l ih => simp only [costL, ih, List.length_cons]; omega
theorem Sh.Chain.len {S : Sh} : ∀ {l : List Nat} {a : Nat}, S.Chain a l → a + l.length ≤ S.nf
  | [], a, h => by simp only [Sh.Chain] at h; simp; omega
  | d :: l, a, h => by have := Sh.Chain.len h.2; have := h.1.1; simp; omega
/-- what a comparison goes by -/
structure Meas (S : Sh) (lt : Way → Way → Bool) (μ : Way → Int) (c : Nat → Int) : Prop where
  iff : ∀ x y, lt x y = true ↔ μ x < μ y
  to : ∀ x d, μ (S.wayTo x d) = μ x + c d
  zero : μ ⟨0, 0, 0⟩ = 0
theorem measR (S : Sh) : Meas S ltR Way.rings (fun _ => 1) := ⟨fun x y => by simp [ltR], fun x d => rfl, rfl⟩
theorem measP (S : Sh) : Meas S ltP Way.pence S.ringc := ⟨fun x y => by simp [ltP], fun x d => rfl, rfl⟩
theorem wayTo_ne {S : Sh} {x : Way} {d : Nat} (h : 0 < d) : S.wayTo x d ≠ noWay := fun e => by
  have : (S.wayTo x d).next = noWay.next := by rw [e]
  simp only [Sh.wayTo, noWay] at this
  omega
/-- a depth that can be gone to -/
def Sh.cand (S : Sh) (prev : Nat → Way) (n : Nat) : Prop := prev n ≠ noWay ∧ S.restsB n = true
theorem look_no {S : Sh} {lt : Way → Way → Bool} {prev : Nat → Way} {cur : Way} {n : Nat} (h : ¬ S.cand prev n) : S.look lt prev cur n = cur := by
  unfold Sh.look
  rw [if_pos]
  unfold Sh.cand at h
  by_cases h1 : prev n = noWay
  · exact .inl h1
  · refine .inr ?_
    cases e : S.restsB n
    · rfl
    · exact absurd ⟨h1, e⟩ h
theorem look_yes {S : Sh} {lt : Way → Way → Bool} {μ : Way → Int} {c : Nat → Int} (M : Meas S lt μ c) {prev : Nat → Way} {cur : Way} {n : Nat} (h : S.cand prev n) :
    (S.look lt prev cur n = S.wayTo (prev n) n ∧ (cur = noWay ∨ μ (prev n) + c n < μ cur)) ∨ (S.look lt prev cur n = cur ∧ cur ≠ noWay ∧ ¬ μ (prev n) + c n < μ cur) := by
  unfold Sh.look
  rw [if_neg (by rintro (h1 | h1); exact h.1 h1; rw [h.2] at h1; cases h1)]
  by_cases h2 : cur = noWay
  · exact .inl ⟨if_pos (.inl h2), .inl h2⟩
  · by_cases h3 : μ (prev n) + c n < μ cur
    · exact .inl ⟨if_pos (.inr ((M.iff _ _).2 (by rw [M.to]; exact h3))), .inr h3⟩
    · exact .inr ⟨if_neg (by rintro (h4 | h4); exact h2 h4; exact h3 (by rw [← M.to]; exact (M.iff _ _).1 h4)), h2, h3⟩
structure LookSpec (S : Sh) (μ : Way → Int) (c : Nat → Int) (prev : Nat → Way) (d m : Nat) (r : Way) : Prop where
  from_ : r = prev d ∨ ∃ j, j < m ∧ S.cand prev (d + 1 + j) ∧ r = S.wayTo (prev (d + 1 + j)) (d + 1 + j)
  keep : prev d ≠ noWay → r ≠ noWay ∧ μ r ≤ μ (prev d)
  best : ∀ j, j < m → S.cand prev (d + 1 + j) → r ≠ noWay ∧ μ r ≤ μ (prev (d + 1 + j)) + c (d + 1 + j)
  first : prev d = noWay → ∀ j, j < m → S.cand prev (d + 1 + j) → μ r = μ (prev (d + 1 + j)) + c (d + 1 + j) → r.next ≤ (d + 1 + j : Nat)
  stay : prev d ≠ noWay → (∀ j, j < m → S.cand prev (d + 1 + j) → ¬ μ (prev (d + 1 + j)) + c (d + 1 + j) < μ (prev d)) → r = prev d
theorem lookTo_spec {S : Sh} {lt : Way → Way → Bool} {μ : Way → Int} {c : Nat → Int} (M : Meas S lt μ c) (prev : Nat → Way) (d : Nat) : ∀ m, LookSpec S μ c prev d m (S.lookTo lt prev d m)
  | 0 => ⟨.inl rfl, fun h => ⟨h, Int.le_refl _⟩, fun j hj => by omega, fun _ j hj => by omega, fun _ _ => rfl⟩
  | m + 1 => by
    obtain ⟨h1, h2, h3, h4, h5⟩ := lookTo_spec M prev d m
    show LookSpec S μ c prev d (m + 1) (S.look lt prev (S.lookTo lt prev d m) (d + 1 + m))
    generalize S.lookTo lt prev d m = cur at h1 h2 h3 h4 h5
    by_cases hc : S.cand prev (d + 1 + m)
    · rcases look_yes M (cur := cur) hc with ⟨e, hlt⟩ | ⟨e, hne, hnl⟩
      · rw [e]
        have hμ : μ (S.wayTo (prev (d + 1 + m)) (d + 1 + m)) = μ (prev (d + 1 + m)) + c (d + 1 + m) := M.to _ _
        have hne : S.wayTo (prev (d + 1 + m)) (d + 1 + m) ≠ noWay := wayTo_ne (by omega)
        refine ⟨.inr ⟨m, by omega, hc, rfl⟩, fun h => ⟨hne, ?_⟩, fun j hj hcj => ⟨hne, ?_⟩, fun h0 j hj hcj he => ?_, fun h h' => ?_⟩
        · obtain ⟨g1, g2⟩ := h2 h
          rcases hlt with hlt | hlt
          · exact absurd hlt g1
          · omega
        · rcases Nat.lt_or_ge j m with hj2 | hj2
          · obtain ⟨g1, g2⟩ := h3 j hj2 hcj
            rcases hlt with hlt | hlt
            · exact absurd hlt g1
            · omega
          · obtain rfl : j = m := by omega
            omega
        · rcases Nat.lt_or_ge j m with hj2 | hj2
          · obtain ⟨g1, g2⟩ := h3 j hj2 hcj
            rcases hlt with hlt | hlt
            · exact absurd hlt g1
            · omega
          · simp only [Sh.wayTo]; omega
        · obtain ⟨g1, g2⟩ := h2 h
          rcases hlt with hlt | hlt
          · exact absurd hlt g1
          · have h6 := h5 h (fun j hj => h' j (by omega))
            rw [h6] at hlt
            exact absurd hlt (h' m (by omega) hc)
      · rw [e]
        refine ⟨h1.imp id (fun ⟨j, hj, h⟩ => ⟨j, by omega, h⟩), h2, fun j hj hcj => ?_, fun h0 j hj hcj he => ?_, fun h h' => h5 h (fun j hj => h' j (by omega))⟩
        · rcases Nat.lt_or_ge j m with hj2 | hj2
          · exact h3 j hj2 hcj
          · obtain rfl : j = m := by omega
            exact ⟨hne, by omega⟩
        · rcases Nat.lt_or_ge j m with hj2 | hj2
          · exact h4 h0 j hj2 hcj he
          · rcases h1 with h1 | ⟨i, hi, hci, hr⟩
            · exact absurd (h1.trans h0) hne
            · rw [hr]; simp only [Sh.wayTo]; omega
    · rw [look_no hc]
      refine ⟨h1.imp id (fun ⟨j, hj, h⟩ => ⟨j, by omega, h⟩), h2, fun j hj hcj => ?_, fun h0 j hj hcj he => ?_, fun h h' => h5 h (fun j hj => h' j (by omega))⟩
      · rcases Nat.lt_or_ge j m with hj2 | hj2
        · exact h3 j hj2 hcj
        · obtain rfl : j = m := by omega
          exact absurd hcj hc
      · rcases Nat.lt_or_ge j m with hj2 | hj2
        · exact h4 h0 j hj2 hcj he
        · obtain rfl : j = m := by omega
          exact absurd hcj hc
section
variable {S : Sh} {lt : Way → Way → Bool} {μ : Way → Int} {c : Nat → Int}
theorem waysOf_end (k : Nat) : S.waysOf lt k S.nf = ⟨0, 0, 0⟩ := by
  induction k with
  | zero => unfold Sh.waysOf; rw [if_pos rfl]
  | succ k ih => show S.moreWays lt _ _ = _; unfold Sh.moreWays; rw [if_neg (by omega)]; exact ih
theorem waysOf_step (M : Meas S lt μ c) (k : Nat) {d : Nat} (hd : d < S.nf) : LookSpec S μ c (S.waysOf lt k) d (S.falls d - d) (S.waysOf lt (k + 1) d) := by
  have := lookTo_spec M (S.waysOf lt k) d (S.falls d - d)
  show LookSpec S μ c (S.waysOf lt k) d (S.falls d - d) (S.moreWays lt (S.waysOf lt k) d)
  unfold Sh.moreWays
  rwa [if_pos hd]
/-- where a way that is kept comes from -/
theorem waysOf_from (M : Meas S lt μ c) : ∀ k d, d < S.nf → S.waysOf lt k d ≠ noWay → ∃ j n, j < k ∧ S.okStep d n ∧ S.waysOf lt j n ≠ noWay ∧ S.waysOf lt k d = S.wayTo (S.waysOf lt j n) n
  | 0, d, hd, h => by
    unfold Sh.waysOf at h
    rw [if_neg (by omega)] at h
    exact absurd rfl h
  | k + 1, d, hd, h => by
    have hf := S.falls_bd (Nat.le_of_lt hd)
    rcases (waysOf_step M k hd).from_ with h1 | ⟨j, hj, hc, h1⟩
    · rw [h1] at h
      obtain ⟨j, n, g1, g2, g3, g4⟩ := waysOf_from M k d hd h
      exact ⟨j, n, by omega, g2, g3, h1.trans g4⟩
    · exact ⟨k, d + 1 + j, by omega, ⟨by omega, by omega, hc.2⟩, hc.1, h1⟩
theorem waysOf_sound (M : Meas S lt μ c) : ∀ k d, d ≤ S.nf → S.waysOf lt k d ≠ noWay → ∃ l, S.Chain d l ∧ l.length ≤ k ∧ (S.waysOf lt k d).rings = l.length ∧ μ (S.waysOf lt k d) = costL c l := by
  intro k
  induction k using Nat.strongRecOn with
  | _ k ih =>
    intro d hd h
    rcases Nat.eq_or_lt_of_le hd with e | e
    · subst e
      exact ⟨[], rfl, Nat.zero_le _, by rw [waysOf_end]; rfl, by rw [waysOf_end, M.zero]; rfl⟩
    · obtain ⟨j, n, h1, h2, h3, h4⟩ := waysOf_from M k d e h
      have hf := S.falls_bd hd
      obtain ⟨l, g1, g2, g3, g4⟩ := ih j h1 n (by have := h2.2.1; omega) h3
      refine ⟨n :: l, ⟨h2, g1⟩, by simp; omega, by rw [h4]; simp only [Sh.wayTo, List.length_cons, g3]; omega, ?_⟩
      rw [h4, M.to, g4]; simp only [costL]; omega
theorem waysOf_best (M : Meas S lt μ c) : ∀ k d l, S.Chain d l → l.length ≤ k → S.waysOf lt k d ≠ noWay ∧ μ (S.waysOf lt k d) ≤ costL c l
  | k, d, [], h, _ => by
    simp only [Sh.Chain] at h
    subst h
    rw [waysOf_end, M.zero]
    exact ⟨by decide, Int.le_refl _⟩
  | 0, d, n :: l, _, hl => by simp at hl
  | k + 1, d, n :: l, h, hl => by
    obtain ⟨⟨h1, h2, h3⟩, h4⟩ := h
    have hn := h4.len
    simp only [List.length_cons] at hl
    obtain ⟨g1, g2⟩ := waysOf_best M k n l h4 (by omega)
    have hb := (waysOf_step M k (d := d) (by omega)).best (n - (d + 1)) (by omega)
    rw [show d + 1 + (n - (d + 1)) = n from by omega] at hb
    obtain ⟨b1, b2⟩ := hb ⟨g1, h3⟩
    refine ⟨b1, ?_⟩
    simp only [costL]; omega
end
/-- the stops of m numbers from the k-th on -/
def stopsL (g : Nat → Int) : Nat → Nat → List Nat
  | _, 0 => []
  | k, m + 1 => (g k).toNat :: stopsL g (k + 1) m
theorem stopsL_len (g : Nat → Int) : ∀ m k, (stopsL g k m).length = m
  | 0, _ => rfl
  | m + 1, k => by simp [stopsL, stopsL_len g m (k + 1)]
theorem stopsL_get (g : Nat → Int) : ∀ m k i, i < m → (stopsL g k m)[i]? = some (g (k + i)).toNat
  | 0, _, i, h => by omega
  | m + 1, k, 0, h => by simp [stopsL]
  | m + 1, k, i + 1, h => by
    simp only [stopsL, List.getElem?_cons_succ]
    rw [stopsL_get g m (k + 1) i (by omega), show k + 1 + i = k + (i + 1) from by omega]
theorem costL_stops (c : Nat → Int) (g : Nat → Int) : ∀ m k, sumTo (fun i => c (g i).toNat) (k + m) = sumTo (fun i => c (g i).toNat) k + costL c (stopsL g k m)
  | 0, k => by simp [stopsL, costL]
  | m + 1, k => by
    have := costL_stops c g m (k + 1)
    rw [show k + (m + 1) = k + 1 + m from by omega, this]
    simp only [sumTo, stopsL, costL]; omega
theorem stopAt_succ (g : Nat → Int) (k : Nat) : stopAt g (k + 1) = (g k).toNat := rfl
/-- a chain of the stops, and its numbers -/
theorem chain_stops {S : Sh} {g : Nat → Int} : ∀ m k, S.Chain (stopAt g k) (stopsL g k m) ↔ (∀ i, k ≤ i → i < k + m → S.okStep (stopAt g i) (stopAt g (i + 1))) ∧ stopAt g (k + m) = S.nf
  | 0, k => by
    simp only [stopsL, Sh.Chain, Nat.add_zero]
    exact ⟨fun h => ⟨fun i h1 h2 => by omega, h⟩, fun h => h.2⟩
  | m + 1, k => by
    simp only [stopsL, Sh.Chain]
    rw [← stopAt_succ, chain_stops m (k + 1), show k + 1 + m = k + (m + 1) from by omega]
    constructor
    · rintro ⟨h1, h2, h3⟩
      refine ⟨fun i hi hi2 => ?_, h3⟩
      rcases Nat.eq_or_lt_of_le hi with e | e
      · exact e ▸ h1
      · exact h2 i e hi2
    · rintro ⟨h1, h2⟩
      exact ⟨h1 k (Nat.le_refl _) (by omega), fun i hi hi2 => h1 i (by omega) hi2, h2⟩
theorem Sh.falls_end (S : Sh) : S.falls S.nf = S.nf := by
  have := S.falls_bd (Nat.le_refl S.nf); omega
/-- with some stops it does not fall just if from none of them on it falls before the next one -/
theorem firstFall_iff {S : Sh} {m : Nat} {g : Nat → Int} (h : Rising 1 S.nf m g) :
    S.firstFall (memOf m g) = S.nf ↔ (∀ i, i < m → stopAt g (i + 1) ≤ S.falls (stopAt g i)) ∧ S.falls (stopAt g m) = S.nf := by
  have hno : S.firstFall (memOf m g) = S.nf → ∀ j, j < S.nf → S.fallAt (memOf m g) j = false := fun e j hj => by
    have := firstFrom_spec (S.fallAt (memOf m g)) S.nf 0
    exact this.2.2.1 j (Nat.zero_le _) (by unfold Sh.firstFall at e; omega)
  constructor
  · intro e
    have hn := hno e
    refine ⟨fun i hi => ?_, ?_⟩
    · rcases Nat.lt_or_ge (S.falls (stopAt g i)) (stopAt g (i + 1)) with hlt | hge
      · have h1 := Sh.fall_found h (k := i) (by omega) (fun j hj => hn j (by have := stopAt_le rfl h (k := i) (by omega); omega)) (fun i' hi' hle => by
          have h2 := h.lo i hi
          have h3 : g i ≤ g i' := by
            rcases Nat.eq_or_lt_of_le hle with e' | e'
            · subst e'; exact Int.le_refl _
            · exact Int.le_of_lt (h.lt i i' e' hi')
          simp only [stopAt_succ] at hlt
          omega)
        have h4 := h.hi i hi
        simp only [stopAt_succ] at hlt
        omega
      · exact hge
    · have h1 := Sh.fall_found h (k := m) (Nat.le_refl _) (fun j hj => hn j (by have := stopAt_le rfl h (k := m) (Nat.le_refl _); omega)) (fun i' hi' hle => by omega)
      omega
  · rintro ⟨h1, h2⟩
    have key : ∀ k, k ≤ m → ∀ j, j < stopAt g k → S.fallAt (memOf m g) j = false := by
      intro k
      induction k with
      | zero => intro _ j hj; simp [stopAt] at hj
      | succ k ih =>
        intro hk j hj
        have h3 := h1 k (by omega)
        refine Sh.fall_seg h (k := k) (by omega) (ih (by omega)) (b := stopAt g (k + 1)) (fun i hi hle => ?_) j (by omega) hj
        have h4 := h.lo k (by omega)
        have h5 : g k ≤ g i := by
          rcases Nat.eq_or_lt_of_le hle with e' | e'
          · subst e'; exact Int.le_refl _
          · exact Int.le_of_lt (h.lt k i e' hi)
        simp only [stopAt_succ]
        omega
    have h3 := Sh.fall_found h (k := m) (Nat.le_refl _) (key m (Nat.le_refl _)) (fun i' hi' hle => by omega)
    omega
/-- a plan is a chain of stops -/
theorem plan_iff {S : Sh} {m : Nat} {g : Nat → Int} (hR : Rising 1 S.nf m g) : S.Plan m g ↔ S.Chain 0 (stopsL g 0 m) := by
  rw [show S.Chain 0 (stopsL g 0 m) = S.Chain (stopAt g 0) (stopsL g 0 m) from rfl, chain_stops m 0]
  simp only [Nat.zero_add]
  have hst : ∀ i, i < m → stopAt g i < stopAt g (i + 1) := fun i hi => by
    cases i with
    | zero => have := hR.lo 0 hi; simp only [stopAt]; omega
    | succ i => have := hR.lo i (by omega); have := hR.lt i (i + 1) (by omega) hi; simp only [stopAt]; omega
  constructor
  · rintro ⟨_, h1, h2, h3⟩
    obtain ⟨h4, h5⟩ := (firstFall_iff hR).1 h1
    exact ⟨fun i _ hi => ⟨hst i hi, h4 i hi, h2 i hi⟩, h3⟩
  · rintro ⟨h1, h2⟩
    refine ⟨hR, (firstFall_iff hR).2 ⟨fun i hi => (h1 i (Nat.zero_le _) hi).2.1, by rw [h2]; exact S.falls_end⟩, fun i hi => (h1 i (Nat.zero_le _) hi).2.2, h2⟩
end Go.Proofs.YtjpfdhhiofjpbaaGreatDoor


namespace Go.Proofs.YtjpfdhhiofjpbaaGreatDoor
open Go.RowKit Go.Sort
def Sh.Has (S : Sh) : Prop := ∃ l, S.Chain 0 l
/-- what all feet and the rings at some stops cost -/
def Sh.pay (S : Sh) (l : List Nat) : Int := sumTo S.price S.nf + costL S.ringc l
structure Sh.IsFew (S : Sh) (m : Nat) : Prop where
  is : ∃ l, S.Chain 0 l ∧ l.length = m
  least : ∀ l, S.Chain 0 l → m ≤ l.length
structure Sh.IsCheap (S : Sh) (n : Int) : Prop where
  is : ∃ l, S.Chain 0 l ∧ S.pay l = n
  least : ∀ l, S.Chain 0 l → n ≤ S.pay l
section
variable {S : Sh} {lt : Way → Way → Bool} {μ : Way → Int} {c : Nat → Int}
theorem ways_has (M : Meas S lt μ c) : S.waysOf lt S.nf 0 ≠ noWay ↔ S.Has := by
  constructor
  · intro h
    obtain ⟨l, h1, _⟩ := waysOf_sound M S.nf 0 (Nat.zero_le _) h
    exact ⟨l, h1⟩
  · rintro ⟨l, h⟩
    exact (waysOf_best M S.nf 0 l h (by have := h.len; omega)).1
end
theorem plan_chain {S : Sh} {m : Nat} {g : Nat → Int} (h : S.Plan m g) : S.Chain 0 (stopsL g 0 m) := (plan_iff h.rising).1 h
theorem costOf_pay {S : Sh} {m : Nat} {g : Nat → Int} : S.costOf m g = S.pay (stopsL g 0 m) := by
  have := costL_stops S.ringc g m 0
  simp only [Nat.zero_add, sumTo] at this
  unfold Sh.costOf Sh.pay
  omega
theorem few_of {S : Sh} (h : S.Has) : ∃ m : Nat, (S.waysOf ltR S.nf 0).rings = m ∧ S.IsFew m := by
  have hn := (ways_has (measR S)).2 h
  obtain ⟨l, h1, _, h3, h4⟩ := waysOf_sound (measR S) S.nf 0 (Nat.zero_le _) hn
  refine ⟨l.length, h3, ⟨l, h1, rfl⟩, fun l' hl' => ?_⟩
  have h5 := (waysOf_best (measR S) S.nf 0 l' hl' (by have := hl'.len; omega)).2
  rw [costL_one] at h4 h5
  omega
theorem cheap_of {S : Sh} (h : S.Has) : S.IsCheap (sumTo S.price S.nf + (S.waysOf ltP S.nf 0).pence) := by
  have hn := (ways_has (measP S)).2 h
  obtain ⟨l, h1, _, _, h4⟩ := waysOf_sound (measP S) S.nf 0 (Nat.zero_le _) hn
  refine ⟨⟨l, h1, by unfold Sh.pay; rw [h4]⟩, fun l' hl' => ?_⟩
  have h5 := (waysOf_best (measP S) S.nf 0 l' hl' (by have := hl'.len; omega)).2
  unfold Sh.pay
  omega
theorem Sh.IsFew.le {S : Sh} {m : Nat} (h : S.IsFew m) : m ≤ S.nf := by
  obtain ⟨l, h1, h2⟩ := h.is
  have := h1.len
  omega
theorem Sh.IsCheap.uniq {S : Sh} {m m' : Int} (h : S.IsCheap m) (h' : S.IsCheap m') : m = m' := by
  obtain ⟨l, h1, h2⟩ := h.is
  obtain ⟨l', h1', h2'⟩ := h'.is
  have := h.least l' h1'
  have := h'.least l h1
  omega
/-- Fewest and Cheap of a valid shaft -/
theorem out_cases {S : Sh} (ok : S.Ok) : (S.Has ∧ ∃ (m : Nat) (n : Int), S.fewestOut = ((m : Int), 0) ∧ S.cheapOut = (n, 0) ∧ S.IsFew m ∧ S.IsCheap n ∧ m ≤ S.nf ∧ 0 ≤ n ∧ n ≤ 4968) ∨ (¬ S.Has ∧ S.fewestOut = (0, 3) ∧ S.cheapOut = (0, 3)) := by
  by_cases h : S.Has
  · obtain ⟨m, h1, h2⟩ := few_of h
    have h3 := cheap_of h
    have h4 := cheapOut_some ok ((ways_has (measP S)).2 h)
    have h5 := cheapOut_bd ok
    rw [h4] at h5
    exact .inl ⟨h, m, _, by rw [fewestOut_some ok ((ways_has (measR S)).2 h), h1], h4, h2, h3, h2.le, h5.1, h5.2⟩
  · refine .inr ⟨h, fewestOut_none ok ?_, cheapOut_none ok ?_⟩
    · cases Classical.em (S.waysOf ltR S.nf 0 = noWay) with
      | inl e => exact e
      | inr e => exact absurd ((ways_has (measR S)).1 e) h
    · cases Classical.em (S.waysOf ltP S.nf 0 = noWay) with
      | inl e => exact e
      | inr e => exact absurd ((ways_has (measP S)).1 e) h
end Go.Proofs.YtjpfdhhiofjpbaaGreatDoor


namespace Go.Proofs.YtjpfdhhiofjpbaaGreatDoor
open Go.RowKit Go.Sort
/-- the numbers of a list, 0 behind its end -/
def gOf (l : List Int) : Nat → Int := fun i => l.getD i 0
theorem gOf_get {l : List Int} {i : Nat} {x : Int} (h : l[i]? = some x) : gOf l i = x := by unfold gOf; rw [List.getD_eq_getElem?_getD, h]; rfl
theorem gOf_append {l t : List Int} {i : Nat} (h : i < l.length) : gOf (l ++ t) i = gOf l i := by
  unfold gOf
  rw [List.getD_eq_getElem?_getD, List.getD_eq_getElem?_getD, List.getElem?_append_left h]
theorem gOf_last (l : List Int) (x : Int) : gOf (l ++ [x]) l.length = x := by
  unfold gOf
  rw [List.getD_eq_getElem?_getD, List.getElem?_append_right (Nat.le_refl _), Nat.sub_self]
  rfl
/-- the lists that go on from l with numbers above nf - f -/
def behindL (nf : Nat) : Nat → List Int → List (List Int)
  | 0, _ => []
  | f + 1, l => ((l ++ [((nf - f : Nat) : Int)]) :: behindL nf f (l ++ [((nf - f : Nat) : Int)])) ++ behindL nf f l
theorem behindL_len (nf : Nat) : ∀ f l, (behindL nf f l).length + 1 = 2 ^ f
  | 0, _ => rfl
  | f + 1, l => by
    have h1 := behindL_len nf f (l ++ [((nf - f : Nat) : Int)])
    have h2 := behindL_len nf f l
    simp only [behindL, List.length_append, List.length_cons]
    rw [Nat.pow_succ]
    omega
/-- ascending numbers above lo, up to nf -/
def UpL (nf : Nat) : Nat → List Nat → Prop
  | _, [] => True
  | lo, d :: t => lo < d ∧ d ≤ nf ∧ UpL nf d t
def intsOf (l : List Nat) : List Int := l.map fun d => ((d : Nat) : Int)
theorem mem_behind {nf : Nat} : ∀ f, f ≤ nf → ∀ (t : List Nat) (l : List Int), t ≠ [] → UpL nf (nf - f) t → l ++ intsOf t ∈ behindL nf f l
  | 0, _, t, l, ht, hu => by
    cases t with
    | nil => exact absurd rfl ht
    | cons d t => have := hu.1; have := hu.2.1; omega
  | f + 1, hf, t, l, ht, hu => by
    cases t with
    | nil => exact absurd rfl ht
    | cons d t =>
      obtain ⟨h1, h2, h3⟩ := hu
      simp only [behindL, List.mem_append, List.mem_cons]
      by_cases e : d = nf - f
      · left
        subst e
        cases t with
        | nil => exact .inl rfl
        | cons d2 t =>
          right
          have := mem_behind f (by omega) (d2 :: t) (l ++ [((nf - f : Nat) : Int)]) (by simp) h3
          rw [List.append_assoc] at this
          exact this
      · right
        exact mem_behind f (by omega) (d :: t) l (by simp) ⟨by omega, h2, h3⟩
def allLists (nf : Nat) : List (List Int) := [] :: behindL nf nf []
theorem mem_all {nf : Nat} {t : List Nat} (h : UpL nf 0 t) : intsOf t ∈ allLists nf := by
  cases t with
  | nil => exact List.mem_cons_self ..
  | cons d t =>
    refine List.mem_cons_of_mem _ ?_
    have := mem_behind nf (Nat.le_refl _) (d :: t) [] (by simp) (by rw [Nat.sub_self]; exact h)
    simpa using this
theorem behind_lens {nf : Nat} : ∀ f (l : List Int) x, x ∈ behindL nf f l → x.length ≤ l.length + f
  | 0, l, x, h => by cases h
  | f + 1, l, x, h => by
    simp only [behindL, List.mem_append, List.mem_cons] at h
    rcases h with (rfl | h) | h
    · simp
    · have := behind_lens f _ _ h
      simp only [List.length_append, List.length_cons, List.length_nil] at this
      omega
    · have := behind_lens f _ _ h
      omega
theorem all_lens {nf : Nat} {x : List Int} (h : x ∈ allLists nf) : x.length ≤ nf := by
  rcases List.mem_cons.1 h with rfl | h
  · exact Nat.zero_le _
  · have := behind_lens nf [] x h
    simpa using this
/-! ### Plans -/
noncomputable def Sh.isPlanL (S : Sh) (l : List Int) : Bool := S.planB l.length (gOf l)
noncomputable def Sh.plansL (S : Sh) : List (List Int) := (allLists S.nf).filter S.isPlanL
theorem intsOf_len (l : List Nat) : (intsOf l).length = l.length := by simp [intsOf]
theorem stopsL_ints {l : List Int} (h : ∀ x ∈ l, 0 ≤ x) : intsOf (stopsL (gOf l) 0 l.length) = l := by
  refine List.ext_getElem? fun i => ?_
  unfold intsOf
  rw [List.getElem?_map]
  rcases Nat.lt_or_ge i l.length with h1 | h1
  · rw [stopsL_get _ _ _ _ h1, Nat.zero_add]
    have h2 : l[i]? = some l[i] := List.getElem?_eq_getElem h1
    rw [h2, gOf_get h2]
    have := h l[i] (List.getElem_mem h1)
    simp; omega
  · rw [List.getElem?_eq_none (by rw [stopsL_len]; exact h1), List.getElem?_eq_none h1]
    rfl
theorem ints_stops (l : List Nat) : stopsL (gOf (intsOf l)) 0 (intsOf l).length = l := by
  refine List.ext_getElem? fun i => ?_
  rcases Nat.lt_or_ge i l.length with h1 | h1
  · rw [stopsL_get _ _ _ _ (by rw [intsOf_len]; exact h1), Nat.zero_add]
    have h2 : l[i]? = some l[i] := List.getElem?_eq_getElem h1
    have h3 : (intsOf l)[i]? = some ((l[i] : Nat) : Int) := by unfold intsOf; rw [List.getElem?_map, h2]; rfl
    rw [gOf_get h3, h2]
    rfl
  · rw [List.getElem?_eq_none (by rw [stopsL_len, intsOf_len]; exact h1), List.getElem?_eq_none h1]
theorem chain_up {S : Sh} : ∀ {l : List Nat} {a : Nat}, S.Chain a l → UpL S.nf a l
  | [], _, _ => trivial
  | d :: l, a, h => ⟨h.1.1, by have := h.2.len; omega, chain_up h.2⟩
theorem up_mem {nf : Nat} : ∀ {l : List Nat} {a : Nat}, UpL nf a l → ∀ x ∈ l, a < x ∧ x ≤ nf
  | [], _, _, x, hx => by cases hx
  | d :: l, a, h, x, hx => by
    rcases List.mem_cons.1 hx with rfl | hx
    · exact ⟨h.1, h.2.1⟩
    · have := up_mem h.2.2 x hx; have := h.1; omega
theorem up_rising {nf : Nat} {l : List Nat} (h : UpL nf 0 l) : Rising 1 (nf : Int) (intsOf l).length (gOf (intsOf l)) := by
  have hg : ∀ i, (h1 : i < l.length) → gOf (intsOf l) i = ((l[i] : Nat) : Int) := fun i h1 => by
    refine gOf_get ?_
    unfold intsOf
    rw [List.getElem?_map, List.getElem?_eq_getElem h1]
    rfl
  have hlt : ∀ {l : List Nat} {a : Nat}, UpL nf a l → l.Pairwise (· < ·) := by
    intro l
    induction l with
    | nil => intro a _; exact List.Pairwise.nil
    | cons d t ih => intro a h; exact List.pairwise_cons.2 ⟨fun x hx => (up_mem h.2.2 x hx).1, ih h.2.2⟩
  rw [intsOf_len]
  refine ⟨fun i hi => ?_, fun i hi => ?_, fun i j hij hj => ?_⟩
  · rw [hg i hi]; have := up_mem h l[i] (List.getElem_mem hi); omega
  · rw [hg i hi]; have := up_mem h l[i] (List.getElem_mem hi); omega
  · rw [hg i (by omega), hg j hj]
    have := List.pairwise_iff_getElem.1 (hlt h) i j (by omega) hj hij
    omega
/-- the chains are just the plans that are listed -/
theorem chain_listed {S : Sh} {t : List Nat} (h : S.Chain 0 t) : intsOf t ∈ S.plansL := by
  refine List.mem_filter.2 ⟨mem_all (chain_up h), Sh.planB_t ((plan_iff (up_rising (chain_up h))).2 ?_)⟩
  rw [ints_stops]
  exact h
theorem listed_plan {S : Sh} {l : List Int} (h : l ∈ S.plansL) : S.Plan l.length (gOf l) := Sh.planB_iff.1 (List.mem_filter.1 h).2
theorem plan_nonneg {S : Sh} {l : List Int} (h : S.Plan l.length (gOf l)) : ∀ x ∈ l, 0 ≤ x := by
  intro x hx
  obtain ⟨i, hi, e⟩ := List.getElem_of_mem hx
  have := h.rising.lo i hi
  rw [gOf_get (x := x) (by rw [List.getElem?_eq_getElem hi, e])] at this
  omega
theorem plan_chainL {S : Sh} {l : List Int} (h : S.Plan l.length (gOf l)) : ∃ t, S.Chain 0 t ∧ l = intsOf t ∧ t = stopsL (gOf l) 0 l.length :=
  ⟨_, plan_chain h, (stopsL_ints (plan_nonneg h)).symm, rfl⟩
theorem plans_has {S : Sh} : S.plansL ≠ [] ↔ S.Has := by
  constructor
  · intro h
    obtain ⟨l, hl⟩ := List.exists_mem_of_ne_nil _ h
    obtain ⟨t, ht, _⟩ := plan_chainL (listed_plan hl)
    exact ⟨t, ht⟩
  · rintro ⟨t, ht⟩ e
    have := chain_listed ht
    rw [e] at this
    cases this
/-! ### The first one with the fewest -/
/-! ### What the ways with the fewest rings go on to -/
/-! ### The least cost -/
theorem min_cost {S : Sh} {b : List Int} {xs : List (List Int)} (_ : S.plansL = b :: xs) {n : Int} (h1 : ∃ l ∈ S.plansL, S.costOf l.length (gOf l) = n) (h2 : ∀ l ∈ S.plansL, n ≤ S.costOf l.length (gOf l)) : S.IsCheap n := by
  obtain ⟨l, hl, e⟩ := h1
  obtain ⟨t, t1, t2, t3⟩ := plan_chainL (listed_plan hl)
  refine ⟨⟨t, t1, by rw [← e, costOf_pay, t3]⟩, fun t' h' => ?_⟩
  have := h2 _ (chain_listed h')
  rw [costOf_pay, ints_stops] at this
  exact this
end Go.Proofs.YtjpfdhhiofjpbaaGreatDoor


