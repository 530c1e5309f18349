/- Parts joined: what the claim PlacesWhole needs beyond the others. -/
import Derived.WalkKit
import Derived.WalkSpells
import Derived.WalkLawsBesides
import Derived.BigQuiet
import Derived.Lib.Hide
import Derived.Lib.QuietBelow
import Derived.Deep.RegionHeld3
import Derived.OwnWalk
import Derived.Laws.AppendOwn
import Derived.Laws.OwnMore
import Derived.Laws.IdiomCopy
import Derived.Deep.RegionLaw
import Derived.Lib.SliceRun
import Derived.ArgAppend
import Derived.RegionTactic
import Derived.Laws.MakeOwn
import Derived.Test.YtjpfdhhiofjpbaaGreatDoorProg
import Derived.Test.YtjpfdhhiofjpbaaGreatDoorTie
import Derived.ProofKit
import Derived.LaidMore
import Derived.OpenShut
import Derived.Deep.Slices
import Derived.Deep.Fields
import Derived.Stop.Joined
import Derived.Test.YtjpfdhhiofjpbaaGreatDoorNQA
import Derived.Test.YtjpfdhhiofjpbaaGreatDoorNQB
import Derived.Test.YtjpfdhhiofjpbaaGreatDoorNQC
import Derived.Test.YtjpfdhhiofjpbaaGreatDoorNQD
import Derived.Test.YtjpfdhhiofjpbaaGreatDoorNQE
import Derived.Test.YtjpfdhhiofjpbaaGreatDoorNQF
import Derived.Test.YtjpfdhhiofjpbaaGreatDoorNQG
import Derived.Test.YtjpfdhhiofjpbaaGreatDoorNQH
import Derived.Test.YtjpfdhhiofjpbaaGreatDoorNQI
import Derived.Test.YtjpfdhhiofjpbaaGreatDoorNQJ
import Derived.Test.YtjpfdhhiofjpbaaGreatDoorNQK
import Derived.Test.YtjpfdhhiofjpbaaGreatDoorNQL
import Derived.Test.YtjpfdhhiofjpbaaGreatDoorNQM
import Derived.Test.YtjpfdhhiofjpbaaGreatDoorNQN
import Derived.Test.YtjpfdhhiofjpbaaGreatDoorNQO
import Derived.Test.YtjpfdhhiofjpbaaGreatDoorNQP
import Derived.Test.YtjpfdhhiofjpbaaGreatDoorNQQ
import Derived.Test.YtjpfdhhiofjpbaaGreatDoorNQR
import Derived.Test.YtjpfdhhiofjpbaaGreatDoorNQS
import Derived.Test.YtjpfdhhiofjpbaaGreatDoorNQT
import Derived.Test.YtjpfdhhiofjpbaaGreatDoorNQU
set_option linter.unusedSimpArgs false
set_option linter.unusedVariables false
namespace Go.Proofs.YtjpfdhhiofjpbaaGreatDoor
open Go.RowKit Go.Sort
/-! ### Worlds -/
attribute [go_sem] cell_grow frozen_grow Instr.field asAgg
section
variable {w x y : World}
end
/-! ### Endings -/
/-! ### Plain notions -/
/-! ### How slices read -/
/-- the stops that a list of numbers is -/
def memOf (m : Nat) (g : Nat → Int) (d : Nat) : Bool := anyB (fun i => g i == (d : Int)) m
theorem memOf_iff {m : Nat} {g : Nat → Int} {d : Nat} : memOf m g d = true ↔ ∃ i, i < m ∧ g i = (d : Int) := by
  unfold memOf; rw [anyB_true]; simp
structure Rising (lo hi : Int) (n : Nat) (g : Nat → Int) : Prop where
  lo : ∀ i, i < n → lo ≤ g i
  hi : ∀ i, i < n → g i ≤ hi
  lt : ∀ i j, i < j → j < n → g i < g j
section
variable {P : Program} {ops : Array Oper} {md : Region.Mode}

/-! ### The frame behind some of the operations -/
/-! ### Operations that are calm: one value in every world that is the first one with new blocks; what they leave is that with new blocks -/
attribute [go_sem] Oper.calm Oper.calmAt Oper.calmUpon
/-! ### Whoever looks at a slot, and whoever writes it, wait for each other -/
end
section
variable {P : Program} {ops : Array Oper} {md : Region.Mode}
attribute [go_sem] Oper.heldAt Oper.heldUpon newer_refl depsP
end
section
variable {m : Nat} {g : Nat → Int} {x d n : Nat} {h : Nat → Int}
end
section
variable {P : Program} {ops : Array Oper} {md : Region.Mode}
theorem wpStir_stir {W : World} {Q : Act → World → Prop} {k : Nat} {o : Oper} {l : List Oper} {s : Value → Prop} {r : World → Value → Prop} {S : World → World → Prop} {hs : List Stir} {a : Act} {F : List (Nat × (World → Prop))} (hg : o.guard = none)
    (h1 : ∀ w', Below W.heap.size W w' → depsP md ops k F w' → Oper.stirAt P o a w' S (fun w v => s v ∧ r w v))
    (h2 : ∀ v, s v → wpStir P md ops W Q (k + 1) l hs (a.put o.dst v) ((k, fun w => r w v) :: F)) : wpStir P md ops W Q k (o :: l) (.stir s r S :: hs) a F := by
  refine ⟨?_, fun v hv => h2 v hv⟩
  unfold Oper.stirAsk Region.wanted
  rw [hg, if_pos rfl]
  exact fun p => h1 _ (below_regrown _ _ _)
attribute [go_sem] Oper.stirAt Oper.stirUpon
end
/-- but for new memory, only a row of the region's own may have been gone on with -/
def RowOn (N : Nat) (e : TypeId) (size n : Nat) (w w' : World) : Prop :=
  Below w.heap.size w w' ∨ (0 < n ∧ ∃ g cur cur' : _, N ≤ g ∧ w.heap[g]? = some (.cells cur e (0, 0)) ∧ w'.heap[g]? = some (.cells cur' e (0, 0)) ∧ (cur' : Array Value).size = (cur : Array Value).size ∧ cur'.toList.take (n * size) = cur.toList.take (n * size) ∧ w.grownBy w' (some g))
theorem RowOn.below {N : Nat} {e : TypeId} {size n : Nat} {w w' : World} (h : RowOn N e size n w w') (hN : N ≤ w.heap.size) : Below N w w' := by
  rcases h with h | ⟨_, g, _, _, h1, _, _, _, _, h2⟩
  · exact h.mono hN
  · exact ⟨h2.os, h2.tape, h2.output, h2.size, fun k hk => h2.block k (by omega) (fun e => by injection e with e; omega)⟩
theorem RowOn.owns {N base : Nat} {e : TypeId} {size n k : Nat} {w w' : World} (h : RowOn N e size n w w') {v : Value} {xs : List Value} (hk : k ≤ n) (ho : w.ownsRow base e size v k xs) : w'.ownsRow base e size v k xs := by
  rcases h with h | ⟨_, g, cur, cur', h1, h2, h3, h4, h5, h6⟩
  · exact owns_below ho h
  · by_cases hg : v.ownBlock = some g
    · refine ⟨ho.1, ?_⟩
      rcases ho.2 with hn | ⟨g', cap, c0, rfl, b1, b2, b3, b4, b5, b6⟩
      · exact .inl hn
      · have : g' = g := by simpa [Value.ownBlock] using hg
        subst this
        rw [h2] at b2
        injection b2 with b2
        injection b2 with b2
        subst b2
        refine .inr ⟨g', cap, cur', rfl, b1, h3, b3, b4, by rw [h4, b5], ?_⟩
        have hle : k * size ≤ n * size := Nat.mul_le_mul_right _ hk
        have e1 : cur'.toList.take (k * size) = (cur'.toList.take (n * size)).take (k * size) := by rw [List.take_take, Nat.min_eq_left hle]
        rw [e1, h5, List.take_take, Nat.min_eq_left hle]
        exact b6
    · exact ho.kept h6 (.inr hg)
theorem AtHand.on {N : Nat} {e : TypeId} {size n : Nat} {xs : List Value} {w w' : World} {v : Value} (hb : RowOn N e size n w w') (h : AtHand N e size n xs w v) : AtHand N e size n xs w' v :=
  h.imp id fun h => ⟨h.1, hb.owns (Nat.le_refl _) h.2⟩
/-- 'append([]T{}, xs...)' at a step of a region -/
theorem stir_copy {P : Program} {o : Oper} {a : Act} (w : World) (s x : Operand) (t : TypeId) (hop : o.op = Op.call { callee := Callee.builtin Builtin.append, args := #[s, x], argTypes := #[t, t] })
    (e : TypeId) (z : Value) (size bytes : Nat) (hinfo : (P.info? e).map (fun i => (i.zero, i.size, i.bytes)) = some (some z, size, bytes)) (ht : P.underlying t = some (.slice e)) (hzs : z.cells.size = size) (hsz : 0 < size)
    (ad : Nat) (A : Option Addr) (m c : Nat) (L : List Value) (hs : a.eval s = .slice (some ⟨ad, 0, none⟩) 0 0) (hx : a.eval x = .slice A m c) (hl : L.length = m * size) (hr : RowAt w A L) (h63 : m ≤ 1000000) (hby : bytes ≤ 1000000) (N : Nat) (hN : N ≤ w.heap.size) :
    Oper.stirAt P o a w Newer (fun w' v => ShapeOf m v ∧ AtHand N e size m L w' v) := by
  obtain ⟨i0, hi, iz0, iz1, iz2⟩ := info_parts hinfo
  have hbytes : (0 + m) * bytes ≤ 140737488355328 := by rw [Nat.zero_add]; exact Nat.le_trans (Nat.mul_le_mul h63 hby) (by decide)
  rcases Nat.eq_zero_or_pos m with h0 | h0
  · subst h0
    obtain rfl : L = [] := List.eq_nil_of_length_eq_zero (by simpa using hl)
    have hrun : (Builtin.append_ #[t, t] o.type #[.slice (some ⟨ad, 0, none⟩) 0 0, .slice A 0 c]).run P w = .ok (.slice (some ⟨ad, 0, none⟩) 0 0) w := by
      cases A with
      | none => simp [Builtin.append_, run_underlying ht, sizeOf, typeInfo, hi, Builtin.lenOf, Builtin.firstCells, storeCells]
      | some a =>
        have hfc := run_firstCells_some (P := P) w i0.size 0 a 0 c [] (by simp) (fun j u h => by simp at h)
        simp [Builtin.append_, run_underlying ht, sizeOf, typeInfo, hi, Builtin.lenOf, hfc, storeCells]
    unfold Oper.stirAt
    simp only [execOp, hop, resolve, invoke, builtin, List.map_toArray, List.map_cons, List.map_nil, hs, hx, hrun, Result.andThen, Sem.run_bind, Sem.run_pure, Oper.stirUpon]
    exact ⟨Below.refl _ _, ⟨_, _, rfl⟩, .inl ⟨rfl, rfl, _, rfl⟩⟩
  · rcases hr with hr | ⟨b, o', rfl, hlt, hc⟩
    · rw [hr] at hl
      have := Nat.mul_pos h0 hsz
      simp only [List.length_nil] at hl
      omega
    · obtain ⟨v', w', hrun, hown, hg⟩ := run_append_arg_grows (P := P) w t o.type e i0 z size bytes ht hi iz0 iz1 iz2 hzs hsz ⟨ad, 0, none⟩ 0 0 [] (by simp) (fun j u h => by simp at h) ⟨b, o', none⟩ m c L hl (fun j u h => by
        rw [show (⟨b, o', none⟩ : Addr).add j = ⟨b, o' + j, none⟩ from by unfold Addr.add; split <;> simp_all]; exact hc j u h) (by omega) (by unfold maxLen; omega) hbytes
      simp only [List.nil_append, Nat.zero_add] at hown
      obtain ⟨g, cap, rfl⟩ := owns_form hown h0
      unfold Oper.stirAt
      simp only [execOp, hop, resolve, invoke, builtin, List.map_toArray, List.map_cons, List.map_nil, hs, hx, hrun, Result.andThen, Sem.run_bind, Sem.run_pure, Oper.stirUpon]
      exact ⟨below_grown hg, ⟨_, _, rfl⟩, .inr ⟨h0, owns_lower hown hN⟩⟩
/-- 'append(row, xs...)' of a row of the region's own, at a step of a region -/
theorem stir_append {P : Program} {o : Oper} {a : Act} (w : World) (s x : Operand) (t : TypeId) (hop : o.op = Op.call { callee := Callee.builtin Builtin.append, args := #[s, x], argTypes := #[t, t] })
    (e : TypeId) (z : Value) (size bytes : Nat) (hinfo : (P.info? e).map (fun i => (i.zero, i.size, i.bytes)) = some (some z, size, bytes)) (ht : P.underlying t = some (.slice e)) (hzs : z.cells.size = size) (hsz : 0 < size)
    (v : Value) (n : Nat) (xs : List Value) (A : Option Addr) (m c : Nat) (L : List Value) (N : Nat) (hv : AtHand N e size n xs w v) (hs : a.eval s = v) (hx : a.eval x = .slice A m c) (hm : 0 < m) (hl : L.length = m * size) (hr : RowAt w A L) (h1 : ∀ u ∈ L, u.oneCell' = true) (h63 : n + m ≤ 1000000) (hby : bytes ≤ 1000000) (hN : N ≤ w.heap.size) :
    Oper.stirAt P o a w (RowOn N e size n) (fun w' v => ShapeOf (n + m) v ∧ w'.ownsRow N e size v (n + m) (xs ++ L)) := by
  obtain ⟨i0, hi, iz0, iz1, iz2⟩ := info_parts hinfo
  have hbytes : (n + m) * bytes ≤ 140737488355328 := Nat.le_trans (Nat.mul_le_mul h63 hby) (by decide)
  rcases hr with hr | ⟨b, o', rfl, hlt, hc⟩
  · rw [hr] at hl
    have := Nat.mul_pos hm hsz
    simp only [List.length_nil] at hl
    omega
  have hc' : ∀ j u, L[j]? = some u → w.cell? ((⟨b, o', none⟩ : Addr).add j) = some u := fun j u h => by
    rw [show (⟨b, o', none⟩ : Addr).add j = ⟨b, o' + j, none⟩ from by unfold Addr.add; split <;> simp_all]; exact hc j u h
  have fin : ∀ v' w', (Builtin.append_ #[t, t] o.type #[v, .slice (some ⟨b, o', none⟩) m c]).run P w = .ok v' w' → RowOn N e size n w w' → w'.ownsRow N e size v' (n + m) (xs ++ L) → Oper.stirAt P o a w (RowOn N e size n) (fun w' v => ShapeOf (n + m) v ∧ w'.ownsRow N e size v (n + m) (xs ++ L)) := fun v' w' hrun hon hown => by
    unfold Oper.stirAt
    simp only [execOp, hop, resolve, invoke, builtin, List.map_toArray, List.map_cons, List.map_nil, hs, hx, hrun, Result.andThen, Sem.run_bind, Sem.run_pure, Oper.stirUpon]
    obtain ⟨g, cap, hg⟩ := owns_form hown (by omega)
    exact ⟨hon, ⟨g, cap, hg⟩, hown⟩
  rcases hv with ⟨rfl, rfl, g, rfl⟩ | ⟨hn, hown⟩
  · obtain ⟨v', w', hrun, hown, hg⟩ := run_append_arg_grows (P := P) w t o.type e i0 z size bytes ht hi iz0 iz1 iz2 hzs hsz ⟨g, 0, none⟩ 0 0 [] (by simp) (fun j u h => by simp at h) ⟨b, o', none⟩ m c L hl hc' (by omega) (by unfold maxLen; omega) hbytes
    exact fin v' w' hrun (.inl (below_grown hg)) (owns_lower hown hN)
  · rcases id hown.2 with ⟨_, h0⟩ | ⟨g, cap, cur, rfl, b1, b2, b3, b4, b5, b6⟩
    · omega
    · have hxl := hown.1
      by_cases hroom : n + m ≤ cap
      · have hfit : n * size + L.length ≤ cur.size := by rw [hl, b5, ← Nat.add_mul]; exact Nat.mul_le_mul_right _ hroom
        have hlt2 : n * size ≤ cur.toList.length := by simp; omega
        have hrun := run_append_room (P := P) w t o.type e i0 ht hi g n cap cur b2 ⟨b, o', none⟩ m c L (by rw [hl, iz1]) hc' h1 hroom (by rw [iz1]; exact hfit)
        rw [iz1] at hrun
        have hh := setRow_heap w g cur (cur.toList.take (n * size) ++ L ++ cur.toList.drop (n * size + L.length)).toArray e (0, 0) b2
        have hsz' : (cur.toList.take (n * size) ++ L ++ cur.toList.drop (n * size + L.length)).toArray.size = cur.size := by simp; omega
        have hgrow : w.grownBy (w.setRow g (cur.toList.take (n * size) ++ L ++ cur.toList.drop (n * size + L.length)).toArray) (some g) :=
          ⟨rfl, rfl, rfl, by simp [World.setRow], fun k hk hne => by
            simp only [World.setRow]
            rw [Array.getElem?_modify, if_neg (fun e => hne (by rw [e]))]⟩
        refine fin _ _ hrun (.inr ⟨hn, g, cur, _, b1, b2, hh, hsz', ?_, hgrow⟩) ⟨by rw [List.length_append, hxl, hl, Nat.add_mul], .inr ⟨g, cap, _, rfl, b1, hh, hroom, b4, by rw [hsz', b5], ?_⟩⟩
        · rw [List.toList_toArray, List.append_assoc, List.take_append_of_le_length (by rw [List.length_take]; omega), List.take_take, Nat.min_self]
        · rw [List.toList_toArray, b6]
          exact List.take_left' (by rw [List.length_append, hxl, hl, Nat.add_mul])
      · obtain ⟨v', w', hrun, hown', hg⟩ := run_append_arg_grows (P := P) w t o.type e i0 z size bytes ht hi iz0 iz1 iz2 hzs hsz ⟨g, 0, none⟩ n cap xs hxl (fun j u h => hown.cells (g := g) rfl j u h) ⟨b, o', none⟩ m c L hl hc' (by omega) (by unfold maxLen; omega) hbytes
        exact fin v' w' hrun (.inl (below_grown hg)) (owns_lower hown' hN)
/-! ### Bounds -/
/-! ### Spans -/
section
variable {P : Program} {ops : Array Oper} {md : Region.Mode}
end
/-! ### Rows of structs -/
/-! ### A row at hand -/
end Go.Proofs.YtjpfdhhiofjpbaaGreatDoor

namespace Go.Proofs.YtjpfdhhiofjpbaaGreatDoor
open Go.RowKit Go.Sort
theorem RowAt.num {w : World} {A : Option Addr} {l : List Int} (h : RowAt w A (numL l)) {i : Nat} {x : Int} (hi : l[i]? = some x) : ∃ b o, A = some ⟨b, o, none⟩ ∧ b < w.heap.size ∧ w.cell? ⟨b, o + i, none⟩ = some (.int .i64 x) := by
  rcases h with h | ⟨b, o, rfl, hlt, hc⟩
  · have : l = [] := List.map_eq_nil_iff.1 h
    rw [this] at hi
    simp at hi
  · exact ⟨b, o, rfl, hlt, hc i _ (by unfold numL; rw [List.getElem?_map, hi]; rfl)⟩
end Go.Proofs.YtjpfdhhiofjpbaaGreatDoor

namespace Go.Proofs.YtjpfdhhiofjpbaaGreatDoor
open Go.RowKit Go.Sort
def oneS (v : Value) : Prop := ∃ b, v = .slice (some ⟨b, 0, none⟩) 1 1
end Go.Proofs.YtjpfdhhiofjpbaaGreatDoor

namespace Go.Proofs.YtjpfdhhiofjpbaaGreatDoor
open Go.RowKit Go.Sort Go.ChangeShapes Go.WideShapes Go.ChangeAt Go.Deep
section
variable {H : Type} {enc : TypeId × Value → H} {P : Program}
end
section
variable {H : Type} {enc : TypeId × Value → H} {P : Program} {w : World} {base : Nat} {sp : Nat → Bool} {held : Bool}
/-! ### What fits into memory -/
end
theorem int_wf {n : Int} (h : (Lit.int .i64 n).wf = true) : -9223372036854775808 ≤ n ∧ n ≤ 9223372036854775807 := by
  simp only [Lit.wf, Bool.and_eq_true, decide_eq_true_eq] at h
  exact h
section
variable {H : Type} {enc : TypeId × Value → H} {P : Program} {w : World} {base b0 : Nat} {r : Reach} {sp : Nat → Bool} {held : Bool}
end

/-! ### The table of math/bits that is listed -/
end Go.Proofs.YtjpfdhhiofjpbaaGreatDoor

namespace Go.Proofs.YtjpfdhhiofjpbaaGreatDoor
open Go.RowKit Go.Sort

theorem Sh.minSt_lt {S : Sh} {a m : Nat} {x : Int} (hx : x ≤ 12) : S.minSt a m < x ↔ ∃ j, j < m ∧ (S.rk (a + j)).stand < x := by
  induction m with
  | zero => simp only [Sh.minSt]; exact ⟨fun h => by omega, fun ⟨j, h, _⟩ => by omega⟩
  | succ m ih =>
    simp only [Sh.minSt]
    constructor
    · intro h
      by_cases h1 : S.minSt a m < x
      · obtain ⟨j, hj, h2⟩ := ih.1 h1; exact ⟨j, by omega, h2⟩
      · exact ⟨m, by omega, by omega⟩
    · rintro ⟨j, hj, h2⟩
      by_cases h3 : j < m
      · have := ih.2 ⟨j, h3, h2⟩; omega
      · obtain rfl : j = m := by omega
        omega
theorem Sh.fallsAt_iff {S : Sh} {a f : Nat} (h : a ≤ f) (hf : f < 12) : S.fallsAt a f = true ↔ ∃ i, a ≤ i ∧ i ≤ f ∧ (S.rk i).stand < (f : Int) - a + 1 := by
  unfold Sh.fallsAt
  rw [decide_eq_true_iff, Sh.minSt_lt (by omega)]
  constructor
  · rintro ⟨j, hj, h2⟩; exact ⟨a + j, by omega, by omega, h2⟩
  · rintro ⟨i, h1, h2, h3⟩; exact ⟨i - a, by omega, by rw [show a + (i - a) = i from by omega]; exact h3⟩
/-- the last stop at or above f (0: there is none) -/
def lastS (mem : Nat → Bool) : Nat → Nat
  | 0 => 0
  | f + 1 => if mem (f + 1) then f + 1 else lastS mem f
theorem lastS_le (mem : Nat → Bool) (f : Nat) : lastS mem f ≤ f := by
  induction f with
  | zero => exact Nat.le_refl 0
  | succ f ih => unfold lastS; split <;> omega
/-- whether it falls with the foot f, with some stops -/
def Sh.fallAt (S : Sh) (mem : Nat → Bool) (f : Nat) : Bool := S.fallsAt (lastS mem f) f
/-- the first foot with which it falls, with some stops; the number of feet: there is none -/
def Sh.firstFall (S : Sh) (mem : Nat → Bool) : Nat := firstFrom (S.fallAt mem) S.nf 0
/-! ### Stops -/
def stBad (lo hi : Int) (g : Nat → Int) (i : Nat) : Bool := !inR (g i) lo hi || (decide (0 < i) && decide (g i ≤ g (i - 1)))
/-- whether numbers are strictly ascending, from lo to hi -/
def risingB (lo hi : Int) (n : Nat) (g : Nat → Int) : Bool := !anyB (stBad lo hi g) n
theorem rising_iff {lo hi : Int} {n : Nat} {g : Nat → Int} : risingB lo hi n g = true ↔ Rising lo hi n g := by
  unfold risingB
  rw [Bool.not_eq_true', anyB_false]
  constructor
  · intro h
    have h1 : ∀ i, i < n → lo ≤ g i ∧ g i ≤ hi := fun i hi => by
      have := h i hi; unfold stBad at this; simp only [Bool.or_eq_false_iff, Bool.not_eq_false', inR_iff] at this; exact this.1
    have h2 : ∀ i, i + 1 < n → g i < g (i + 1) := fun i hi => by
      have := h (i + 1) hi; unfold stBad at this; simp at this; exact this.2
    refine ⟨fun i hi => (h1 i hi).1, fun i hi => (h1 i hi).2, fun i j hij hj => ?_⟩
    induction j with
    | zero => omega
    | succ j ih =>
      have h3 := h2 j hj
      rcases Nat.lt_or_ge i j with h4 | h4
      · have := ih h4 (by omega); omega
      · obtain rfl : i = j := by omega
        exact h3
  · intro h i hi
    unfold stBad
    simp only [Bool.or_eq_false_iff, Bool.not_eq_false', inR_iff, Bool.and_eq_false_iff, decide_eq_false_iff_not]
    refine ⟨⟨h.lo i hi, h.hi i hi⟩, ?_⟩
    by_cases h0 : 0 < i
    · have := h.lt (i - 1) i (by omega) hi; exact .inr (by omega)
    · exact .inl h0
theorem stopAt_le {hi : Int} {n : Nat} {g : Nat → Int} {N : Nat} (hN : hi = N) (h : Rising 1 hi n g) {k : Nat} (hk : k ≤ n) : stopAt g k ≤ N := by
  cases k with
  | zero => simp [stopAt]
  | succ k => have := h.hi k (by omega); simp only [stopAt]; omega
theorem lastS_between {hi : Int} {n : Nat} {g : Nat → Int} (h : Rising 1 hi n g) {k : Nat} (hk : k ≤ n) : ∀ f, stopAt g k ≤ f → (∀ i, i < n → k ≤ i → (f : Int) < g i) → lastS (memOf n g) f = stopAt g k
  | 0, h1, _ => by simp only [lastS]; omega
  | f + 1, h1, h2 => by
    unfold lastS
    cases hm : memOf n g (f + 1)
    · simp only [Bool.false_eq_true, if_false]
      refine lastS_between h hk f ?_ (fun i hi h3 => by have := h2 i hi h3; omega)
      rcases Nat.eq_or_lt_of_le h1 with e | e
      · cases k with
        | zero => simp only [stopAt] at e; omega
        | succ k =>
          have hl := h.lo k (by omega)
          have : memOf n g (f + 1) = true := memOf_iff.2 ⟨k, by omega, by simp only [stopAt] at e; omega⟩
          rw [hm] at this; cases this
      · omega
    · simp only [if_true]
      obtain ⟨i, hi, he⟩ := memOf_iff.1 hm
      have hik : i < k := by
        rcases Nat.lt_or_ge i k with h3 | h3
        · exact h3
        · have := h2 i hi h3; omega
      cases k with
      | zero => omega
      | succ k =>
        have hl := h.lo k (by omega)
        have : g i ≤ g k := by
          rcases Nat.lt_or_ge i k with h3 | h3
          · have := h.lt i k h3 (by omega); omega
          · obtain rfl : i = k := by omega
            omega
        simp only [stopAt] at h1 ⊢
        omega
/-- behind k stops: no fall before the next stop, or the first one is found -/
theorem Sh.fall_seg {S : Sh} {n : Nat} {g : Nat → Int} (h : Rising 1 S.nf n g) {k : Nat} (hk : k ≤ n) (hno : ∀ j, j < stopAt g k → S.fallAt (memOf n g) j = false) {b : Nat} (hb : ∀ i, i < n → k ≤ i → (b : Int) ≤ g i) :
    ∀ j, j < S.falls (stopAt g k) → j < b → S.fallAt (memOf n g) j = false := by
  intro j h1 h2
  rcases Nat.lt_or_ge j (stopAt g k) with h3 | h3
  · exact hno j h3
  · unfold Sh.fallAt
    rw [lastS_between h hk j h3 (fun i hi h4 => by have := hb i hi h4; omega)]
    exact (firstFrom_spec (S.fallsAt (stopAt g k)) (S.nf - stopAt g k) (stopAt g k)).2.2.1 j h3 h1
theorem Sh.fall_found {S : Sh} {n : Nat} {g : Nat → Int} (h : Rising 1 S.nf n g) {k : Nat} (hk : k ≤ n) (hno : ∀ j, j < stopAt g k → S.fallAt (memOf n g) j = false) (hb : ∀ i, i < n → k ≤ i → (S.falls (stopAt g k) : Int) < g i) :
    S.firstFall (memOf n g) = S.falls (stopAt g k) := by
  have hs := stopAt_le rfl h hk
  obtain ⟨b1, b2⟩ := S.falls_bd hs
  refine firstFrom_eq _ _ _ _ (Nat.zero_le _) (by omega) (fun j _ hj => Sh.fall_seg h hk hno (b := S.falls (stopAt g k)) (fun i hi h4 => Int.le_of_lt (hb i hi h4)) j hj hj) (fun hlt => ?_)
  unfold Sh.fallAt
  rw [lastS_between h hk _ b1 hb]
  exact (firstFrom_spec (S.fallsAt (stopAt g k)) (S.nf - stopAt g k) (stopAt g k)).2.2.2 (by unfold Sh.falls at hlt; omega)
theorem Rising.count {N : Nat} {n : Nat} {g : Nat → Int} (h : Rising 1 N n g) : n ≤ N := by
  have key : ∀ k, k < n → (k : Int) + 1 ≤ g k := by
    intro k
    induction k with
    | zero => intro hk; have := h.lo 0 hk; omega
    | succ k ih => intro hk; have := ih (by omega); have := h.lt k (k + 1) (by omega) hk; omega
  rcases Nat.eq_zero_or_pos n with h0 | h0
  · omega
  · have := key (n - 1) (by omega); have := h.hi (n - 1) (by omega); omega
/-- stops that are a plan -/
structure Sh.Plan (S : Sh) (m : Nat) (g : Nat → Int) : Prop where
  rising : Rising 1 S.nf m g
  fall : S.firstFall (memOf m g) = S.nf
  rest : ∀ i, i < m → S.restsB (g i).toNat = true
  last : stopAt g m = S.nf
open Classical in
noncomputable def Sh.planB (S : Sh) (m : Nat) (g : Nat → Int) : Bool := if S.Plan m g then true else false
theorem Sh.planB_t {S : Sh} {m : Nat} {g : Nat → Int} (h : S.Plan m g) : S.planB m g = true := if_pos h
theorem Sh.planB_f {S : Sh} {m : Nat} {g : Nat → Int} (h : ¬ S.Plan m g) : S.planB m g = false := if_neg h
theorem Sh.planB_iff {S : Sh} {m : Nat} {g : Nat → Int} : S.planB m g = true ↔ S.Plan m g := by
  by_cases h : S.Plan m g
  · simp [Sh.planB_t h, h]
  · simp [Sh.planB_f h, h]
/-- what all feet and the rings of some stops cost, and how many hours they take -/
def Sh.costOf (S : Sh) (m : Nat) (g : Nat → Int) : Int := sumTo S.price S.nf + sumTo (fun i => S.ringc (g i).toNat) m
end Go.Proofs.YtjpfdhhiofjpbaaGreatDoor


namespace Go.Proofs.YtjpfdhhiofjpbaaGreatDoor
open Go.RowKit Go.Sort

theorem stBad_cases (lo hi : Int) (g : Nat → Int) (k : Nat) : (inR (g k) lo hi = false ∧ stBad lo hi g k = true) ∨ (inR (g k) lo hi = true ∧ decide ((0 : Int) < (k : Int)) = false ∧ decide (0 < k) = false ∧ stBad lo hi g k = false) ∨
    (inR (g k) lo hi = true ∧ (0 : Int) < (k : Int) ∧ 0 < k ∧ g k ≤ g (k - 1) ∧ stBad lo hi g k = true) ∨ (inR (g k) lo hi = true ∧ (0 : Int) < (k : Int) ∧ 0 < k ∧ ¬ g k ≤ g (k - 1) ∧ stBad lo hi g k = false) := by
  unfold stBad
  cases inR (g k) lo hi
  · simp
  · by_cases h : 0 < k
    · have h' : (0 : Int) < (k : Int) := by omega
      by_cases h2 : g k ≤ g (k - 1) <;> simp [h, h2]
    · have h' : decide ((0 : Int) < (k : Int)) = false := by simp; omega
      simp [h]
theorem rising_no {lo hi : Int} {n k : Nat} {g : Nat → Int} (h : k < n) (hb : stBad lo hi g k = true) : risingB lo hi n g = false := by simp [risingB, anyB_hit h hb]
theorem rising_yes {lo hi : Int} {n : Nat} {g : Nat → Int} (h : anyB (stBad lo hi g) n = false) : risingB lo hi n g = true := by simp [risingB, h]

set_option maxHeartbeats 1000000 in
theorem rising_any (A : Option Addr) (n c : Nat) (g : Nat → Int) (lo hi : Int) (w : World) (hn : n ≤ 9223372036854775807) (hg : IntsAt w A n g) :
    Calls Tryz.prog 210 #[.slice A n c, .int .i64 lo, .int .i64 hi] w fun e w' => e = .returned (.bool (risingB lo hi n g)) ∧ Below w.heap.size w w' := by
  have HC := Lib.hid hg
  clear hg
  go_enter Tryz.func210, Tryz.ntmps210
  go_wp2_with fail
  go_loopw [7] (fun i wr => ∃ k : Nat, k ≤ n ∧ i = .int .i64 k ∧ anyB (stBad lo hi g) k = false ∧ Below w.heap.size w wr) (fun i _ => n - (intOf i).toNat)
  case atStart => exact ⟨0, Nat.zero_le _, rfl, rfl, Below.refl _ _⟩
  case round =>
    obtain ⟨k, hk, rfl, hno, hbel⟩ := hrel
    have HN := Lib.hid hno
    clear hno
    by_cases hlt : k < n
    · rcases HC.out.mono hbel with h0 | ⟨b, o, hA, hb, hcell⟩
      · omega
      have c0 := hcell k hlt
      have c1 := hcell (k - 1) (by omega)
      clear hcell
      subst hA
      rcases stBad_cases lo hi g k with ⟨g1, he⟩ | ⟨g1, g2, g3, he⟩ | ⟨g1, g2, g3, g4, he⟩ | ⟨g1, g2, g3, g4, he⟩
      all_goals
        have HE := Lib.hid he
        clear he
        go_wp2_with fail
        refine wp_region_quiet_below (by kernel_rfl) (by kernel_rfl) ?_
        repeat (go_big_quiet_step ((go_at_call 45; exact Calls.regrown_of ((Within01_any _ _ _ _).mono fun _ _ h => ⟨h.1, h.2 ▸ Below.refl _ _⟩))))
        refine wpQuiet_nil ?_
        intro w3 hw3
        have hb3 := below_of_regrown hw3
        clear hw3
        go_wp2_with fail
      · go_ret
        exact ⟨ret_bool (rising_no hlt HE.out).symm, bTrans hbel hb3⟩
      · go_roundw
        case rel => exact ⟨k + 1, by omega, by go_num, anyB_step HN.out HE.out, bTrans hbel hb3⟩
        case measure => simp [intOf]; omega
      · go_ret
        exact ⟨ret_bool (rising_no hlt HE.out).symm, bTrans hbel hb3⟩
      · go_roundw
        case rel => exact ⟨k + 1, by omega, by go_num, anyB_step HN.out HE.out, bTrans hbel hb3⟩
        case measure => simp [intOf]; omega
    · obtain rfl : k = n := by omega
      go_wp2_with fail
      go_ret
      exact ⟨ret_bool (rising_yes HN.out).symm, hbel⟩
theorem areStops_ref (Ar Af : Option Addr) (cr cf : Nat) (S : Sh) (A : Option Addr) (n c : Nat) (g : Nat → Int) (w : World) (hn : n ≤ 9223372036854775807) (hg : IntsAt w A n g) :
    Calls Tryz.prog 204 #[.agg #[.slice Ar S.nr cr, .slice Af S.nf cf, .int .i64 S.deep, .int .i64 S.haul, .int .i64 S.rest], .slice A n c] w fun e w' => e = .returned (.bool (risingB 1 S.nf n g)) ∧ Below w.heap.size w w' := by
  have hb0 := bAlloc (Below.refl w.heap.size w) (.cells #[.slice Ar S.nr cr, .slice Af S.nf cf, .int .i64 S.deep, .int .i64 S.haul, .int .i64 S.rest] 57)
  have HS := Lib.hid (hg.mono hb0)
  have HB := Lib.hid hb0
  clear hg hb0
  go_enter Tryz.func204, Tryz.ntmps204
  go_wp2_with (go_at_call 210; refine (rising_any _ _ _ g _ _ _ hn HS.out).mono ?_; rintro e w1 ⟨rfl, hb1⟩)
  go_ret
  exact ⟨rfl, bTrans HB.out hb1⟩
end Go.Proofs.YtjpfdhhiofjpbaaGreatDoor


namespace Go.Proofs.YtjpfdhhiofjpbaaGreatDoor
open Go.RowKit Go.Sort

theorem rockOf_any (Ar Af : Option Addr) (cr cf : Nat) (S : Sh) (w : World) (ok : S.Ok) (hS : ShAt w Ar Af S) (n : Int) (i : Nat) (hn : n = i) (hi : i < S.nf) :
    Calls Tryz.prog 207 #[.agg #[.slice Ar S.nr cr, .slice Af S.nf cf, .int .i64 S.deep, .int .i64 S.haul, .int .i64 S.rest], .int .i64 n] w fun e w' => e = .returned (.agg #[.int .i64 (S.rk i).hours, .int .i64 (S.rk i).pence, .int .i64 (S.rk i).stand, .int .i64 (S.rk i).seat]) ∧ Below w.heap.size w w' := by
  subst hn
  obtain ⟨ba, oa, bf, of_, k, rfl, rfl, hba, hbf, hk, c0, c1, c2, c3, c4⟩ := hS.foot ok hi
  have hnr := ok.nr
  have hnf := ok.nf
  go_enter Tryz.func207, Tryz.ntmps207
  go_wp2_with fail
  go_region
  go_wp2_with fail
  exact bodyPost_ret (v := .agg #[.int .i64 (S.rk i).hours, .int .i64 (S.rk i).pence, .int .i64 (S.rk i).stand, .int .i64 (S.rk i).seat]) (by simp [results, Tryz.results207, go_sem]) rfl ⟨rfl, by (repeat (first | (with_reducible exact Below.refl _ _) | (with_reducible refine bAlloc ?_ _) | (with_reducible refine bDrew ?_) | (with_reducible refine bGrow ?_ _ _) | (with_reducible refine bSet ?_ ?_ _; (first | exact Nat.le_refl _ | exact Nat.le_add_right _ _ | (simp; omega))) | (with_reducible refine bTrans ?_ (by assumption))))⟩
theorem priceOf_any (Ar Af : Option Addr) (cr cf : Nat) (S : Sh) (w : World) (ok : S.Ok) (hS : ShAt w Ar Af S) (i : Nat) (hi : i < S.nf) :
    Calls Tryz.prog 194 #[.agg #[.slice Ar S.nr cr, .slice Af S.nf cf, .int .i64 S.deep, .int .i64 S.haul, .int .i64 S.rest], .int .i64 i] w fun e w' => e = .returned (.int .i64 (S.price i)) ∧ Below w.heap.size w w' := by
  have hb0 := bAlloc (Below.refl w.heap.size w) (.cells #[.slice Ar S.nr cr, .slice Af S.nf cf, .int .i64 S.deep, .int .i64 S.haul, .int .i64 S.rest] 57)
  have HS := Lib.hid (hS.mono hb0)
  have HB := Lib.hid hb0
  clear hS hb0
  have hr := ok.rk hi
  have hp0 := hr.p0
  have hp1 := hr.p1
  have hnf := ok.nf
  obtain ⟨m0, m1⟩ := sh_mul_bd (a := i) (b := S.deep) (by omega) (by omega) ok.d0 ok.d1
  go_enter Tryz.func194, Tryz.ntmps194
  go_wp2_with fail
  refine wp_region_quiet_below (by kernel_rfl) (by kernel_rfl) ?_
  repeat (go_big_quiet_step ((go_at_call 207; exact Calls.regrown_of (rockOf_any _ _ _ _ S _ ok (HS.out.mono (below_regrown _ _ _)) _ i rfl hi))))
  refine wpQuiet_nil ?_
  intro w1 hw1
  have hb1 := below_of_regrown hw1
  clear hw1
  go_wp2_with fail
  go_ret
  exact ⟨rfl, bTrans HB.out hb1⟩
theorem ringOf_any (Ar Af : Option Addr) (cr cf : Nat) (S : Sh) (w : World) (ok : S.Ok) (hS : ShAt w Ar Af S) (n : Int) (d : Nat) (hn : n = d) (h1 : 1 ≤ d) (hd : d ≤ S.nf) :
    Calls Tryz.prog 195 #[.agg #[.slice Ar S.nr cr, .slice Af S.nf cf, .int .i64 S.deep, .int .i64 S.haul, .int .i64 S.rest], .int .i64 n] w fun e w' => e = .returned (.int .i64 (S.ringc d)) ∧ Below w.heap.size w w' := by
  subst hn
  have hb0 := bAlloc (Below.refl w.heap.size w) (.cells #[.slice Ar S.nr cr, .slice Af S.nf cf, .int .i64 S.deep, .int .i64 S.haul, .int .i64 S.rest] 57)
  have HS := Lib.hid (hS.mono hb0)
  have HB := Lib.hid hb0
  clear hS hb0
  have hi : d - 1 < S.nf := by omega
  have hr := ok.rk hi
  have hp0 := hr.t0
  have hp1 := hr.t1
  have hnf := ok.nf
  obtain ⟨m0, m1⟩ := sh_mul_bd (a := d) (b := S.haul) (by omega) (by omega) ok.l0 ok.l1
  go_enter Tryz.func195, Tryz.ntmps195
  go_wp2_with fail
  refine wp_region_quiet_below (by kernel_rfl) (by kernel_rfl) ?_
  repeat (go_big_quiet_step ((go_at_call 207; exact Calls.regrown_of (rockOf_any _ _ _ _ S _ ok (HS.out.mono (below_regrown _ _ _)) _ (d - 1) (by omega) hi))))
  refine wpQuiet_nil ?_
  intro w1 hw1
  have hb1 := below_of_regrown hw1
  clear hw1
  go_wp2_with fail
  go_ret
  exact ⟨rfl, bTrans HB.out hb1⟩
theorem canRest_any (Ar Af : Option Addr) (cr cf : Nat) (S : Sh) (w : World) (ok : S.Ok) (hS : ShAt w Ar Af S) (n : Int) (d : Nat) (hn : n = d) (h1 : 1 ≤ d) (hd : d ≤ S.nf) :
    Calls Tryz.prog 206 #[.agg #[.slice Ar S.nr cr, .slice Af S.nf cf, .int .i64 S.deep, .int .i64 S.haul, .int .i64 S.rest], .int .i64 n] w fun e w' => e = .returned (.bool (S.restsB d)) ∧ Below w.heap.size w w' := by
  subst hn
  have hb0 := bAlloc (Below.refl w.heap.size w) (.cells #[.slice Ar S.nr cr, .slice Af S.nf cf, .int .i64 S.deep, .int .i64 S.haul, .int .i64 S.rest] 57)
  have HS := Lib.hid (hS.mono hb0)
  have HB := Lib.hid hb0
  clear hS hb0
  have hi : d - 1 < S.nf := by omega
  have hnf := ok.nf
  go_enter Tryz.func206, Tryz.ntmps206
  go_wp2_with (go_at_call 207; refine (rockOf_any _ _ _ _ S _ ok HS.out _ (d - 1) (by omega) hi).mono ?_; rintro e w1 ⟨rfl, hb1⟩)
  go_ret
  exact ⟨rfl, bTrans HB.out hb1⟩
end Go.Proofs.YtjpfdhhiofjpbaaGreatDoor


namespace Go.Proofs.YtjpfdhhiofjpbaaGreatDoor
open Go.RowKit Go.Sort

set_option maxHeartbeats 1000000 in
theorem in_any (A : Option Addr) (n c : Nat) (g : Nat → Int) (x : Int) (w : World) (hn : n ≤ 9223372036854775807) (hg : IntsAt w A n g) :
    Calls Tryz.prog 41 #[.slice A n c, .int .i64 x] w fun e w' => e = .returned (.bool (anyB (fun i => g i == x) n)) ∧ Below w.heap.size w w' := by
  have HC := Lib.hid hg
  clear hg
  go_enter Tryz.func41, Tryz.ntmps41
  go_wp2_with fail
  go_loop [5] (fun i => ∃ k : Nat, k ≤ n ∧ i = .int .i64 k ∧ anyB (fun i => g i == x) k = false) (fun i => n - (intOf i).toNat)
  case atStart => exact ⟨0, Nat.zero_le _, rfl, rfl⟩
  case round =>
    obtain ⟨k, hk, rfl, hno⟩ := hrel
    have HN := Lib.hid hno
    clear hno
    by_cases hlt : k < n
    · rcases HC.out with h0 | ⟨b, o, hA, hb, hcell⟩
      · omega
      have c0 := hcell k hlt
      clear hcell
      subst hA
      cases he : (g k == x)
      · go_wp2_with fail
        go_round
        case rel => exact ⟨k + 1, by omega, by go_num, anyB_step HN.out he⟩
        case measure => simp [intOf]; omega
      · go_wp2_with fail
        go_ret
        exact ⟨ret_bool (anyB_hit hlt he).symm, Below.refl _ _⟩
    · obtain rfl : k = n := by omega
      go_wp2_with fail
      go_ret
      exact ⟨ret_bool HN.out.symm, Below.refl _ _⟩
end Go.Proofs.YtjpfdhhiofjpbaaGreatDoor


namespace Go.Proofs.YtjpfdhhiofjpbaaGreatDoor
open Go.RowKit Go.Sort

def Sh.fallsOf (S : Sh) (mem : Nat → Bool) : Int := if S.firstFall mem = S.nf then -1 else S.firstFall mem
theorem Sh.fallsOf_some {S : Sh} {mem : Nat → Bool} {f : Nat} (hf : f < S.nf) (h : ∀ j, j < f → S.fallAt mem j = false) (h2 : S.fallAt mem f = true) : S.fallsOf mem = f := by
  have e : S.firstFall mem = f := firstFrom_eq _ _ _ _ (Nat.zero_le _) (by omega) (fun j _ hj => h j hj) fun _ => h2
  unfold Sh.fallsOf; rw [e, if_neg (by omega)]
theorem Sh.fallsOf_none {S : Sh} {mem : Nat → Bool} (h : ∀ j, j < S.nf → S.fallAt mem j = false) : S.fallsOf mem = -1 := by
  have e : S.firstFall mem = S.nf := firstFrom_eq _ _ _ _ (Nat.zero_le _) (by omega) (fun j _ hj => h j hj) fun h => by omega
  unfold Sh.fallsOf; rw [if_pos e]
theorem forall_lt_succ {p : Nat → Prop} {f : Nat} (h : ∀ j, j < f → p j) (h2 : p f) : ∀ j, j < f + 1 → p j := fun j hj => by
  rcases Nat.lt_or_ge j f with h3 | h3
  · exact h j h3
  · obtain rfl : j = f := by omega
    exact h2
theorem memOf_at {m : Nat} {g : Nat → Int} {f : Nat} {b : Bool} (h : memOf m g (f + 1) = b) : anyB (fun i => g i == (f : Int) + 1) m = b := by rw [← h]; rfl

set_option maxHeartbeats 2000000 in
theorem fallsOf_any (Ar Af : Option Addr) (cr cf : Nat) (S : Sh) (w : World) (ok : S.Ok) (hS : ShAt w Ar Af S) (A : Option Addr) (n c : Nat) (g : Nat → Int) (hn : n ≤ 9223372036854775807) (hg : IntsAt w A n g) :
    Calls Tryz.prog 205 #[.agg #[.slice Ar S.nr cr, .slice Af S.nf cf, .int .i64 S.deep, .int .i64 S.haul, .int .i64 S.rest], .slice A n c] w fun e w' => e = .returned (.int .i64 (S.fallsOf (memOf n g))) ∧ Below w.heap.size w w' := by
  have hb0 := bAlloc (Below.refl w.heap.size w) (.cells #[.slice Ar S.nr cr, .slice Af S.nf cf, .int .i64 S.deep, .int .i64 S.haul, .int .i64 S.rest] 57)
  have HS := Lib.hid (hS.mono hb0)
  have HG := Lib.hid (hg.mono hb0)
  have HB := Lib.hid hb0
  clear hS hg hb0
  have hnf := ok.nf
  go_enter Tryz.func205, Tryz.ntmps205
  go_wp2_with fail
  go_loopw [5, 6] (fun l i wr => ∃ f : Nat, f ≤ S.nf ∧ i = .int .i64 f ∧ l = .int .i64 (lastS (memOf n g) f) ∧ (∀ j, j < f → S.fallAt (memOf n g) j = false) ∧ Below (w.alloc (.cells #[.slice Ar S.nr cr, .slice Af S.nf cf, .int .i64 S.deep, .int .i64 S.haul, .int .i64 S.rest] 57)).heap.size (w.alloc (.cells #[.slice Ar S.nr cr, .slice Af S.nf cf, .int .i64 S.deep, .int .i64 S.haul, .int .i64 S.rest] 57)) wr) (fun _ i _ => S.nf - (intOf i).toNat)
  case atStart => exact ⟨0, Nat.zero_le _, rfl, rfl, fun j h1 => by omega, Below.refl _ _⟩
  case round =>
    obtain ⟨f, hf, rfl, rfl, hno, hbel⟩ := hrel
    have HN := Lib.hid hno
    clear hno
    obtain ⟨bc, bf⟩ := bcell hbel
    have hz := hbel.size
    simp only [World.size_alloc] at hz
    have hy : w.heap.size < wr.heap.size := hz
    obtain ⟨l, hl⟩ : ∃ l, l = lastS (memOf n g) f := ⟨_, rfl⟩
    have hlf : l ≤ f := hl ▸ lastS_le _ _
    rw [← hl]
    have HL := Lib.hid hl
    clear hl
    by_cases hlt : f < S.nf
    · go_wp2_with fail
      obtain ⟨wo, rfl⟩ : ∃ wo : World, wo = wr := ⟨_, rfl⟩
      go_loopw [7] (fun i wr => ∃ t : Nat, l ≤ t ∧ t ≤ f + 1 ∧ i = .int .i64 t ∧ (∀ j, l ≤ j → j < t → ¬ (S.rk j).stand < (f : Int) - l + 1) ∧ Below wo.heap.size wo wr) (fun i _ => f + 1 - (intOf i).toNat)
      case atStart => exact ⟨l, Nat.le_refl _, by omega, rfl, fun j h1 h2 => by omega, Below.refl _ _⟩
      case round =>
        obtain ⟨t, ht1, ht2, rfl, hno, hbel2⟩ := hrel
        have HM := Lib.hid hno
        clear hno
        obtain ⟨bc2, bf2⟩ := bcell hbel2
        have hz2 := hbel2.size
        have hy2 : w.heap.size < wr.heap.size := by omega
        by_cases hlt2 : t < f + 1
        · have r0 := (ok.rk (i := t) (by omega)).s0
          have r1 := (ok.rk (i := t) (by omega)).s1
          by_cases hst : (S.rk t).stand < (f : Int) - l + 1
          · have HF := Lib.hid (show S.fallAt (memOf n g) f = true by unfold Sh.fallAt; rw [← HL.out, Sh.fallsAt_iff hlf (by omega)]; exact ⟨t, ht1, by omega, hst⟩)
            go_wp2_with (go_at_call 207; refine (rockOf_any _ _ _ _ S _ ok ((HS.out.mono hbel).mono hbel2) _ t (by omega) (by omega)).mono ?_; rintro e w1 ⟨rfl, hb1⟩)
            go_ret
            exact ⟨ret_int (Sh.fallsOf_some hlt HN.out HF.out).symm, bTrans (bTrans (bTrans HB.out hbel) hbel2) hb1⟩
          · go_wp2_with (go_at_call 207; refine (rockOf_any _ _ _ _ S _ ok ((HS.out.mono hbel).mono hbel2) _ t (by omega) (by omega)).mono ?_; rintro e w1 ⟨rfl, hb1⟩)
            go_roundw
            case rel => exact ⟨t + 1, by omega, by omega, by go_num, fun j h1 h2 => by (rcases Nat.lt_or_ge j t with h | h); (have := HM.out j h1 h; omega); (obtain rfl : j = t := by omega); omega, bTrans hbel2 hb1⟩
            case measure => simp [intOf]; omega
        · obtain rfl : t = f + 1 := by omega
          have HF := Lib.hid (show S.fallAt (memOf n g) f = false by
            cases e : S.fallAt (memOf n g) f
            · rfl
            · unfold Sh.fallAt at e; rw [← HL.out, Sh.fallsAt_iff hlf (by omega)] at e
              obtain ⟨i, h1, h2, h3⟩ := e
              exact absurd h3 (HM.out i h1 (by omega)))
          have HG2 := Lib.hid ((HG.out.mono hbel).mono hbel2)
          cases hm : memOf n g (f + 1)
          · have hm2 := memOf_at hm
            have HLS := Lib.hid (show lastS (memOf n g) (f + 1) = l by rw [lastS, hm]; simp [HL.out])
            clear hm
            go_wp2_with (go_at_call 41; refine (in_any _ _ _ g _ _ hn HG2.out).mono ?_; rintro e w1 ⟨rfl, hb1⟩)
            go_roundw
            case rel => exact ⟨f + 1, by omega, by go_num, by rw [HLS.out], forall_lt_succ HN.out HF.out, bTrans (bTrans hbel hbel2) hb1⟩
            case measure => simp [intOf]; omega
          · have hm2 := memOf_at hm
            have HLS := Lib.hid (show lastS (memOf n g) (f + 1) = f + 1 by rw [lastS, hm]; simp)
            clear hm
            go_wp2_with (go_at_call 41; refine (in_any _ _ _ g _ _ hn HG2.out).mono ?_; rintro e w1 ⟨rfl, hb1⟩)
            go_roundw
            case rel => exact ⟨f + 1, by omega, by go_num, by rw [HLS.out]; go_num, forall_lt_succ HN.out HF.out, bTrans (bTrans hbel hbel2) hb1⟩
            case measure => simp [intOf]; omega
    · obtain rfl : f = S.nf := by omega
      go_wp2_with fail
      go_ret
      exact ⟨ret_int (Sh.fallsOf_none HN.out).symm, bTrans HB.out hbel⟩
end Go.Proofs.YtjpfdhhiofjpbaaGreatDoor


namespace Go.Proofs.YtjpfdhhiofjpbaaGreatDoor
open Go.RowKit Go.Sort
theorem stop_nat {S : Sh} {m : Nat} {g : Nat → Int} (h : Rising 1 S.nf m g) {k : Nat} (hk : k < m) : g k = ((g k).toNat : Int) ∧ 1 ≤ (g k).toNat ∧ (g k).toNat ≤ S.nf := by
  have := h.lo k hk; have := h.hi k hk; omega
theorem rings_bd {S : Sh} (ok : S.Ok) {m : Nat} {g : Nat → Int} (h : Rising 1 S.nf m g) {k : Nat} (hk : k ≤ m) : -12 ≤ sumTo (fun i => S.ringc (g i).toNat) k ∧ sumTo (fun i => S.ringc (g i).toNat) k ≤ 2484 := by
  have h1 := sumTo_bd (f := fun i => S.ringc (g i).toNat) (n := k) (lo := -1) (hi := 207) fun i hi => ringc_bd ok (stop_nat h (by omega)).2.1 (stop_nat h (by omega)).2.2
  have := h.count
  have hnf := ok.nf
  omega
set_option maxHeartbeats 2000000 in
theorem costOf_any (Ar Af : Option Addr) (cr cf : Nat) (S : Sh) (w : World) (ok : S.Ok) (hS : ShAt w Ar Af S) (A : Option Addr) (m c : Nat) (g : Nat → Int) (hg : IntsAt w A m g) (hR : Rising 1 S.nf m g) :
    Calls Tryz.prog 180 #[.agg #[.slice Ar S.nr cr, .slice Af S.nf cf, .int .i64 S.deep, .int .i64 S.haul, .int .i64 S.rest], .slice A m c] w fun e w' => e = .returned (.int .i64 (S.costOf m g)) ∧ Below w.heap.size w w' := by
  have hb0 := bAlloc (Below.refl w.heap.size w) (.cells #[.slice Ar S.nr cr, .slice Af S.nf cf, .int .i64 S.deep, .int .i64 S.haul, .int .i64 S.rest] 57)
  have HS := Lib.hid (hS.mono hb0)
  have HG := Lib.hid (hg.mono hb0)
  have HB := Lib.hid hb0
  have HR := Lib.hid hR
  have hm := hR.count
  clear hS hg hb0 hR
  have hnf := ok.nf
  go_enter Tryz.func180, Tryz.ntmps180
  go_wp2_with fail
  go_loopw [5, 6] (fun s i wr => ∃ k : Nat, k ≤ S.nf ∧ i = .int .i64 k ∧ s = .int .i64 (sumTo S.price k) ∧ Below (w.alloc (.cells #[.slice Ar S.nr cr, .slice Af S.nf cf, .int .i64 S.deep, .int .i64 S.haul, .int .i64 S.rest] 57)).heap.size (w.alloc (.cells #[.slice Ar S.nr cr, .slice Af S.nf cf, .int .i64 S.deep, .int .i64 S.haul, .int .i64 S.rest] 57)) wr) (fun _ i _ => S.nf - (intOf i).toNat)
  case atStart => exact ⟨0, Nat.zero_le _, rfl, rfl, Below.refl _ _⟩
  case round =>
    obtain ⟨k, hk, rfl, rfl, hbel⟩ := hrel
    obtain ⟨bc, bf⟩ := bcell hbel
    have hz := hbel.size
    simp only [World.size_alloc] at hz
    have hy : w.heap.size < wr.heap.size := hz
    obtain ⟨d0, d1, _, _⟩ := digs_bd ok hk
    by_cases hlt : k < S.nf
    · obtain ⟨p0, p1⟩ := price_bd ok hlt
      go_wp2_with (go_at_call 194; refine (priceOf_any _ _ _ _ S _ ok (HS.out.mono hbel) k hlt).mono ?_; rintro e w1 ⟨rfl, hb1⟩)
      go_roundw
      case rel => exact ⟨k + 1, by omega, by go_num, rfl, bTrans hbel hb1⟩
      case measure => simp [intOf]; omega
    · obtain rfl : k = S.nf := by omega
      go_wp2_with fail
      obtain ⟨w1, rfl⟩ : ∃ w1 : World, w1 = wr := ⟨_, rfl⟩
      have HB1 := Lib.hid (bTrans HB.out hbel)
      have HS1 := Lib.hid (HS.out.mono hbel)
      have HG1 := Lib.hid (HG.out.mono hbel)
      clear hbel
      go_loopw [5, 7] (fun s i wr => ∃ k : Nat, k ≤ m ∧ i = .int .i64 k ∧ s = .int .i64 (sumTo S.price S.nf + sumTo (fun i => S.ringc (g i).toNat) k) ∧ Below w1.heap.size w1 wr) (fun _ i _ => m - (intOf i).toNat)
      case atStart => exact ⟨0, Nat.zero_le _, rfl, by simp [sumTo], Below.refl _ _⟩
      case round =>
        obtain ⟨k, hk, rfl, rfl, hbel⟩ := hrel
        obtain ⟨bc2, bf2⟩ := bcell hbel
        have hz2 := hbel.size
        have hy2 : w.heap.size < wr.heap.size := by omega
        obtain ⟨e0, e1⟩ := rings_bd ok HR.out hk
        by_cases hlt : k < m
        · rcases HG1.out.mono hbel with h0 | ⟨b, o, hA, hb, hcell⟩
          · omega
          have c0 := hcell k hlt
          clear hcell
          subst hA
          obtain ⟨hs0, hs1, hs2⟩ := stop_nat HR.out hlt
          obtain ⟨r0, r1⟩ := ringc_bd ok hs1 hs2
          have HS0 := Lib.hid hs0
          clear hs0
          go_wp2_with fail
          refine wp_region_quiet_below (by kernel_rfl) (by kernel_rfl) ?_
          repeat (go_big_quiet_step ((go_at_call 195; exact Calls.regrown_of (ringOf_any _ _ _ _ S _ ok ((HS1.out.mono hbel).mono (below_regrown _ _ _)) _ _ HS0.out hs1 hs2))))
          refine wpQuiet_nil ?_
          intro w3 hw3
          have hb3 := below_of_regrown hw3
          clear hw3
          go_wp2_with fail
          go_roundw
          case rel => exact ⟨k + 1, by omega, by go_num, by simp only [sumTo]; go_num, bTrans hbel hb3⟩
          case measure => simp [intOf]; omega
        · obtain rfl : k = m := by omega
          go_wp2_with fail
          go_ret
          exact ⟨rfl, bTrans HB1.out hbel⟩
end Go.Proofs.YtjpfdhhiofjpbaaGreatDoor


namespace Go.Proofs.YtjpfdhhiofjpbaaGreatDoor
open Go.RowKit Go.Sort
theorem firstFall_le (S : Sh) (mem : Nat → Bool) : S.firstFall mem ≤ S.nf := by
  have := (firstFrom_spec (S.fallAt mem) S.nf 0).2.1; unfold Sh.firstFall; omega
theorem fallsOf_cases (S : Sh) (mem : Nat → Bool) : (S.firstFall mem = S.nf ∧ S.fallsOf mem = -1) ∨ (S.firstFall mem < S.nf ∧ S.fallsOf mem = S.firstFall mem ∧ 0 ≤ S.fallsOf mem) := by
  have := firstFall_le S mem
  unfold Sh.fallsOf
  by_cases h : S.firstFall mem = S.nf
  · exact .inl ⟨h, if_pos h⟩
  · rw [if_neg h]; exact .inr ⟨by omega, rfl, by omega⟩
theorem plan_last {S : Sh} {m : Nat} {g : Nat → Int} (hR : Rising 1 S.nf m g) : (((S.nf : Int) == 0) = true ∧ (S.nf == 0) = true ∧ stopAt g m = S.nf) ∨
    (((S.nf : Int) == 0) = false ∧ (S.nf == 0) = false ∧ decide ((0 : Int) < (m : Int)) = false ∧ decide (0 < m) = false ∧ stopAt g m ≠ S.nf) ∨
    (((S.nf : Int) == 0) = false ∧ (S.nf == 0) = false ∧ (0 : Int) < (m : Int) ∧ 0 < m ∧ (g (m - 1) == (S.nf : Int)) = false ∧ stopAt g m ≠ S.nf) ∨
    (((S.nf : Int) == 0) = false ∧ (S.nf == 0) = false ∧ (0 : Int) < (m : Int) ∧ 0 < m ∧ (g (m - 1) == (S.nf : Int)) = true ∧ stopAt g m = S.nf) := by
  have hc := hR.count
  by_cases h0 : S.nf = 0
  · have : m = 0 := by omega
    subst this
    exact .inl ⟨by simp [h0], by simp [h0], by simp [stopAt, h0]⟩
  · have e1 : ((S.nf : Int) == 0) = false := by simp [h0]
    have e2 : (S.nf == 0) = false := by simp [h0]
    cases m with
    | zero => exact .inr (.inl ⟨e1, e2, by simp, by simp, by simp only [stopAt]; omega⟩)
    | succ k =>
      have hl := hR.lo k (by omega)
      by_cases h : g k = (S.nf : Int)
      · exact .inr (.inr (.inr ⟨e1, e2, by omega, by omega, by simp [h], by simp only [stopAt]; omega⟩))
      · exact .inr (.inr (.inl ⟨e1, e2, by omega, by omega, by simp [h], by simp only [stopAt]; omega⟩))
set_option maxHeartbeats 2000000 in
theorem isPlan_any (Ar Af : Option Addr) (cr cf : Nat) (S : Sh) (w : World) (ok : S.Ok) (hS : ShAt w Ar Af S) (A : Option Addr) (m c : Nat) (g : Nat → Int) (hm : m ≤ 9223372036854775807) (hg : IntsAt w A m g) :
    Calls Tryz.prog 193 #[.agg #[.slice Ar S.nr cr, .slice Af S.nf cf, .int .i64 S.deep, .int .i64 S.haul, .int .i64 S.rest], .slice A m c] w fun e w' => e = .returned (.bool (S.planB m g)) ∧ Below w.heap.size w w' := by
  have hb0 := bAlloc (Below.refl w.heap.size w) (.cells #[.slice Ar S.nr cr, .slice Af S.nf cf, .int .i64 S.deep, .int .i64 S.haul, .int .i64 S.rest] 57)
  have HS := Lib.hid (hS.mono hb0)
  have HG := Lib.hid (hg.mono hb0)
  have HB := Lib.hid hb0
  clear hS hg hb0
  have hnf := ok.nf
  cases hrb : risingB 1 S.nf m g
  · have HE := Lib.hid (S.planB_f (m := m) (g := g) fun h => by rw [rising_iff.2 h.rising] at hrb; cases hrb)
    go_enter Tryz.func193, Tryz.ntmps193
    go_wp2_with (go_at_call 204; refine (areStops_ref _ _ _ _ S _ _ _ g _ hm HG.out).mono ?_; rintro e w1 ⟨rfl, hb1⟩)
    go_ret
    exact ⟨ret_bool HE.out.symm, bTrans HB.out hb1⟩
  · have HR := Lib.hid (rising_iff.1 hrb)
    rcases fallsOf_cases S (memOf m g) with ⟨hff, hfo⟩ | ⟨hff, _, hfo⟩
    · have HFF := Lib.hid hff
      clear hff
      go_enter Tryz.func193, Tryz.ntmps193
      go_wp2_with (first | (go_at_call 204; refine (areStops_ref _ _ _ _ S _ _ _ g _ hm HG.out).mono ?_; rintro e w1 ⟨rfl, hb1⟩; obtain ⟨bc1, bf1⟩ := bcell hb1; have hz1 := hb1.size; simp only [World.size_alloc] at hz1; have hy1 : w.heap.size < w1.heap.size := hz1) | (go_at_call 205; refine (fallsOf_any _ _ _ _ S _ ok (HS.out.mono hb1) _ _ _ g hm (HG.out.mono hb1)).mono ?_; rintro e w2 ⟨rfl, hb2⟩; obtain ⟨bc2, bf2⟩ := bcell hb2; have hz2 := hb2.size; have hy2 : w.heap.size < w2.heap.size := (by omega)))
      have HB2 := Lib.hid (bTrans (bTrans HB.out hb1) hb2)
      have HS2 := Lib.hid ((HS.out.mono hb1).mono hb2)
      have HG2 := Lib.hid ((HG.out.mono hb1).mono hb2)
      clear hb1 hb2
      go_loopw [5] (fun i wr => ∃ k : Nat, k ≤ m ∧ i = .int .i64 k ∧ (∀ j, j < k → S.restsB (g j).toNat = true) ∧ Below w2.heap.size w2 wr) (fun i _ => m - (intOf i).toNat)
      case atStart => exact ⟨0, Nat.zero_le _, rfl, fun j hj => by omega, Below.refl _ _⟩
      case round =>
        obtain ⟨k, hk, rfl, hno, hbel⟩ := hrel
        have HN := Lib.hid hno
        clear hno
        obtain ⟨bc3, bf3⟩ := bcell hbel
        have hz3 := hbel.size
        have hy3 : w.heap.size < wr.heap.size := by omega
        by_cases hlt : k < m
        · rcases HG2.out.mono hbel with h0 | ⟨b, o, hA, hb, hcell⟩
          · omega
          have c0 := hcell k hlt
          clear hcell
          subst hA
          obtain ⟨hs0, hs1, hs2⟩ := stop_nat HR.out hlt
          have HS0 := Lib.hid hs0
          clear hs0
          cases hrest : S.restsB (g k).toNat
          all_goals
            go_wp2_with fail
            refine wp_region_quiet_below (by kernel_rfl) (by kernel_rfl) ?_
            repeat (go_big_quiet_step ((go_at_call 206; exact Calls.regrown_of (canRest_any _ _ _ _ S _ ok ((HS2.out.mono hbel).mono (below_regrown _ _ _)) _ _ HS0.out hs1 hs2))))
            refine wpQuiet_nil ?_
            intro w4 hw4
            have hb4 := below_of_regrown hw4
            clear hw4
            go_wp2_with fail
          · go_ret
            exact ⟨ret_bool (S.planB_f fun h => by rw [h.rest k hlt] at hrest; cases hrest).symm, bTrans (bTrans HB2.out hbel) hb4⟩
          · go_roundw
            case rel => exact ⟨k + 1, by omega, by go_num, forall_lt_succ HN.out hrest, bTrans hbel hb4⟩
            case measure => simp [intOf]; omega
        · obtain rfl : k = m := by omega
          rcases plan_last HR.out with ⟨p1, p2, p3⟩ | ⟨p1, p2, p3, p4, p5⟩ | ⟨p1, p2, p3, p4, p5, p6⟩ | ⟨p1, p2, p3, p4, p5, p6⟩
          · have HP := Lib.hid p3
            clear p3
            go_wp2_with fail
            refine wp_region_quiet_below (by kernel_rfl) (by kernel_rfl) ?_
            repeat (go_big_quiet_step ((fail)))
            refine wpQuiet_nil ?_
            intro w4 hw4
            have hb4 := below_of_regrown hw4
            clear hw4
            go_wp2_with fail
            go_ret
            exact ⟨ret_bool (S.planB_t ⟨HR.out, HFF.out, HN.out, HP.out⟩).symm, bTrans (bTrans HB2.out hbel) hb4⟩
          · have HP := Lib.hid p5
            clear p5
            go_wp2_with fail
            refine wp_region_quiet_below (by kernel_rfl) (by kernel_rfl) ?_
            repeat (go_big_quiet_step ((fail)))
            refine wpQuiet_nil ?_
            intro w4 hw4
            have hb4 := below_of_regrown hw4
            clear hw4
            go_wp2_with fail
            go_ret
            exact ⟨ret_bool (S.planB_f fun h => HP.out h.last).symm, bTrans (bTrans HB2.out hbel) hb4⟩
          all_goals
            have HP := Lib.hid p6
            clear p6
            rcases HG2.out.mono hbel with h0 | ⟨b, o, hA, hb, hcell⟩
            · omega
            have c0 := hcell (k - 1) (by omega)
            clear hcell
            subst hA
            go_wp2_with fail
            refine wp_region_quiet_below (by kernel_rfl) (by kernel_rfl) ?_
            repeat (go_big_quiet_step ((fail)))
            refine wpQuiet_nil ?_
            intro w4 hw4
            have hb4 := below_of_regrown hw4
            clear hw4
            go_wp2_with fail
            go_ret
          · exact ⟨ret_bool (S.planB_f fun h => HP.out h.last).symm, bTrans (bTrans HB2.out hbel) hb4⟩
          · exact ⟨ret_bool (S.planB_t ⟨HR.out, HFF.out, HN.out, HP.out⟩).symm, bTrans (bTrans HB2.out hbel) hb4⟩
    · have HE := Lib.hid (S.planB_f (m := m) (g := g) fun h => by have := h.fall; omega)
      clear hff
      go_enter Tryz.func193, Tryz.ntmps193
      go_wp2_with (first | (go_at_call 204; refine (areStops_ref _ _ _ _ S _ _ _ g _ hm HG.out).mono ?_; rintro e w1 ⟨rfl, hb1⟩; obtain ⟨bc1, bf1⟩ := bcell hb1; have hz1 := hb1.size; simp only [World.size_alloc] at hz1; have hy1 : w.heap.size < w1.heap.size := hz1) | (go_at_call 205; refine (fallsOf_any _ _ _ _ S _ ok (HS.out.mono hb1) _ _ _ g hm (HG.out.mono hb1)).mono ?_; rintro e w2 ⟨rfl, hb2⟩; obtain ⟨bc2, bf2⟩ := bcell hb2; have hz2 := hb2.size; have hy2 : w.heap.size < w2.heap.size := (by omega)))
      go_ret
      exact ⟨ret_bool HE.out.symm, bTrans (bTrans HB.out hb1) hb2⟩
end Go.Proofs.YtjpfdhhiofjpbaaGreatDoor


namespace Go.Proofs.YtjpfdhhiofjpbaaGreatDoor
open Go.RowKit Go.Sort
attribute [go_sem ↓] eqlWay
def ltR (x y : Way) : Bool := decide (x.rings < y.rings)
end Go.Proofs.YtjpfdhhiofjpbaaGreatDoor


namespace Go.Proofs.YtjpfdhhiofjpbaaGreatDoor
open Go.RowKit Go.Sort
open Classical in
noncomputable def Sh.fewestOut (S : Sh) : Int × Int := if ¬ S.Ok then (0, 20) else if S.waysOf ltR S.nf 0 = noWay then (0, 3) else ((S.waysOf ltR S.nf 0).rings, 0)
theorem fewestOut_none {S : Sh} (h : S.Ok) (h2 : S.waysOf ltR S.nf 0 = noWay) : S.fewestOut = (0, 3) := by unfold Sh.fewestOut; rw [if_neg (not_not_intro h), if_pos h2]
theorem fewestOut_some {S : Sh} (h : S.Ok) (h2 : S.waysOf ltR S.nf 0 ≠ noWay) : S.fewestOut = ((S.waysOf ltR S.nf 0).rings, 0) := by unfold Sh.fewestOut; rw [if_neg (not_not_intro h), if_neg h2]
end Go.Proofs.YtjpfdhhiofjpbaaGreatDoor


namespace Go.Proofs.YtjpfdhhiofjpbaaGreatDoor
open Go.RowKit Go.Sort
def emptyS (v : Value) : Prop := ∃ b, v = .slice (some ⟨b, 0, none⟩) 0 0
end Go.Proofs.YtjpfdhhiofjpbaaGreatDoor


namespace Go.Proofs.YtjpfdhhiofjpbaaGreatDoor
open Go.RowKit Go.Sort
attribute [local go_sem] neqFact
set_option maxHeartbeats 4000000 in
set_option maxRecDepth 100000 in
theorem same5_any (Aw Af Bw Bf : Option Addr) (cw cf dw df : Nat) (t : Qt) (w : World) (hs : t.Small) (hA : QAt w Aw Af t) (hB : QAt w Bw Bf t) :
    Calls Tryz.prog 92 #[.agg #[.int .i64 t.wells, .slice Aw t.nw cw, .slice Af t.nf cf], .agg #[.int .i64 t.wells, .slice Bw t.nw dw, .slice Bf t.nf df]] w fun e w' => e = .returned (.bool true) ∧ Below w.heap.size w w' := by
  have hb2 := bAlloc (bAlloc (Below.refl w.heap.size w) (.cells #[.int .i64 t.wells, .slice Aw t.nw cw, .slice Af t.nf cf] 25)) (.cells #[.int .i64 t.wells, .slice Bw t.nw dw, .slice Bf t.nf df] 25)
  have HA := Lib.hid (hA.mono hb2)
  have HB := Lib.hid (hB.mono hb2)
  have HBB := Lib.hid hb2
  have HS := Lib.hid hs
  have hn := hs.1
  have hm := hs.2.1
  clear hA hB hb2 hs
  go_enter Tryz.func92, Tryz.ntmps92
  go_wp2_with fail
  go_loopw [5] (fun s wr => ∃ k : Nat, k ≤ t.nf ∧ s = .int .i64 k ∧ Below ((w.alloc (.cells #[.int .i64 t.wells, .slice Aw t.nw cw, .slice Af t.nf cf] 25)).alloc (.cells #[.int .i64 t.wells, .slice Bw t.nw dw, .slice Bf t.nf df] 25)).heap.size ((w.alloc (.cells #[.int .i64 t.wells, .slice Aw t.nw cw, .slice Af t.nf cf] 25)).alloc (.cells #[.int .i64 t.wells, .slice Bw t.nw dw, .slice Bf t.nf df] 25)) wr) (fun s _ => t.nf - (intOf s).toNat)
  case atStart => exact ⟨0, Nat.zero_le _, rfl, Below.refl _ _⟩
  case round =>
    obtain ⟨k, hk, rfl, hbel⟩ := hrel
    have HL := Lib.hid hbel
    obtain ⟨bc3, bf3⟩ := bcell hbel
    have hz3 := hbel.size
    simp only [World.size_alloc] at hz3
    have hy3 : w.heap.size < wr.heap.size := by omega
    have hv3 : w.heap.size + 1 < wr.heap.size := by omega
    clear hbel
    by_cases hlt : k < t.nf
    · have k1 : (k : Int) < (t.nf : Int) := by omega
      have k0 : (0 : Int) ≤ (k : Int) := by omega
      rcases (HA.out.mono HL.out).facts with h0 | ⟨b, o, e1, hb, hc⟩
      · omega
      obtain ⟨c0, c1, c2, c3, c4⟩ := hc k hlt
      subst e1
      rcases (HB.out.mono HL.out).facts with h0 | ⟨b2, o2, e2, hb2, hc2⟩
      · omega
      obtain ⟨d0, d1, d2, d3, d4⟩ := hc2 k hlt
      subst e2
      generalize t.fact k = f at *
      obtain ⟨f0, f1, f2, f3, f4⟩ := f
      simp only at c0 c1 c2 c3 c4 d0 d1 d2 d3 d4
      clear hc hc2
      go_wp2_with fail
      refine wp_region_quiet_below (by kernel_rfl) (by kernel_rfl) ?_
      repeat (go_big_quiet_step ((fail)))
      refine wpQuiet_nil ?_
      intro w9 hw9
      have HL9 := Lib.hid (bTrans HL.out (below_of_regrown hw9))
      clear hw9
      go_wp2_with fail
      go_roundw
      case rel =>
        refine ⟨k + 1, by omega, ?_, HL9.out⟩
        go_num
      case measure => simp [intOf]; omega
    · obtain rfl : k = t.nf := by omega
      have hk1 : ¬ ((t.nf : Int) < (t.nf : Int)) := by omega
      go_wp2_with fail
      clear bc3 bf3 hz3 hy3 hv3
      go_loopw [6] (fun s wx => ∃ i : Nat, i ≤ t.nw ∧ s = .int .i64 i ∧ Below ((w.alloc (.cells #[.int .i64 t.wells, .slice Aw t.nw cw, .slice Af t.nf cf] 25)).alloc (.cells #[.int .i64 t.wells, .slice Bw t.nw dw, .slice Bf t.nf df] 25)).heap.size ((w.alloc (.cells #[.int .i64 t.wells, .slice Aw t.nw cw, .slice Af t.nf cf] 25)).alloc (.cells #[.int .i64 t.wells, .slice Bw t.nw dw, .slice Bf t.nf df] 25)) wx) (fun s _ => t.nw - (intOf s).toNat)
      case atStart => exact ⟨0, Nat.zero_le _, rfl, HL.out⟩
      case round =>
        obtain ⟨i, hi, rfl, hbel⟩ := hrel
        have HX := Lib.hid hbel
        obtain ⟨bc3, bf3⟩ := bcell hbel
        have hz3 := hbel.size
        simp only [World.size_alloc] at hz3
        have hy3 : w.heap.size < wr.heap.size := by omega
        have hv3 : w.heap.size + 1 < wr.heap.size := by omega
        clear hbel
        by_cases hlt : i < t.nw
        · have k1 : (i : Int) < (t.nw : Int) := by omega
          have k0 : (0 : Int) ≤ (i : Int) := by omega
          rcases (HA.out.mono HX.out).worlds with h0 | ⟨b, o, e1, hb, hc⟩
          · omega
          obtain ⟨A1, a1, c0, hr1, hl1⟩ := hc i hlt
          subst e1
          rcases (HB.out.mono HX.out).worlds with h0 | ⟨b2, o2, e2, hb2, hc2⟩
          · omega
          obtain ⟨A2, a2, d0, hr2, _⟩ := hc2 i hlt
          subst e2
          obtain ⟨x, hx⟩ : ∃ x, t.world i = x := ⟨_, rfl⟩
          rw [hx] at c0 hr1 hl1 d0 hr2
          have HR1 := Lib.hid hr1
          have HR2 := Lib.hid hr2
          clear hc hc2 hx hr1 hr2
          go_wp2_with fail
          refine wp_region_quiet_below (by kernel_rfl) (by kernel_rfl) ?_
          repeat (go_big_quiet_step ((fail)))
          refine wpQuiet_nil ?_
          intro w9 hw9
          have hb9 := below_of_regrown hw9
          have HX9 := Lib.hid (bTrans HX.out hb9)
          have HD9 := Lib.hid hb9
          have e0 := (hb9.cell (p := ⟨b, o + i, none⟩) hb).trans c0
          have e1 := (hb9.cell (p := ⟨b2, o2 + i, none⟩) hb2).trans d0
          have hb' := Nat.lt_of_lt_of_le hb hb9.size
          have hb2' := Nat.lt_of_lt_of_le hb2 hb9.size
          have HE0 := Lib.hid e0
          have HE1 := Lib.hid e1
          clear hw9 hb9 c0 d0 hb hb2 bc3 bf3 hz3 hy3 hv3
          go_wp2_with fail
          clear e0 e1
          go_loopw [7] (fun s wy => ∃ j : Nat, j ≤ x.n ∧ s = .int .i64 j ∧ Below w9.heap.size w9 wy) (fun s _ => x.n - (intOf s).toNat)
          case atStart => exact ⟨0, Nat.zero_le _, rfl, Below.refl _ _⟩
          case round =>
            obtain ⟨j, hj, rfl, hbel⟩ := hrel
            have HY := Lib.hid hbel
            have HYB := Lib.hid (bTrans HX9.out hbel)
            have HYD := Lib.hid (bTrans HD9.out hbel)
            obtain ⟨bc3, bf3⟩ := bcell HYB.out
            have hz3 := HYB.out.size
            simp only [World.size_alloc] at hz3
            have hy3 : w.heap.size < wr.heap.size := by omega
            have hv3 : w.heap.size + 1 < wr.heap.size := by omega
            have c0 := (hbel.cell (p := ⟨b, o + i, none⟩) hb').trans HE0.out
            have d0 := (hbel.cell (p := ⟨b2, o2 + i, none⟩) hb2').trans HE1.out
            have hbb := Nat.lt_of_lt_of_le hb' hbel.size
            have hbb2 := Nat.lt_of_lt_of_le hb2' hbel.size
            clear hbel
            by_cases hlj : j < x.n
            · have j1 : (j : Int) < (x.n : Int) := by omega
              have j0 : (0 : Int) ≤ (j : Int) := by omega
              rcases HR1.out.mono HYD.out with h0 | ⟨b3, o3, e3, hb3, hc3⟩
              · omega
              obtain ⟨A3, a3, c3, hi3, hl3⟩ := hc3 j hlj
              subst e3
              rcases HR2.out.mono HYD.out with h0 | ⟨b4, o4, e4, hb4, hc4⟩
              · omega
              obtain ⟨A4, a4, c4, hi4, _⟩ := hc4 j hlj
              subst e4
              have HSI := Lib.hid (fun (w' : World) (hb : Below wr.heap.size wr w') => (by
                have := sameInts_any A3 A4 (x.len j) (x.len j) a3 a4 (x.fall j) (x.fall j) w' hl3 hl3 (hi3.mono hb) (hi4.mono hb)
                rw [show (decide (x.len j = x.len j) && !anyB (fun i => x.fall j i != x.fall j i) (x.len j)) = true by rw [anyB_false.2 fun i _ => by simp]; simp] at this
                exact this : Calls Tryz.prog 32 #[.slice A3 (x.len j) a3, .slice A4 (x.len j) a4] w' fun e w'' => e = .returned (.bool true) ∧ Below w'.heap.size w' w''))
              clear hc3 hc4 hi3 hi4
              go_wp2_with fail
              refine wp_region_quiet_below (by kernel_rfl) (by kernel_rfl) ?_
              repeat (go_big_quiet_step (((go_at_call 32; with_reducible exact Calls.regrown_of (HSI.out _ (below_regrown _ _ _))))))
              refine wpQuiet_nil ?_
              intro w8 hw8
              have HY8 := Lib.hid (bTrans HY.out (below_of_regrown hw8))
              clear hw8
              go_wp2_with fail
              go_roundw
              case rel =>
                refine ⟨j + 1, by omega, ?_, HY8.out⟩
                go_num
              case measure => simp [intOf]; omega
            · obtain rfl : j = x.n := by omega
              have hj1 : ¬ ((x.n : Int) < (x.n : Int)) := by omega
              go_wp2_with fail
              go_roundw
              case rel =>
                refine ⟨i + 1, by omega, ?_, HYB.out⟩
                go_num
              case measure => simp [intOf]; omega
        · obtain rfl : i = t.nw := by omega
          go_wp2_with fail
          go_ret
          exact ⟨rfl, bTrans HBB.out HX.out⟩
end Go.Proofs.YtjpfdhhiofjpbaaGreatDoor

namespace Go.Proofs.YtjpfdhhiofjpbaaGreatDoor
open Go.RowKit Go.Sort
attribute [local go_sem ↓] neqRock9
theorem sameInts_t (A B : Option Addr) (n c c' : Nat) (f : Nat → Int) (w : World) (hn : n ≤ 9223372036854775807) (hf : IntsAt w A n f) (hg : IntsAt w B n f) :
    Calls Tryz.prog 32 #[.slice A n c, .slice B n c'] w fun e w' => e = .returned (.bool true) ∧ Below w.heap.size w w' := by
  have := sameInts_any A B n n c c' f f w hn hn hf hg
  rw [show (decide (n = n) && !anyB (fun i => f i != f i) n) = true by rw [anyB_false.2 fun i _ => by simp]; simp] at this
  exact this
set_option maxHeartbeats 4000000 in
set_option maxRecDepth 100000 in
theorem sameSh_any (Ar Af Ar' Af' : Option Addr) (cr cf cr' cf' : Nat) (S : Sh) (w : World) (hr : S.nr ≤ 9223372036854775807) (hf : S.nf ≤ 9223372036854775807) (hS : ShAt w Ar Af S) (hS' : ShAt w Ar' Af' S) :
    Calls Tryz.prog 154 #[.agg #[.slice Ar S.nr cr, .slice Af S.nf cf, .int .i64 S.deep, .int .i64 S.haul, .int .i64 S.rest], .agg #[.slice Ar' S.nr cr', .slice Af' S.nf cf', .int .i64 S.deep, .int .i64 S.haul, .int .i64 S.rest]] w fun e w' => e = .returned (.bool true) ∧ Below w.heap.size w w' := by
  have hb0 := bAlloc (bAlloc (Below.refl w.heap.size w) (.cells #[.slice Ar S.nr cr, .slice Af S.nf cf, .int .i64 S.deep, .int .i64 S.haul, .int .i64 S.rest] 57)) (.cells #[.slice Ar' S.nr cr', .slice Af' S.nf cf', .int .i64 S.deep, .int .i64 S.haul, .int .i64 S.rest] 57)
  have HS := Lib.hid (hS.mono hb0)
  have HS' := Lib.hid (hS'.mono hb0)
  have HB := Lib.hid hb0
  clear hS hS' hb0
  go_enter Tryz.func154, Tryz.ntmps154
  go_wp2_with (go_at_call 32; refine (sameInts_t _ _ _ _ _ S.foot _ (by omega) HS.out.feet HS'.out.feet).mono ?_; rintro e w1 ⟨rfl, hb1⟩)
  have HS1 := Lib.hid (HS.out.mono hb1)
  have HS1' := Lib.hid (HS'.out.mono hb1)
  have HB1 := Lib.hid (bTrans HB.out hb1)
  have HBX := Lib.hid hb1
  clear hb1
  go_loopw [5] (fun i wr => ∃ k : Nat, k ≤ S.nr ∧ i = .int .i64 k ∧ Below w1.heap.size w1 wr) (fun i _ => S.nr - (intOf i).toNat)
  case atStart => exact ⟨0, Nat.zero_le _, rfl, Below.refl _ _⟩
  case round =>
    obtain ⟨k, hk, rfl, hbel⟩ := hrel
    obtain ⟨bc, bf⟩ := bcell (bTrans HBX.out hbel)
    have hz := hbel.size
    have hz1 := HBX.out.size
    simp only [World.size_alloc] at hz1
    have hy : w.heap.size < wr.heap.size := by omega
    have hy1 : w.heap.size + 1 < wr.heap.size := by omega
    by_cases hlt : k < S.nr
    · rcases (HS1.out.mono hbel).rocks with h0 | ⟨b, o, hA, hb, hcell⟩
      · omega
      obtain ⟨c0, c1, c2, c3⟩ := hcell k hlt
      clear hcell
      subst hA
      rcases (HS1'.out.mono hbel).rocks with h0 | ⟨b', o', hA', hb', hcell⟩
      · omega
      obtain ⟨d0, d1, d2, d3⟩ := hcell k hlt
      clear hcell
      subst hA'
      go_wp2_with fail
      refine wp_region_quiet_below (by kernel_rfl) (by kernel_rfl) ?_
      repeat (go_big_quiet_step ((fail)))
      refine wpQuiet_nil ?_
      intro w3 hw3
      have hb3 := below_of_regrown hw3
      clear hw3
      go_wp2_with fail
      go_roundw
      case rel => exact ⟨k + 1, by omega, by go_num, bTrans hbel hb3⟩
      case measure => simp [intOf]; omega
    · obtain rfl : k = S.nr := by omega
      go_wp2_with fail
      go_ret
      exact ⟨rfl, bTrans HB1.out hbel⟩
set_option maxHeartbeats 8000000 in
set_option maxRecDepth 100000 in
theorem sameSpots9_any (A B : Option Addr) (n c c' : Nat) (f : Nat → Spot) (w : World) (hn : n ≤ 9223372036854775807) (hs : ∀ i, i < n → (f i).Small) (hA : SpotsAt w A n f) (hB : SpotsAt w B n f) :
    Calls Tryz.prog 93 #[.slice A n c, .slice B n c'] w fun e w' => e = .returned (.bool true) ∧ Below w.heap.size w w' := by
  have HA := Lib.hid hA
  have HB := Lib.hid hB
  have HS := Lib.hid hs
  clear hA hB hs
  go_enter Tryz.func93, Tryz.ntmps93
  go_wp2_with fail
  go_loopw [5] (fun s wr => ∃ k : Nat, k ≤ n ∧ s = .int .i64 k ∧ Below w.heap.size w wr) (fun s _ => n - (intOf s).toNat)
  case atStart => exact ⟨0, Nat.zero_le _, rfl, Below.refl _ _⟩
  case round =>
    obtain ⟨k, hk, rfl, hbel⟩ := hrel
    have HL := Lib.hid hbel
    clear hbel
    by_cases hlt : k < n
    · have k1 : (k : Int) < (n : Int) := by omega
      have k0 : (0 : Int) ≤ (k : Int) := by omega
      obtain ⟨b, o, Ar, Ar2, Ax, cr, cr2, cx, e1, hlb, hsh, hrw, _, c0, c1, c2, c3, c4, c5, c6⟩ := spots_at (HA.out.mono HL.out) hlt
      subst e1
      obtain ⟨b2, o2, Br, Br2, Bx, dr, dr2, dx, e2, hlb2, hsh2, hrw2, _, d0, d1, d2, d3, d4, d5, d6⟩ := spots_at (HB.out.mono HL.out) hlt
      subst e2
      have hsm := HS.out k hlt
      obtain ⟨y, hy⟩ : ∃ y, f k = y := ⟨_, rfl⟩
      rw [hy] at hsm hsh hrw c0 c1 c2 c3 c4 c5 c6 hsh2 hrw2 d0 d1 d2 d3 d4 d5 d6
      have HSM := Lib.hid hsm
      have HR1 := Lib.hid hrw
      have HR2 := Lib.hid hrw2
      have HSS := Lib.hid (fun (w' : World) (hb : Below wr.heap.size wr w') => (sameSh_any Ar Ar2 Br Br2 cr cr2 dr dr2 y.sh w' hsm.nr hsm.nf (hsh.mono hb) (hsh2.mono hb)))
      have hyn := hsm.n
      clear hsm hsh hrw hsh2 hrw2 hy
      go_wp2_with fail
      refine wp_region_quiet_below (by kernel_rfl) (by kernel_rfl) ?_
      repeat (go_big_quiet_step (((go_at_call 154; with_reducible exact Calls.regrown_of (HSS.out _ (below_regrown _ _ _))))))
      refine wpQuiet_nil ?_
      intro w9 hw9
      have hb9 := below_of_regrown hw9
      have HX9 := Lib.hid (bTrans HL.out hb9)
      have HD9 := Lib.hid hb9
      have e0 := (hb9.cell (p := ⟨b, o + k * 7 + 6, none⟩) hlb).trans c6
      have e1 := (hb9.cell (p := ⟨b2, o2 + k * 7 + 6, none⟩) hlb2).trans d6
      have hb' := Nat.lt_of_lt_of_le hlb hb9.size
      have hb2' := Nat.lt_of_lt_of_le hlb2 hb9.size
      have HE0 := Lib.hid e0
      have HE1 := Lib.hid e1
      clear hw9 hb9 c0 c1 c2 c3 c4 c5 c6 d0 d1 d2 d3 d4 d5 d6 hlb hlb2 HSS
      go_wp2_with fail
      clear e0 e1
      go_loopw [6] (fun s wy => ∃ j : Nat, j ≤ y.fl.n ∧ s = .int .i64 j ∧ Below w9.heap.size w9 wy) (fun s _ => y.fl.n - (intOf s).toNat)
      case atStart => exact ⟨0, Nat.zero_le _, rfl, Below.refl _ _⟩
      case round =>
        obtain ⟨j, hj, rfl, hbel⟩ := hrel
        have HYB := Lib.hid (bTrans HX9.out hbel)
        have HYD := Lib.hid (bTrans HD9.out hbel)
        have c0 := (hbel.cell (p := ⟨b, o + k * 7 + 6, none⟩) hb').trans HE0.out
        have d0 := (hbel.cell (p := ⟨b2, o2 + k * 7 + 6, none⟩) hb2').trans HE1.out
        have hbb := Nat.lt_of_lt_of_le hb' hbel.size
        have hbb2 := Nat.lt_of_lt_of_le hb2' hbel.size
        have HY := Lib.hid hbel
        clear hbel
        by_cases hlj : j < y.fl.n
        · have j1 : (j : Int) < (y.fl.n : Int) := by omega
          have j0 : (0 : Int) ≤ (j : Int) := by omega
          rcases HR1.out.mono HYD.out with h0 | ⟨b3, o3, e3, hb3, hc3⟩
          · omega
          obtain ⟨A3, a3, c3, hi3, hl3⟩ := hc3 j hlj
          subst e3
          rcases HR2.out.mono HYD.out with h0 | ⟨b4, o4, e4, hb4, hc4⟩
          · omega
          obtain ⟨A4, a4, c4, hi4, _⟩ := hc4 j hlj
          subst e4
          have HSI := Lib.hid (fun (w' : World) (hb : Below wr.heap.size wr w') => sameInts_t A3 A4 (y.fl.len j) a3 a4 (y.fl.fall j) w' hl3 (hi3.mono hb) (hi4.mono hb))
          clear hc3 hc4 hi3 hi4
          go_wp2_with fail
          refine wp_region_quiet_below (by kernel_rfl) (by kernel_rfl) ?_
          repeat (go_big_quiet_step (((go_at_call 32; with_reducible exact Calls.regrown_of (HSI.out _ (below_regrown _ _ _))))))
          refine wpQuiet_nil ?_
          intro w8 hw8
          have HY8 := Lib.hid (HY.out.trans ((below_of_regrown hw8).mono HY.out.size))
          clear hw8
          go_wp2_with fail
          go_roundw
          case rel =>
            refine ⟨j + 1, by omega, ?_, HY8.out⟩
            go_num
          case measure => simp [intOf]; omega
        · obtain rfl : j = y.fl.n := by omega
          have hk1 : ¬ ((y.fl.n : Int) < (y.fl.n : Int)) := by omega
          go_wp2_with fail
          go_roundw
          case rel =>
            refine ⟨k + 1, by omega, ?_, HYB.out⟩
            go_num
          case measure => simp [intOf]; omega
    · obtain rfl : k = n := by omega
      have hk1 : ¬ ((k : Int) < (k : Int)) := by omega
      go_wp2_with fail
      go_ret
      exact ⟨rfl, HL.out⟩
end Go.Proofs.YtjpfdhhiofjpbaaGreatDoor

namespace Go.Proofs.YtjpfdhhiofjpbaaGreatDoor
open Go.RowKit Go.Sort
set_option maxHeartbeats 8000000 in
set_option maxRecDepth 100000 in
theorem same9_any (Aw Af Ao Ap As : Option Addr) (cw cf co cp cs : Nat) (t : Pt) (Bw Bf Bo Bp Bs : Option Addr) (dw df do_ dp ds : Nat) (w : World) (hs : t.Small) (hT : PAt w Aw Af Ao Ap As t) (hU : PAt w Bw Bf Bo Bp Bs t) :
    Calls Tryz.prog 27 #[.agg #[.int .i64 t.q.wells, .slice Aw t.q.nw cw, .slice Af t.q.nf cf, .slice Ao t.no co, .slice Ap t.np cp, .slice As t.ns cs, .int .i64 t.far, .int .i64 t.harm, .int .i64 t.many], .agg #[.int .i64 t.q.wells, .slice Bw t.q.nw dw, .slice Bf t.q.nf df, .slice Bo t.no do_, .slice Bp t.np dp, .slice Bs t.ns ds, .int .i64 t.far, .int .i64 t.harm, .int .i64 t.many]] w fun e w' => e = .returned (.bool true) ∧ Below w.heap.size w w' := by
  have HD0 := Lib.hid (Below.refl w.heap.size w)
  have HSM := Lib.hid hs
  have HT0 := Lib.hid hT
  have HU0 := Lib.hid hU
  clear hs hT hU
  go_enter Tryz.func27, Tryz.ntmps27
  go_wp2_with fail
  refine (same5_any Aw Af Bw Bf cw cf dw df t.q _ HSM.out.q (HT0.out.mono (bAlloc (bAlloc (Below.refl _ _) (.cells #[.int .i64 t.q.wells, .slice Aw t.q.nw cw, .slice Af t.q.nf cf, .slice Ao t.no co, .slice Ap t.np cp, .slice As t.ns cs, .int .i64 t.far, .int .i64 t.harm, .int .i64 t.many] 29)) (.cells #[.int .i64 t.q.wells, .slice Bw t.q.nw dw, .slice Bf t.q.nf df, .slice Bo t.no do_, .slice Bp t.np dp, .slice Bs t.ns ds, .int .i64 t.far, .int .i64 t.harm, .int .i64 t.many] 29))).q (HU0.out.mono (bAlloc (bAlloc (Below.refl _ _) (.cells #[.int .i64 t.q.wells, .slice Aw t.q.nw cw, .slice Af t.q.nf cf, .slice Ao t.no co, .slice Ap t.np cp, .slice As t.ns cs, .int .i64 t.far, .int .i64 t.harm, .int .i64 t.many] 29)) (.cells #[.int .i64 t.q.wells, .slice Bw t.q.nw dw, .slice Bf t.q.nf df, .slice Bo t.no do_, .slice Bp t.np dp, .slice Bs t.ns ds, .int .i64 t.far, .int .i64 t.harm, .int .i64 t.many] 29))).q).mono ?_
  rintro e w1 ⟨rfl, hb⟩
  have hB1 : Below w.heap.size w w1 := bTrans (bAlloc (bAlloc (Below.refl _ _) (.cells #[.int .i64 t.q.wells, .slice Aw t.q.nw cw, .slice Af t.q.nf cf, .slice Ao t.no co, .slice Ap t.np cp, .slice As t.ns cs, .int .i64 t.far, .int .i64 t.harm, .int .i64 t.many] 29)) (.cells #[.int .i64 t.q.wells, .slice Bw t.q.nw dw, .slice Bf t.q.nf df, .slice Bo t.no do_, .slice Bp t.np dp, .slice Bs t.ns ds, .int .i64 t.far, .int .i64 t.harm, .int .i64 t.many] 29)) hb
  have HD1 := Lib.hid (bTrans HD0.out hB1)
  have HT1 := Lib.hid (HT0.out.mono hB1)
  have HU1 := Lib.hid (HU0.out.mono hB1)
  have T1 := Lib.hid (show TBox w1 w.heap.size 29 #[.int .i64 t.q.wells, .slice Aw t.q.nw cw, .slice Af t.q.nf cf, .slice Ao t.no co, .slice Ap t.np cp, .slice As t.ns cs, .int .i64 t.far, .int .i64 t.harm, .int .i64 t.many] from by have := ((TBox.new w #[.int .i64 t.q.wells, .slice Aw t.q.nw cw, .slice Af t.q.nf cf, .slice Ao t.no co, .slice Ap t.np cp, .slice As t.ns cs, .int .i64 t.far, .int .i64 t.harm, .int .i64 t.many] 29).mono (bAlloc (Below.refl _ _) (.cells #[.int .i64 t.q.wells, .slice Bw t.q.nw dw, .slice Bf t.q.nf df, .slice Bo t.no do_, .slice Bp t.np dp, .slice Bs t.ns ds, .int .i64 t.far, .int .i64 t.harm, .int .i64 t.many] 29))).mono hb; simpa using this)
  have U1 := Lib.hid (show TBox w1 (w.heap.size + 1) 29 #[.int .i64 t.q.wells, .slice Bw t.q.nw dw, .slice Bf t.q.nf df, .slice Bo t.no do_, .slice Bp t.np dp, .slice Bs t.ns ds, .int .i64 t.far, .int .i64 t.harm, .int .i64 t.many] from by have := ((TBox.new (w.alloc (.cells #[.int .i64 t.q.wells, .slice Aw t.q.nw cw, .slice Af t.q.nf cf, .slice Ao t.no co, .slice Ap t.np cp, .slice As t.ns cs, .int .i64 t.far, .int .i64 t.harm, .int .i64 t.many] 29)) #[.int .i64 t.q.wells, .slice Bw t.q.nw dw, .slice Bf t.q.nf df, .slice Bo t.no do_, .slice Bp t.np dp, .slice Bs t.ns ds, .int .i64 t.far, .int .i64 t.harm, .int .i64 t.many] 29).mono (Below.refl _ _)).mono hb; simpa using this)
  clear hb hB1 HD0 HT0 HU0
  obtain ⟨T_0, T_1, T_2, T_3, T_4, T_5, T_6, T_7, T_8, T_l⟩ := T1.out.c9
  obtain ⟨U_0, U_1, U_2, U_3, U_4, U_5, U_6, U_7, U_8, U_l⟩ := U1.out.c9
  go_wp2_with fail
  refine (sameInts_t Ao Bo t.no co do_ t.old _ HSM.out.no HT1.out.old HU1.out.old).mono ?_
  rintro e w2 ⟨rfl, hb⟩
  have hB2 : Below w1.heap.size w1 w2 := bTrans (Below.refl _ _) hb
  have HD2 := Lib.hid (bTrans HD1.out hB2)
  have HT2 := Lib.hid (HT1.out.mono hB2)
  have HU2 := Lib.hid (HU1.out.mono hB2)
  have T2 := Lib.hid (T1.out.mono hB2)
  have U2 := Lib.hid (U1.out.mono hB2)
  clear hb hB2 HD1 HT1 HU1 T1 T_0 T_1 T_2 T_3 T_4 T_5 T_6 T_7 T_8 T_l U1 U_0 U_1 U_2 U_3 U_4 U_5 U_6 U_7 U_8 U_l
  obtain ⟨T_0, T_1, T_2, T_3, T_4, T_5, T_6, T_7, T_8, T_l⟩ := T2.out.c9
  obtain ⟨U_0, U_1, U_2, U_3, U_4, U_5, U_6, U_7, U_8, U_l⟩ := U2.out.c9
  go_wp2_with fail
  refine (sameInts_t Ap Bp t.np cp dp t.pence _ HSM.out.np HT2.out.pence HU2.out.pence).mono ?_
  rintro e w3 ⟨rfl, hb⟩
  have hB3 : Below w2.heap.size w2 w3 := bTrans (Below.refl _ _) hb
  have HD3 := Lib.hid (bTrans HD2.out hB3)
  have HT3 := Lib.hid (HT2.out.mono hB3)
  have HU3 := Lib.hid (HU2.out.mono hB3)
  have T3 := Lib.hid (T2.out.mono hB3)
  have U3 := Lib.hid (U2.out.mono hB3)
  clear hb hB3 HD2 HT2 HU2 T2 T_0 T_1 T_2 T_3 T_4 T_5 T_6 T_7 T_8 T_l U2 U_0 U_1 U_2 U_3 U_4 U_5 U_6 U_7 U_8 U_l
  obtain ⟨T_0, T_1, T_2, T_3, T_4, T_5, T_6, T_7, T_8, T_l⟩ := T3.out.c9
  obtain ⟨U_0, U_1, U_2, U_3, U_4, U_5, U_6, U_7, U_8, U_l⟩ := U3.out.c9
  go_wp2_with fail
  refine (sameSpots9_any As Bs t.ns cs ds t.spot _ HSM.out.ns HSM.out.spot HT3.out.spots HU3.out.spots).mono ?_
  rintro e w4 ⟨rfl, hb⟩
  have hB4 : Below w3.heap.size w3 w4 := bTrans (Below.refl _ _) hb
  have HD4 := Lib.hid (bTrans HD3.out hB4)
  have HT4 := Lib.hid (HT3.out.mono hB4)
  have HU4 := Lib.hid (HU3.out.mono hB4)
  have T4 := Lib.hid (T3.out.mono hB4)
  have U4 := Lib.hid (U3.out.mono hB4)
  clear hb hB4 HD3 HT3 HU3 T3 T_0 T_1 T_2 T_3 T_4 T_5 T_6 T_7 T_8 T_l U3 U_0 U_1 U_2 U_3 U_4 U_5 U_6 U_7 U_8 U_l
  obtain ⟨T_0, T_1, T_2, T_3, T_4, T_5, T_6, T_7, T_8, T_l⟩ := T4.out.c9
  obtain ⟨U_0, U_1, U_2, U_3, U_4, U_5, U_6, U_7, U_8, U_l⟩ := U4.out.c9
  go_wp2_with fail
  go_ret
  exact ⟨rfl, HD4.out⟩
end Go.Proofs.YtjpfdhhiofjpbaaGreatDoor

namespace Go.Proofs.YtjpfdhhiofjpbaaGreatDoor
open Go.RowKit Go.Sort
theorem dst_comm (a b : Int) : dst a b = dst b a := by unfold dst; omega
noncomputable def Pt.cheapest (t : Pt) : Option Nat := minBy t.whole t.canB t.ns
/-! ### errors -/
/-! ### what each function returns -/
noncomputable def Pt.cheapestOut (t : Pt) : Int × Int := if t.knowErr true = 0 then optOut t.cheapest else (0, t.knowErr true)
noncomputable def Pt.wholeOut (t : Pt) (s : Int) : Int × Int := if t.knowErr (t.hasB s) = 0 then (if t.canB s.toNat then (t.whole s.toNat, 0) else (0, 3)) else (0, t.knowErr (t.hasB s))
end Go.Proofs.YtjpfdhhiofjpbaaGreatDoor

namespace Go.Proofs.YtjpfdhhiofjpbaaGreatDoor
open Go.RowKit Go.Sort Go.Shelf
attribute [local go_sem] Oper.semAt_some
theorem whole_seq (n C : Nat) (Aw Af Ao Ap As : Option Addr) (cw cf co cp cs : Nat) (t : Pt) (Al : Option Addr) (cl : Nat) (w0 w : World) (hn : 3 ≤ n) (hst : StreetAt w0 C Aw Af Ao Ap As cw cf co cp cs t Al cl) (hN : NoneAt w0) (hb0 : Below w0.heap.size w0 w) (ok : t.Ok) (hsm : t.Small) :
    SeqC Fence.wide n Tryz.prog 107 #[.pointer (some ⟨C, 0, none⟩)] #[] (encW t) (KpT w0.heap.size C) (· = t.cans) (· <+: t.cans) (fun pre x => pre ++ [x] <+: t.cans) w :=
  SeqC.weaken (fun A B h => ⟨fun hA => below_chain hA h.1, h.1.size, h.2⟩) (whole_seqG n C Aw Af Ao Ap As cw cf co cp cs t Al cl (Below w0.heap.size w0) w hn (fun W hW => ⟨hst.mono hW, hN.mono hW⟩) (fun W W' h h' => bTrans h h') hb0 ok hsm)
end Go.Proofs.YtjpfdhhiofjpbaaGreatDoor

namespace Go.Proofs.YtjpfdhhiofjpbaaGreatDoor
open Go.RowKit Go.Sort Go.Shelf
attribute [local go_sem] Oper.semAt_some
theorem cheapest_sel (t : Pt) : oI (bestL (fun x => t.whole x.toNat) t.cans) = optOut t.cheapest := by
  unfold Pt.cans Pt.cheapest
  rw [bestL_sel, oI_opt]
  rfl
set_option maxHeartbeats 4000000 in
set_option maxRecDepth 100000 in
theorem cheapestOutP_any (Aw Af Ao Ap As : Option Addr) (cw cf co cp cs : Nat) (t : Pt) (w : World) (hs : t.Small) (hT : PAt w Aw Af Ao Ap As t) (hB : TabAt w) (hN : NoneAt w) :
    Calls Tryz.prog 47 #[.agg #[.int .i64 t.q.wells, .slice Aw t.q.nw cw, .slice Af t.q.nf cf, .slice Ao t.no co, .slice Ap t.np cp, .slice As t.ns cs, .int .i64 t.far, .int .i64 t.harm, .int .i64 t.many]] w fun e w' => e = .returned (.tuple #[.int .i64 t.cheapestOut.1, .int .i64 t.cheapestOut.2]) ∧ Below w.heap.size w w' := by
  obtain ⟨er, her⟩ : ∃ v, t.knowErr true = v := ⟨_, rfl⟩
  have HE := Lib.hid (show t.cheapestOut = if er = 0 then optOut t.cheapest else (0, er) by unfold Pt.cheapestOut; rw [her])
  have HER := Lib.hid her
  clear her
  have HD0 := Lib.hid (Below.refl w.heap.size w)
  have HSM := Lib.hid hs
  have HT0 := Lib.hid hT
  have HTB0 := Lib.hid hB
  have HNA0 := Lib.hid hN
  clear hs hT hB hN
  go_enter Tryz.func47, Tryz.ntmps47
  go_wp2_with fail
  refine (openP_any Aw Af Ao Ap As cw cf co cp cs t true _ HSM.out (HT0.out.mono (bAlloc (Below.refl _ _) (.cells #[.int .i64 t.q.wells, .slice Aw t.q.nw cw, .slice Af t.q.nf cf, .slice Ao t.no co, .slice Ap t.np cp, .slice As t.ns cs, .int .i64 t.far, .int .i64 t.harm, .int .i64 t.many] 29))) (HTB0.out.mono (bAlloc (Below.refl _ _) (.cells #[.int .i64 t.q.wells, .slice Aw t.q.nw cw, .slice Af t.q.nf cf, .slice Ao t.no co, .slice Ap t.np cp, .slice As t.ns cs, .int .i64 t.far, .int .i64 t.harm, .int .i64 t.many] 29)))).mono ?_
  rintro e w1 ⟨ho, hb⟩
  rw [HER.out] at ho
  have hB1 : Below w.heap.size w w1 := bTrans (bAlloc (Below.refl _ _) (.cells #[.int .i64 t.q.wells, .slice Aw t.q.nw cw, .slice Af t.q.nf cf, .slice Ao t.no co, .slice Ap t.np cp, .slice As t.ns cs, .int .i64 t.far, .int .i64 t.harm, .int .i64 t.many] 29)) hb
  have HD1 := Lib.hid (bTrans HD0.out hB1)
  have HT1 := Lib.hid (HT0.out.mono hB1)
  have HTB1 := Lib.hid (HTB0.out.mono hB1)
  have HNA1 := Lib.hid (HNA0.out.mono hB1)
  have T1 := Lib.hid (show TBox w1 w.heap.size 29 #[.int .i64 t.q.wells, .slice Aw t.q.nw cw, .slice Af t.q.nf cf, .slice Ao t.no co, .slice Ap t.np cp, .slice As t.ns cs, .int .i64 t.far, .int .i64 t.harm, .int .i64 t.many] from by have := ((TBox.new w #[.int .i64 t.q.wells, .slice Aw t.q.nw cw, .slice Af t.q.nf cf, .slice Ao t.no co, .slice Ap t.np cp, .slice As t.ns cs, .int .i64 t.far, .int .i64 t.harm, .int .i64 t.many] 29).mono (Below.refl _ _)).mono hb; simpa using this)
  clear hb hB1 HD0 HT0 HTB0 HNA0
  obtain ⟨T_0, T_1, T_2, T_3, T_4, T_5, T_6, T_7, T_8, T_l⟩ := T1.out.c9
  by_cases he : er = 0
  case neg =>
    obtain rfl := ho.1 he
    clear ho
    have g0 : (er != 0) = true := by simp [he]
    have HR := Lib.hid (show t.cheapestOut = (0, er) by rw [HE.out, if_neg he])
    clear he
    go_wp2_with fail
    go_ret2
    exact ⟨by rw [HR.out]; rfl, HD1.out⟩
  subst he
  obtain ⟨ok, _, _⟩ := Pt.knowErr_zero HER.out
  have HOK := Lib.hid ok
  obtain ⟨C, Al, cl, rfl, hst, hC⟩ := ho.2 rfl
  have HST := Lib.hid hst
  have HR := Lib.hid (show oI (bestL (fun x => t.whole x.toNat) t.cans) = t.cheapestOut by rw [cheapest_sel, HE.out, if_pos rfl])
  clear ho ok hst hC
  go_wp2_with fail
  refine (cheapestP_any 107 w1.heap.size C #[.pointer (some ⟨C, 0, none⟩)] #[] (fun x => t.whole x.toNat) t.cans w1 (Nat.le_refl _) sel_pos (enters_of Tryz.func107 (by kernel_rfl)) (fun w' hb => whole_seq 6 C Aw Af Ao Ap As cw cf co cp cs t Al cl w1 w' (by decide) HST.out HNA1.out hb HOK.out HSM.out)).mono ?_
  rintro e w2 ⟨rfl, hb⟩
  rw [HR.out]
  have hB2 : Below w1.heap.size w1 w2 := bTrans (Below.refl _ _) hb
  have HD2 := Lib.hid (bTrans HD1.out hB2)
  have HT2 := Lib.hid (HT1.out.mono hB2)
  have HTB2 := Lib.hid (HTB1.out.mono hB2)
  have HNA2 := Lib.hid (HNA1.out.mono hB2)
  have T2 := Lib.hid (T1.out.mono hB2)
  clear hb hB2 HD1 HT1 HTB1 HNA1 T1 T_0 T_1 T_2 T_3 T_4 T_5 T_6 T_7 T_8 T_l
  obtain ⟨T_0, T_1, T_2, T_3, T_4, T_5, T_6, T_7, T_8, T_l⟩ := T2.out.c9
  go_wp2_with fail
  go_ret2
  exact ⟨rfl, HD2.out⟩
set_option maxHeartbeats 8000000 in
set_option maxRecDepth 100000 in
theorem wholeP_any (Aw Af Ao Ap As : Option Addr) (cw cf co cp cs : Nat) (t : Pt) (n : Int) (w : World) (hs : t.Small) (hT : PAt w Aw Af Ao Ap As t) (hB : TabAt w) (hN : NoneAt w) :
    Calls Tryz.prog 49 #[.agg #[.int .i64 t.q.wells, .slice Aw t.q.nw cw, .slice Af t.q.nf cf, .slice Ao t.no co, .slice Ap t.np cp, .slice As t.ns cs, .int .i64 t.far, .int .i64 t.harm, .int .i64 t.many], .int .i64 n] w fun e w' => e = .returned (.tuple #[.int .i64 (t.wholeOut n).1, .int .i64 (t.wholeOut n).2]) ∧ Below w.heap.size w w' := by
  obtain ⟨bb, hbb⟩ : ∃ b, t.hasB n = b := ⟨_, rfl⟩
  obtain ⟨er, her⟩ : ∃ v, t.knowErr bb = v := ⟨_, rfl⟩
  have HC1 := Lib.hid (fun w => hbb ▸ hasP_any Aw Af Ao Ap As cw cf co cp cs t n w hs.ns : ∀ w : World, Calls Tryz.prog 87 #[.agg #[.int .i64 t.q.wells, .slice Aw t.q.nw cw, .slice Af t.q.nf cf, .slice Ao t.no co, .slice Ap t.np cp, .slice As t.ns cs, .int .i64 t.far, .int .i64 t.harm, .int .i64 t.many], .int .i64 n] w fun e w' => e = .returned (.bool bb) ∧ Below w.heap.size w w')
  have HE := Lib.hid (show t.wholeOut n = if er = 0 then (if t.canB n.toNat then (t.whole n.toNat, 0) else (0, 3)) else (0, er) by unfold Pt.wholeOut; rw [hbb, her])
  have HER := Lib.hid her
  have HBB := Lib.hid hbb
  clear hbb her
  have HD0 := Lib.hid (Below.refl w.heap.size w)
  have HSM := Lib.hid hs
  have HT0 := Lib.hid hT
  have HTB0 := Lib.hid hB
  have HNA0 := Lib.hid hN
  clear hs hT hB hN
  refine (callsIn_wide (n := 7)).1 ?_
  refine callsIn_of_wp_marks Tryz.func49 rfl trivial ?_ rfl
  simp only [Tryz.ntmps49, List.size_toArray, List.length_cons, List.length_nil, Nat.reduceAdd, Nat.reduceSub, Array.replicate_succ, Array.replicate_zero, List.push_toArray, List.append_toArray, List.nil_append, List.cons_append]
  refine wpIn_wide.2 ?_
  by_cases he : er = 0
  case neg =>
    have g0 : (er != 0) = true := by simp [he]
    have HNZ := Lib.hid he
    have HR := Lib.hid (show t.wholeOut n = (0, er) by rw [HE.out, if_neg he])
    clear he
    go_wp2_with fail
    have HCO := Lib.hid (fun (w' : World) (hb : Below ((((w.alloc (.cells #[.int .i64 t.q.wells, .slice Aw t.q.nw cw, .slice Af t.q.nf cf, .slice Ao t.no co, .slice Ap t.np cp, .slice As t.ns cs, .int .i64 t.far, .int .i64 t.harm, .int .i64 t.many] 29)).alloc (.cells #[.int .i64 n] 3)).alloc (.cells #[.int .i64 0] 3)).alloc (.cells #[.int .i64 0] 33)).heap.size ((((w.alloc (.cells #[.int .i64 t.q.wells, .slice Aw t.q.nw cw, .slice Af t.q.nf cf, .slice Ao t.no co, .slice Ap t.np cp, .slice As t.ns cs, .int .i64 t.far, .int .i64 t.harm, .int .i64 t.many] 29)).alloc (.cells #[.int .i64 n] 3)).alloc (.cells #[.int .i64 0] 3)).alloc (.cells #[.int .i64 0] 33)) w') => ((openP_any Aw Af Ao Ap As cw cf co cp cs t bb w' HSM.out ((HT0.out.mono (bAlloc (bAlloc (bAlloc (bAlloc (Below.refl _ _) (.cells #[.int .i64 t.q.wells, .slice Aw t.q.nw cw, .slice Af t.q.nf cf, .slice Ao t.no co, .slice Ap t.np cp, .slice As t.ns cs, .int .i64 t.far, .int .i64 t.harm, .int .i64 t.many] 29)) (.cells #[.int .i64 n] 3)) (.cells #[.int .i64 0] 3)) (.cells #[.int .i64 0] 33))).mono hb) ((HTB0.out.mono (bAlloc (bAlloc (bAlloc (bAlloc (Below.refl _ _) (.cells #[.int .i64 t.q.wells, .slice Aw t.q.nw cw, .slice Af t.q.nf cf, .slice Ao t.no co, .slice Ap t.np cp, .slice As t.ns cs, .int .i64 t.far, .int .i64 t.harm, .int .i64 t.many] 29)) (.cells #[.int .i64 n] 3)) (.cells #[.int .i64 0] 3)) (.cells #[.int .i64 0] 33))).mono hb)).mono fun e w'' h => ⟨(HER.out ▸ h.1).lower hb.size, h.2⟩ : Calls Tryz.prog 94 #[.agg #[.int .i64 t.q.wells, .slice Aw t.q.nw cw, .slice Af t.q.nf cf, .slice Ao t.no co, .slice Ap t.np cp, .slice As t.ns cs, .int .i64 t.far, .int .i64 t.harm, .int .i64 t.many], .bool bb] w' fun e w'' => StrOut w'' ((((w.alloc (.cells #[.int .i64 t.q.wells, .slice Aw t.q.nw cw, .slice Af t.q.nf cf, .slice Ao t.no co, .slice Ap t.np cp, .slice As t.ns cs, .int .i64 t.far, .int .i64 t.harm, .int .i64 t.many] 29)).alloc (.cells #[.int .i64 n] 3)).alloc (.cells #[.int .i64 0] 3)).alloc (.cells #[.int .i64 0] 33)).heap.size Aw Af Ao Ap As cw cf co cp cs t er e ∧ Below w'.heap.size w' w''))
    refine wp_region_call 4 (fun v w2 => StrOut w2 ((((w.alloc (.cells #[.int .i64 t.q.wells, .slice Aw t.q.nw cw, .slice Af t.q.nf cf, .slice Ao t.no co, .slice Ap t.np cp, .slice As t.ns cs, .int .i64 t.far, .int .i64 t.harm, .int .i64 t.many] 29)).alloc (.cells #[.int .i64 n] 3)).alloc (.cells #[.int .i64 0] 3)).alloc (.cells #[.int .i64 0] 33)).heap.size Aw Af Ao Ap As cw cf co cp cs t er (.returned v) ∧ Below ((((w.alloc (.cells #[.int .i64 t.q.wells, .slice Aw t.q.nw cw, .slice Af t.q.nf cf, .slice Ao t.no co, .slice Ap t.np cp, .slice As t.ns cs, .int .i64 t.far, .int .i64 t.harm, .int .i64 t.many] 29)).alloc (.cells #[.int .i64 n] 3)).alloc (.cells #[.int .i64 0] 3)).alloc (.cells #[.int .i64 0] 33)).heap.size ((((w.alloc (.cells #[.int .i64 t.q.wells, .slice Aw t.q.nw cw, .slice Af t.q.nf cf, .slice Ao t.no co, .slice Ap t.np cp, .slice As t.ns cs, .int .i64 t.far, .int .i64 t.harm, .int .i64 t.many] 29)).alloc (.cells #[.int .i64 n] 3)).alloc (.cells #[.int .i64 0] 3)).alloc (.cells #[.int .i64 0] 33)) w2) (by kernel_rfl) (by decide +kernel) rfl ?_
    apply Exists.intro
    refine ⟨fun K hK => ?_, ?_, fun w1 hb1 K Q' hK => ?_, ?_⟩
    · skip
      repeat (first | (refine wpCalm_skip rfl ?_) | (refine wpCalm_step rfl (fun K hK => ?_); go_simp; (first | (refine hK _ ?_; clear hK K) | (apply Exists.intro; refine ⟨fun _ => ?_, hK _ ?_⟩; ((first | (go_at_call 87; with_reducible exact newer_of (HC1.out _)))); clear hK K))))
      refine wpCalm_nil ?_
      exact hK
    · rfl
    · go_simp
      refine (HCO.out w1 hb1).mono ?_
      rintro e w2 ⟨ho, hb2⟩
      obtain ⟨v, rfl⟩ := StrOut.ret ho
      exact hK v w2 ⟨ho, bTrans hb1 hb2⟩
    clear HCO
    rintro v w2 ⟨ho, hb2⟩
    obtain rfl := Ending.returned.inj (ho.1 HNZ.out)
    clear ho
    apply Exists.intro
    refine ⟨fun K hK => ?_, fun w1 hb3 => ?_⟩
    · skip
      repeat (first | (refine wpCalm_skip rfl ?_) | (refine wpCalm_step rfl (fun K hK => ?_); go_simp; (first | (refine hK _ ?_; clear hK K) | (apply Exists.intro; refine ⟨fun _ => ?_, hK _ ?_⟩; (fail); clear hK K))))
      refine wpCalm_nil ?_
      exact hK
    have hb := bTrans hb2 hb3
    clear hb2 hb3
    have hB1 : Below w.heap.size w w1 := bTrans (bAlloc (bAlloc (bAlloc (bAlloc (Below.refl _ _) (.cells #[.int .i64 t.q.wells, .slice Aw t.q.nw cw, .slice Af t.q.nf cf, .slice Ao t.no co, .slice Ap t.np cp, .slice As t.ns cs, .int .i64 t.far, .int .i64 t.harm, .int .i64 t.many] 29)) (.cells #[.int .i64 n] 3)) (.cells #[.int .i64 0] 3)) (.cells #[.int .i64 0] 33)) hb
    have HD1 := Lib.hid (bTrans HD0.out hB1)
    have HT1 := Lib.hid (HT0.out.mono hB1)
    have HTB1 := Lib.hid (HTB0.out.mono hB1)
    have HNA1 := Lib.hid (HNA0.out.mono hB1)
    have T1 := Lib.hid (show TBox w1 w.heap.size 29 #[.int .i64 t.q.wells, .slice Aw t.q.nw cw, .slice Af t.q.nf cf, .slice Ao t.no co, .slice Ap t.np cp, .slice As t.ns cs, .int .i64 t.far, .int .i64 t.harm, .int .i64 t.many] from by have := ((TBox.new w #[.int .i64 t.q.wells, .slice Aw t.q.nw cw, .slice Af t.q.nf cf, .slice Ao t.no co, .slice Ap t.np cp, .slice As t.ns cs, .int .i64 t.far, .int .i64 t.harm, .int .i64 t.many] 29).mono (bAlloc (bAlloc (bAlloc (Below.refl _ _) (.cells #[.int .i64 n] 3)) (.cells #[.int .i64 0] 3)) (.cells #[.int .i64 0] 33))).mono hb; simpa using this)
    have SP1 := Lib.hid (show TBox w1 (w.heap.size + 1) 3 #[.int .i64 n] from by have := ((TBox.new (w.alloc (.cells #[.int .i64 t.q.wells, .slice Aw t.q.nw cw, .slice Af t.q.nf cf, .slice Ao t.no co, .slice Ap t.np cp, .slice As t.ns cs, .int .i64 t.far, .int .i64 t.harm, .int .i64 t.many] 29)) #[.int .i64 n] 3).mono (bAlloc (bAlloc (Below.refl _ _) (.cells #[.int .i64 0] 3)) (.cells #[.int .i64 0] 33))).mono hb; simpa using this)
    have R1 := Lib.hid (show TBox w1 (w.heap.size + 1 + 1) 3 #[.int .i64 0] from by have := ((TBox.new ((w.alloc (.cells #[.int .i64 t.q.wells, .slice Aw t.q.nw cw, .slice Af t.q.nf cf, .slice Ao t.no co, .slice Ap t.np cp, .slice As t.ns cs, .int .i64 t.far, .int .i64 t.harm, .int .i64 t.many] 29)).alloc (.cells #[.int .i64 n] 3)) #[.int .i64 0] 3).mono (bAlloc (Below.refl _ _) (.cells #[.int .i64 0] 33))).mono hb; simpa using this)
    have E1 := Lib.hid (show TBox w1 (w.heap.size + 1 + 1 + 1) 33 #[.int .i64 0] from by have := ((TBox.new (((w.alloc (.cells #[.int .i64 t.q.wells, .slice Aw t.q.nw cw, .slice Af t.q.nf cf, .slice Ao t.no co, .slice Ap t.np cp, .slice As t.ns cs, .int .i64 t.far, .int .i64 t.harm, .int .i64 t.many] 29)).alloc (.cells #[.int .i64 n] 3)).alloc (.cells #[.int .i64 0] 3)) #[.int .i64 0] 33).mono (Below.refl _ _)).mono hb; simpa using this)
    clear hb hB1 HD0 HT0 HTB0 HNA0
    obtain ⟨T_0, T_1, T_2, T_3, T_4, T_5, T_6, T_7, T_8, T_l⟩ := T1.out.c9
    obtain ⟨SP_0, SP_l⟩ := SP1.out.c1
    obtain ⟨R_0, R_l⟩ := R1.out.c1
    obtain ⟨E_0, E_l⟩ := E1.out.c1
    have f4 := R1.out.frozen 0
    have f5 := E1.out.frozen 0
    go_wp2_with fail
    exact ⟨.tuple #[.int .i64 0, .int .i64 er], by simp [results, Tryz.results49, go_sem, *], by rw [HR.out], Below.setCell (p := ⟨w.heap.size + 1 + 1 + 1, 0, none⟩) (Below.setCell (p := ⟨w.heap.size + 1 + 1, 0, none⟩) HD1.out (by simp <;> omega) (.int .i64 0)) (by simp <;> omega) (.int .i64 er)⟩
  subst he
  obtain ⟨ok, rfl, _⟩ := Pt.knowErr_zero HER.out
  have HOK := Lib.hid ok
  have hn := hasB_iff.1 HBB.out
  obtain ⟨i, rfl⟩ : ∃ i : Nat, n = (i : Int) := ⟨n.toNat, by omega⟩
  have HI := Lib.hid (show i < t.ns by omega)
  have HR := Lib.hid (show t.wholeOut (i : Int) = if t.canB i then (t.whole i, 0) else (0, 3) by rw [HE.out, if_pos rfl, Int.toNat_natCast])
  clear ok hn
  go_wp2_with fail
  have HCO := Lib.hid (fun (w' : World) (hb : Below ((((w.alloc (.cells #[.int .i64 t.q.wells, .slice Aw t.q.nw cw, .slice Af t.q.nf cf, .slice Ao t.no co, .slice Ap t.np cp, .slice As t.ns cs, .int .i64 t.far, .int .i64 t.harm, .int .i64 t.many] 29)).alloc (.cells #[.int .i64 (i : Int)] 3)).alloc (.cells #[.int .i64 0] 3)).alloc (.cells #[.int .i64 0] 33)).heap.size ((((w.alloc (.cells #[.int .i64 t.q.wells, .slice Aw t.q.nw cw, .slice Af t.q.nf cf, .slice Ao t.no co, .slice Ap t.np cp, .slice As t.ns cs, .int .i64 t.far, .int .i64 t.harm, .int .i64 t.many] 29)).alloc (.cells #[.int .i64 (i : Int)] 3)).alloc (.cells #[.int .i64 0] 3)).alloc (.cells #[.int .i64 0] 33)) w') => ((openP_any Aw Af Ao Ap As cw cf co cp cs t true w' HSM.out ((HT0.out.mono (bAlloc (bAlloc (bAlloc (bAlloc (Below.refl _ _) (.cells #[.int .i64 t.q.wells, .slice Aw t.q.nw cw, .slice Af t.q.nf cf, .slice Ao t.no co, .slice Ap t.np cp, .slice As t.ns cs, .int .i64 t.far, .int .i64 t.harm, .int .i64 t.many] 29)) (.cells #[.int .i64 (i : Int)] 3)) (.cells #[.int .i64 0] 3)) (.cells #[.int .i64 0] 33))).mono hb) ((HTB0.out.mono (bAlloc (bAlloc (bAlloc (bAlloc (Below.refl _ _) (.cells #[.int .i64 t.q.wells, .slice Aw t.q.nw cw, .slice Af t.q.nf cf, .slice Ao t.no co, .slice Ap t.np cp, .slice As t.ns cs, .int .i64 t.far, .int .i64 t.harm, .int .i64 t.many] 29)) (.cells #[.int .i64 (i : Int)] 3)) (.cells #[.int .i64 0] 3)) (.cells #[.int .i64 0] 33))).mono hb)).mono fun e w'' h => ⟨(HER.out ▸ h.1).lower hb.size, h.2⟩ : Calls Tryz.prog 94 #[.agg #[.int .i64 t.q.wells, .slice Aw t.q.nw cw, .slice Af t.q.nf cf, .slice Ao t.no co, .slice Ap t.np cp, .slice As t.ns cs, .int .i64 t.far, .int .i64 t.harm, .int .i64 t.many], .bool true] w' fun e w'' => StrOut w'' ((((w.alloc (.cells #[.int .i64 t.q.wells, .slice Aw t.q.nw cw, .slice Af t.q.nf cf, .slice Ao t.no co, .slice Ap t.np cp, .slice As t.ns cs, .int .i64 t.far, .int .i64 t.harm, .int .i64 t.many] 29)).alloc (.cells #[.int .i64 (i : Int)] 3)).alloc (.cells #[.int .i64 0] 3)).alloc (.cells #[.int .i64 0] 33)).heap.size Aw Af Ao Ap As cw cf co cp cs t 0 e ∧ Below w'.heap.size w' w''))
  refine wp_region_call 4 (fun v w2 => StrOut w2 ((((w.alloc (.cells #[.int .i64 t.q.wells, .slice Aw t.q.nw cw, .slice Af t.q.nf cf, .slice Ao t.no co, .slice Ap t.np cp, .slice As t.ns cs, .int .i64 t.far, .int .i64 t.harm, .int .i64 t.many] 29)).alloc (.cells #[.int .i64 (i : Int)] 3)).alloc (.cells #[.int .i64 0] 3)).alloc (.cells #[.int .i64 0] 33)).heap.size Aw Af Ao Ap As cw cf co cp cs t 0 (.returned v) ∧ Below ((((w.alloc (.cells #[.int .i64 t.q.wells, .slice Aw t.q.nw cw, .slice Af t.q.nf cf, .slice Ao t.no co, .slice Ap t.np cp, .slice As t.ns cs, .int .i64 t.far, .int .i64 t.harm, .int .i64 t.many] 29)).alloc (.cells #[.int .i64 (i : Int)] 3)).alloc (.cells #[.int .i64 0] 3)).alloc (.cells #[.int .i64 0] 33)).heap.size ((((w.alloc (.cells #[.int .i64 t.q.wells, .slice Aw t.q.nw cw, .slice Af t.q.nf cf, .slice Ao t.no co, .slice Ap t.np cp, .slice As t.ns cs, .int .i64 t.far, .int .i64 t.harm, .int .i64 t.many] 29)).alloc (.cells #[.int .i64 (i : Int)] 3)).alloc (.cells #[.int .i64 0] 3)).alloc (.cells #[.int .i64 0] 33)) w2) (by kernel_rfl) (by decide +kernel) rfl ?_
  apply Exists.intro
  refine ⟨fun K hK => ?_, ?_, fun w1 hb1 K Q' hK => ?_, ?_⟩
  · skip
    repeat (first | (refine wpCalm_skip rfl ?_) | (refine wpCalm_step rfl (fun K hK => ?_); go_simp; (first | (refine hK _ ?_; clear hK K) | (apply Exists.intro; refine ⟨fun _ => ?_, hK _ ?_⟩; ((first | (go_at_call 87; with_reducible exact newer_of (HC1.out _)))); clear hK K))))
    refine wpCalm_nil ?_
    exact hK
  · rfl
  · go_simp
    refine (HCO.out w1 hb1).mono ?_
    rintro e w2 ⟨ho, hb2⟩
    obtain ⟨v, rfl⟩ := StrOut.ret ho
    exact hK v w2 ⟨ho, bTrans hb1 hb2⟩
  clear HCO
  rintro v w2 ⟨ho, hb2⟩
  obtain ⟨C, Al, cl, e1, hst, hC⟩ := ho.2 rfl
  obtain rfl := Ending.returned.inj e1
  clear ho e1
  apply Exists.intro
  refine ⟨fun K hK => ?_, fun w1 hb3 => ?_⟩
  · skip
    repeat (first | (refine wpCalm_skip rfl ?_) | (refine wpCalm_step rfl (fun K hK => ?_); go_simp; (first | (refine hK _ ?_; clear hK K) | (apply Exists.intro; refine ⟨fun _ => ?_, hK _ ?_⟩; (fail); clear hK K))))
    refine wpCalm_nil ?_
    exact hK
  have hst := hst.mono hb3
  have hb := bTrans hb2 hb3
  clear hb2 hb3
  have hB1 : Below w.heap.size w w1 := bTrans (bAlloc (bAlloc (bAlloc (bAlloc (Below.refl _ _) (.cells #[.int .i64 t.q.wells, .slice Aw t.q.nw cw, .slice Af t.q.nf cf, .slice Ao t.no co, .slice Ap t.np cp, .slice As t.ns cs, .int .i64 t.far, .int .i64 t.harm, .int .i64 t.many] 29)) (.cells #[.int .i64 (i : Int)] 3)) (.cells #[.int .i64 0] 3)) (.cells #[.int .i64 0] 33)) hb
  have HD1 := Lib.hid (bTrans HD0.out hB1)
  have HT1 := Lib.hid (HT0.out.mono hB1)
  have HTB1 := Lib.hid (HTB0.out.mono hB1)
  have HNA1 := Lib.hid (HNA0.out.mono hB1)
  have HST1 := Lib.hid (hst)
  have T1 := Lib.hid (show TBox w1 w.heap.size 29 #[.int .i64 t.q.wells, .slice Aw t.q.nw cw, .slice Af t.q.nf cf, .slice Ao t.no co, .slice Ap t.np cp, .slice As t.ns cs, .int .i64 t.far, .int .i64 t.harm, .int .i64 t.many] from by have := ((TBox.new w #[.int .i64 t.q.wells, .slice Aw t.q.nw cw, .slice Af t.q.nf cf, .slice Ao t.no co, .slice Ap t.np cp, .slice As t.ns cs, .int .i64 t.far, .int .i64 t.harm, .int .i64 t.many] 29).mono (bAlloc (bAlloc (bAlloc (Below.refl _ _) (.cells #[.int .i64 (i : Int)] 3)) (.cells #[.int .i64 0] 3)) (.cells #[.int .i64 0] 33))).mono hb; simpa using this)
  have SP1 := Lib.hid (show TBox w1 (w.heap.size + 1) 3 #[.int .i64 (i : Int)] from by have := ((TBox.new (w.alloc (.cells #[.int .i64 t.q.wells, .slice Aw t.q.nw cw, .slice Af t.q.nf cf, .slice Ao t.no co, .slice Ap t.np cp, .slice As t.ns cs, .int .i64 t.far, .int .i64 t.harm, .int .i64 t.many] 29)) #[.int .i64 (i : Int)] 3).mono (bAlloc (bAlloc (Below.refl _ _) (.cells #[.int .i64 0] 3)) (.cells #[.int .i64 0] 33))).mono hb; simpa using this)
  have R1 := Lib.hid (show TBox w1 (w.heap.size + 1 + 1) 3 #[.int .i64 0] from by have := ((TBox.new ((w.alloc (.cells #[.int .i64 t.q.wells, .slice Aw t.q.nw cw, .slice Af t.q.nf cf, .slice Ao t.no co, .slice Ap t.np cp, .slice As t.ns cs, .int .i64 t.far, .int .i64 t.harm, .int .i64 t.many] 29)).alloc (.cells #[.int .i64 (i : Int)] 3)) #[.int .i64 0] 3).mono (bAlloc (Below.refl _ _) (.cells #[.int .i64 0] 33))).mono hb; simpa using this)
  have E1 := Lib.hid (show TBox w1 (w.heap.size + 1 + 1 + 1) 33 #[.int .i64 0] from by have := ((TBox.new (((w.alloc (.cells #[.int .i64 t.q.wells, .slice Aw t.q.nw cw, .slice Af t.q.nf cf, .slice Ao t.no co, .slice Ap t.np cp, .slice As t.ns cs, .int .i64 t.far, .int .i64 t.harm, .int .i64 t.many] 29)).alloc (.cells #[.int .i64 (i : Int)] 3)).alloc (.cells #[.int .i64 0] 3)) #[.int .i64 0] 33).mono (Below.refl _ _)).mono hb; simpa using this)
  clear hb hB1 HD0 HT0 HTB0 HNA0
  obtain ⟨T_0, T_1, T_2, T_3, T_4, T_5, T_6, T_7, T_8, T_l⟩ := T1.out.c9
  obtain ⟨SP_0, SP_l⟩ := SP1.out.c1
  obtain ⟨R_0, R_l⟩ := R1.out.c1
  obtain ⟨E_0, E_l⟩ := E1.out.c1
  have HC := Lib.hid hC
  clear hst hC
  have hst := HST1.out
  have HSEQ := Lib.hid (whole_seq 6 C Aw Af Ao Ap As cw cf co cp cs t Al cl w1 w1 (by decide) hst HNA1.out (Below.refl _ _) HOK.out HSM.out)
  have hD := HD1.out
  have hzk := hD.size
  clear hst
  go_wp2_with fail
  refine (wpIn_wide (n := 7)).1 ?_
  refine wpIn_range_caps (gf := 107) (bnd := #[.pointer (some ⟨C, 0, none⟩)]) (lb := #[]) rfl (by decide) rfl trivial (enters_of Tryz.func107 (by kernel_rfl)) HSEQ.out (fun h k => h.trans k) (fun W l o o' hl ho hc => KpT.put hl ho hc _) (fun _ => rfl)
    (fun pre W => (i : Int) ∉ pre ∧ Below w1.heap.size w1 W)
    (fun c pre W => c = .ret ∧ (i : Int) ∈ pre ∧ Boxed W (w.heap.size + 1 + 1) 3 (.int .i64 (t.whole i)) ∧ Boxed W (w.heap.size + 1 + 1 + 1) 33 (.int .i64 0) ∧ Below w.heap.size w W)
    ((ownFrom_pure _ (fun pre : List Int => (i : Int) ∉ pre)).and (ownFrom_below (Nat.le_refl _) (Nat.le_refl _)))
    (fun c => (ownFrom_pure _ (fun _ => c = .ret)).and ((ownFrom_pure _ (fun pre : List Int => (i : Int) ∈ pre)).and (((boxed_own _ _ (fun _ => .int .i64 (t.whole i))).from _).and (((boxed_own _ _ (fun _ => .int .i64 0)).from _).and (ownFrom_below (by omega) (by omega))))))
    ⟨by simp, Below.refl _ _⟩
    (fun x a' W => ∃ v0 v1 v2 v6 v7 v10 v11 v12 v13 v14 v15 v16 v17 v18 v19 v20 v21 v22 v23 v24 v25 v26 v27 v28, a' = { tmps := #[v0, v1, v2, .pointer (some ⟨w.heap.size + 1, 0, none⟩), .pointer (some ⟨w.heap.size + 1 + 1, 0, none⟩), .pointer (some ⟨w.heap.size + 1 + 1 + 1, 0, none⟩), v6, v7, .int .i64 x, .int .i64 (t.whole x.toNat), v10, v11, v12, v13, v14, v15, v16, v17, v18, v19, v20, v21, v22, v23, v24, v25, v26, v27, v28], defers := [] })
    (fun x a' _ X Y row hs hg hr => hs) ?assign ?body ?done ?stop
  case assign =>
    rintro l pre x W K hsz hI hK
    simp only [encW]
    gi_wp2
    exact hK _ _ (KeepsFrom.refl _ _) (KpT.refl _ _ _) hI ⟨_, _, _, _, _, _, _, _, _, _, _, _, _, _, _, _, _, _, _, _, _, _, _, _, rfl⟩
  case body =>
    rintro l pre x a' W hsz ⟨hpre, hbel⟩ ⟨v0, v1, v2, v6, v7, v10, v11, v12, v13, v14, v15, v16, v17, v18, v19, v20, v21, v22, v23, v24, v25, v26, v27, v28, rfl⟩ hlen
    have HBL := Lib.hid hbel
    have HP := Lib.hid hpre
    have hsp := SP1.out.mono hbel
    have hr := R1.out.mono hbel
    have he := E1.out.mono hbel
    have x0 := hsp.cell 0
    have x1 := hsp.lt
    have y0 := hr.cell 0
    have y1 := hr.frozen 0
    have y2 := hr.lt
    have z0 := he.cell 0
    have z1 := he.frozen 0
    have z2 := he.lt
    have HRB := Lib.hid (show Boxed W (w.heap.size + 1 + 1) 3 (.int .i64 0) from hr)
    have HEB := Lib.hid (show Boxed W (w.heap.size + 1 + 1 + 1) 33 (.int .i64 0) from he)
    clear hbel hpre hlen hsp hr he
    by_cases hx : x = (i : Int)
    · subst hx
      have g0 : ((i : Int) == (i : Int)) = true := by simp
      gi_wp2
      refine ⟨((KeepsOthers.setCell _ _ _).from _).trans ((KeepsOthers.setCell _ _ _).from _), rfl, by simp, ?_, ?_, ?_⟩
      · have := (HRB.out.set (.int .i64 (t.whole i))).other (B' := w.heap.size + 1 + 1 + 1) (by omega) (.int .i64 0)
        simpa using this
      · exact (HEB.out.other (B' := w.heap.size + 1 + 1) (by omega) (.int .i64 (t.whole (i : Int).toNat))).set _
      · exact Below.setCell (p := ⟨w.heap.size + 1 + 1 + 1, 0, none⟩) (Below.setCell (p := ⟨w.heap.size + 1 + 1, 0, none⟩) (bTrans HD1.out HBL.out) (by simp <;> omega) _) (by simp <;> omega) _
    · have g0 : (x == (i : Int)) = false := by simp; exact hx
      gi_wp2
      exact ⟨KeepsFrom.refl _ _, KpT.refl _ _ _, by simp; exact ⟨HP.out, fun e => hx e.symm⟩, HBL.out⟩
  case done =>
    rintro D xs W hD hxs ⟨hno, hbel⟩ hK
    have HBL := Lib.hid hbel
    have hcan : t.canB i = false := by
      cases hc : t.canB i
      · rfl
      · exact absurd (hxs ▸ selTo_mem.2 ⟨i, HI.out, hc, rfl⟩) hno
    have HR2 := Lib.hid (show t.wholeOut (i : Int) = (0, 3) by rw [HR.out, hcan]; rfl)
    have hr := R1.out.mono hbel
    have he := E1.out.mono hbel
    have y0 := hr.cell 0
    have y1 := hr.frozen 0
    have y2 := hr.lt
    have z0 := he.cell 0
    have z1 := he.frozen 0
    have z2 := he.lt
    have HRB := Lib.hid (show Boxed W (w.heap.size + 1 + 1) 3 (.int .i64 0) from hr)
    have HEB := Lib.hid (show Boxed W (w.heap.size + 1 + 1 + 1) 33 (.int .i64 0) from he)
    clear hbel hno hcan hxs hr he
    go_wp2_with fail
    have hK2 := (KeepsOthers.setCell (W.setCell ⟨w.heap.size + 1 + 1, 0, none⟩ (.int .i64 0)) ⟨w.heap.size + 1 + 1 + 1, 0, none⟩ (.int .i64 3)).same D _ ((KeepsOthers.setCell W ⟨w.heap.size + 1 + 1, 0, none⟩ (.int .i64 0)).same D _ hK rfl) rfl
    have hb1 := (HRB.out.set (.int .i64 0)).other (B' := w.heap.size + 1 + 1 + 1) (by omega) (.int .i64 3)
    have hb2 := (HEB.out.other (B' := w.heap.size + 1 + 1) (by omega) (.int .i64 0)).set (.int .i64 3)
    refine ⟨by simp, .inl ⟨_, _, rfl, run_takeDeferred hK2, ?_⟩⟩
    have c4 := cell_kept hb1.cell (grownBy_putObj' _ D (.deferred none)) (fun r e => by cases e; exact ⟨_, hK2, rfl⟩)
    have c5 := cell_kept hb2.cell (grownBy_putObj' _ D (.deferred none)) (fun r e => by cases e; exact ⟨_, hK2, rfl⟩)
    refine ⟨.tuple #[.int .i64 0, .int .i64 3], by simp [results, Tryz.results49, go_sem, c4, c5], by rw [HR2.out], ?_⟩
    exact below_put (Below.setCell (p := ⟨w.heap.size + 1 + 1 + 1, 0, none⟩) (Below.setCell (p := ⟨w.heap.size + 1 + 1, 0, none⟩) (bTrans HD1.out HBL.out) (by simp <;> omega) _) (by simp <;> omega) _) (by simp [World.setCell]; omega) (by omega) _
  case stop =>
    rintro D c pre W hD hpre ⟨rfl, hin, hb1, hb2, hbel⟩ hK
    have hcan : t.canB i = true := by
      obtain ⟨j, _, hj, e⟩ := selTo_mem.1 (show (i : Int) ∈ selTo t.canB t.ns from hpre.subset hin)
      obtain rfl : i = j := by omega
      exact hj
    have HR2 := Lib.hid (show t.wholeOut (i : Int) = (t.whole i, 0) by rw [HR.out, hcan]; rfl)
    have HBL := Lib.hid hbel
    clear hbel hin hcan hpre
    gi_wp2
    refine ⟨by simp, .inl ⟨_, _, rfl, run_takeDeferred hK, ?_⟩⟩
    have c4 := cell_kept hb1.cell (grownBy_putObj' _ D (.deferred none)) (fun r e => by cases e; exact ⟨_, hK, rfl⟩)
    have c5 := cell_kept hb2.cell (grownBy_putObj' _ D (.deferred none)) (fun r e => by cases e; exact ⟨_, hK, rfl⟩)
    refine ⟨.tuple #[.int .i64 (t.whole i), .int .i64 0], by simp [results, Tryz.results49, go_sem, c4, c5], by rw [HR2.out], ?_⟩
    exact below_put HBL.out (by have := hb1.lt; omega) (by omega) _
end Go.Proofs.YtjpfdhhiofjpbaaGreatDoor

namespace Go.Proofs.YtjpfdhhiofjpbaaGreatDoor
open Go.RowKit Go.Sort
theorem cheap_bd {t : Pt} (ok : t.Ok) {s : Nat} (hs : s < t.ns) : 0 ≤ (t.cheap s).1 ∧ (t.cheap s).1 ≤ 4968 := cheapOut_bd (ok.spot s hs).sh
theorem Pt.m_no {t : Pt} (ok : t.Ok) : t.m = t.no := by have := ok.no; unfold Pt.m; omega
theorem Pt.m_np {t : Pt} (ok : t.Ok) : t.m = t.np := by have := ok.np; unfold Pt.m; omega
/-! ### towns in which less is forbidden -/
section
variable {o t : Pt} (h : Looser o t)
include h
end
/-! ### towns that are alike -/
section
variable {o t : Pt} (h : Twin o t)
include h
end
/-! ### pairs -/
end Go.Proofs.YtjpfdhhiofjpbaaGreatDoor

namespace Go.Proofs.YtjpfdhhiofjpbaaGreatDoor
open Go.RowKit Go.Sort
theorem dist9_any (a b : Int) (w : World) (ha : 0 ≤ a ∧ a ≤ 99) (hb : 0 ≤ b ∧ b ≤ 99) : Calls Tryz.prog 58 #[.int .i64 a, .int .i64 b] w fun e w' => e = .returned (.int .i64 (dst a b)) ∧ Below w.heap.size w w' := by
  have h1 : IntKind.i64.wrap (a - b) = a - b := IntWalk.i64_in _ (by omega)
  have h2 : IntKind.i64.wrap (b - a) = b - a := IntWalk.i64_in _ (by omega)
  obtain ⟨u, hu⟩ : ∃ u, (if a - b < b - a then b - a else a - b) = u := ⟨_, rfl⟩
  have HU := Lib.hid (show dst a b = u by rw [← hu]; unfold dst; split <;> omega)
  clear ha hb
  go_enter Tryz.func58, Tryz.ntmps58
  go_wp2_with fail
  go_ret
  exact ⟨by rw [HU.out]; rfl, Below.refl _ _⟩
set_option maxHeartbeats 4000000 in
set_option maxRecDepth 100000 in
theorem isSpotN9_any (Aw Af Ao Ap As : Option Addr) (cw cf co cp cs : Nat) (t : Pt) (n : Int) (w : World) (hs : t.ns ≤ 9223372036854775807) :
    Calls Tryz.prog 40 #[.agg #[.int .i64 t.q.wells, .slice Aw t.q.nw cw, .slice Af t.q.nf cf, .slice Ao t.no co, .slice Ap t.np cp, .slice As t.ns cs, .int .i64 t.far, .int .i64 t.harm, .int .i64 t.many], .int .i64 n] w fun e w' => e = .returned (.bool (t.hasB n)) ∧ Below w.heap.size w w' := by
  have hw1 : IntKind.i64.wrap ((t.ns : Int) - 1) = (t.ns : Int) - 1 := IntWalk.i64_in _ (by omega)
  have HN := Lib.hid (show inR n 0 ((t.ns : Int) - 1) = t.hasB n from rfl)
  clear hs
  have HD0 := Lib.hid (Below.refl w.heap.size w)
  go_enter Tryz.func40, Tryz.ntmps40
  go_wp2_with fail
  refine (within9_b _ _ _ _ _ HN.out).mono ?_
  rintro e w0 ⟨rfl, rfl⟩
  go_wp2_with fail
  go_ret
  exact ⟨rfl, (bTrans HD0.out (bAlloc (Below.refl _ _) (.cells #[.int .i64 t.q.wells, .slice Aw t.q.nw cw, .slice Af t.q.nf cf, .slice Ao t.no co, .slice Ap t.np cp, .slice As t.ns cs, .int .i64 t.far, .int .i64 t.harm, .int .i64 t.many] 29)))⟩
set_option maxHeartbeats 4000000 in
set_option maxRecDepth 100000 in
theorem ask9_any (Aw Af Ao Ap As : Option Addr) (cw cf co cp cs : Nat) (t : Pt) (is : Bool) (w : World) (hs : t.Small) (hT : PAt w Aw Af Ao Ap As t) :
    Calls Tryz.prog 89 #[.agg #[.int .i64 t.q.wells, .slice Aw t.q.nw cw, .slice Af t.q.nf cf, .slice Ao t.no co, .slice Ap t.np cp, .slice As t.ns cs, .int .i64 t.far, .int .i64 t.harm, .int .i64 t.many], .bool is] w fun e w' => e = .returned (.int .i64 (t.askErr is)) ∧ Below w.heap.size w w' := by
  have HD0 := Lib.hid (Below.refl w.heap.size w)
  have HSM := Lib.hid hs
  have HT0 := Lib.hid hT
  clear hs hT
  go_enter Tryz.func89, Tryz.ntmps89
  go_wp2_with fail
  refine (check9_any Aw Af Ao Ap As cw cf co cp cs t _ HSM.out (HT0.out.mono (bAlloc (Below.refl _ _) (.cells #[.int .i64 t.q.wells, .slice Aw t.q.nw cw, .slice Af t.q.nf cf, .slice Ao t.no co, .slice Ap t.np cp, .slice As t.ns cs, .int .i64 t.far, .int .i64 t.harm, .int .i64 t.many] 29)))).mono ?_
  rintro e w1 ⟨rfl, hb⟩
  have hB1 : Below w.heap.size w w1 := bTrans (bAlloc (Below.refl _ _) (.cells #[.int .i64 t.q.wells, .slice Aw t.q.nw cw, .slice Af t.q.nf cf, .slice Ao t.no co, .slice Ap t.np cp, .slice As t.ns cs, .int .i64 t.far, .int .i64 t.harm, .int .i64 t.many] 29)) hb
  have HD1 := Lib.hid (bTrans HD0.out hB1)
  have HT1 := Lib.hid (HT0.out.mono hB1)
  have T1 := Lib.hid (show TBox w1 w.heap.size 29 #[.int .i64 t.q.wells, .slice Aw t.q.nw cw, .slice Af t.q.nf cf, .slice Ao t.no co, .slice Ap t.np cp, .slice As t.ns cs, .int .i64 t.far, .int .i64 t.harm, .int .i64 t.many] from by have := ((TBox.new w #[.int .i64 t.q.wells, .slice Aw t.q.nw cw, .slice Af t.q.nf cf, .slice Ao t.no co, .slice Ap t.np cp, .slice As t.ns cs, .int .i64 t.far, .int .i64 t.harm, .int .i64 t.many] 29).mono (Below.refl _ _)).mono hb; simpa using this)
  clear hb hB1 HD0 HT0
  obtain ⟨T_0, T_1, T_2, T_3, T_4, T_5, T_6, T_7, T_8, T_l⟩ := T1.out.c9
  by_cases hok : t.Ok
  case neg =>
    have HE := Lib.hid (Pt.askErr_bad hok is)
    rw [Pt.err_bad hok]
    clear hok
    go_wp2_with fail
    go_ret
    exact ⟨by rw [HE.out]; rfl, HD1.out⟩
  rw [Pt.err_ok hok]
  have HOK := Lib.hid hok
  clear hok
  cases is
  · skip
    have HE := Lib.hid (Pt.askErr_arg HOK.out)
    go_wp2_with fail
    go_ret
    exact ⟨by rw [HE.out]; rfl, HD1.out⟩
  · skip
    have HE := Lib.hid (Pt.askErr_ok HOK.out)
    go_wp2_with fail
    go_ret
    exact ⟨by rw [HE.out]; rfl, HD1.out⟩
end Go.Proofs.YtjpfdhhiofjpbaaGreatDoor

namespace Go.Proofs.YtjpfdhhiofjpbaaGreatDoor
open Go.RowKit Go.Sort
section
variable {P : Program} {ops : Array Oper} {md : Region.Mode}
attribute [go_sem] Oper.stirAt Oper.stirUpon
end
theorem AtHand.mono {N : Nat} {e : TypeId} {size n : Nat} {xs : List Value} {w w' : World} {v : Value} (hb : Below w.heap.size w w') (h : AtHand N e size n xs w v) : AtHand N e size n xs w' v :=
  h.imp id fun h => ⟨h.1, owns_below h.2 hb⟩
end Go.Proofs.YtjpfdhhiofjpbaaGreatDoor


