/- Parts joined: what the claim PlacesSpot needs beyond the others. -/
import Derived.WalkKit
import Derived.WalkSpells
import Derived.WalkLawsBesides
import Derived.BigQuiet
import Derived.Lib.Hide
import Derived.Lib.QuietBelow
import Derived.Deep.RegionHeld3
import Derived.OwnWalk
import Derived.Laws.AppendOwn
import Derived.Laws.OwnMore
import Derived.Laws.IdiomCopy
import Derived.Deep.RegionLaw
import Derived.Lib.SliceRun
import Derived.ArgAppend
import Derived.RegionTactic
import Derived.Laws.MakeOwn
import Derived.Test.YtjpfdhhiofjpbaaGreatDoorProg
import Derived.Test.YtjpfdhhiofjpbaaGreatDoorTie
import Derived.ProofKit
import Derived.LaidMore
import Derived.OpenShut
import Derived.Deep.Slices
import Derived.Deep.Fields
import Derived.Stop.Joined
import Derived.Test.YtjpfdhhiofjpbaaGreatDoorNQA
import Derived.Test.YtjpfdhhiofjpbaaGreatDoorNQB
import Derived.Test.YtjpfdhhiofjpbaaGreatDoorNQC
import Derived.Test.YtjpfdhhiofjpbaaGreatDoorNQD
import Derived.Test.YtjpfdhhiofjpbaaGreatDoorNQE
import Derived.Test.YtjpfdhhiofjpbaaGreatDoorNQF
import Derived.Test.YtjpfdhhiofjpbaaGreatDoorNQG
import Derived.Test.YtjpfdhhiofjpbaaGreatDoorNQH
import Derived.Test.YtjpfdhhiofjpbaaGreatDoorNQI
import Derived.Test.YtjpfdhhiofjpbaaGreatDoorNQJ
import Derived.Test.YtjpfdhhiofjpbaaGreatDoorNQK
import Derived.Test.YtjpfdhhiofjpbaaGreatDoorNQL
import Derived.Test.YtjpfdhhiofjpbaaGreatDoorNQM
import Derived.Test.YtjpfdhhiofjpbaaGreatDoorNQN
import Derived.Test.YtjpfdhhiofjpbaaGreatDoorNQO
import Derived.Test.YtjpfdhhiofjpbaaGreatDoorNQP
import Derived.Test.YtjpfdhhiofjpbaaGreatDoorNQQ
import Derived.Test.YtjpfdhhiofjpbaaGreatDoorNQR
import Derived.Test.YtjpfdhhiofjpbaaGreatDoorNQS
import Derived.Test.YtjpfdhhiofjpbaaGreatDoorNQT
import Derived.Test.YtjpfdhhiofjpbaaGreatDoorNQU
set_option linter.unusedSimpArgs false
set_option linter.unusedVariables false
namespace Go.Proofs.YtjpfdhhiofjpbaaGreatDoor
open Go.RowKit Go.Sort
/-! ### Worlds -/
attribute [go_sem] cell_grow frozen_grow Instr.field asAgg
section
variable {w x y : World}
end
/-! ### Endings -/
/-! ### Plain notions -/
/-! ### How slices read -/
theorem sumTo_congr {f g : Nat → Int} {n : Nat} (h : ∀ i, i < n → f i = g i) : sumTo f n = sumTo g n := by
  induction n with
  | zero => rfl
  | succ n ih => simp only [sumTo, ih (fun i hi => h i (by omega)), h n (by omega)]
section
variable {P : Program} {ops : Array Oper} {md : Region.Mode}

/-! ### The frame behind some of the operations -/
/-! ### Operations that are calm: one value in every world that is the first one with new blocks; what they leave is that with new blocks -/
attribute [go_sem] Oper.calm Oper.calmAt Oper.calmUpon
/-! ### Whoever looks at a slot, and whoever writes it, wait for each other -/
end
section
variable {P : Program} {ops : Array Oper} {md : Region.Mode}
attribute [go_sem] Oper.heldAt Oper.heldUpon newer_refl depsP
end
section
variable {m : Nat} {g : Nat → Int} {x d n : Nat} {h : Nat → Int}
end
section
variable {P : Program} {ops : Array Oper} {md : Region.Mode}
theorem wpStir_call {W : World} {Q : Act → World → Prop} {k : Nat} {o : Oper} {l : List Oper} {c : Value} {hs : List Stir} {a : Act} {F : List (Nat × (World → Prop))} (hg : o.guard = none)
    (h1 : ∀ w', Below W.heap.size W w' → depsP md ops k F w' → Oper.stirAt P o a w' Newer (fun _ v => v = c))
    (h2 : wpStir P md ops W Q (k + 1) l hs (a.put o.dst c) F) : wpStir P md ops W Q k (o :: l) (.const c :: hs) a F := by
  refine wpStir_const ?_ h2
  unfold Region.wanted
  rw [hg, if_pos rfl]
  exact fun p => h1 _ (below_regrown _ _ _)
attribute [go_sem] Oper.stirAt Oper.stirUpon
end
/-! ### Bounds -/
/-! ### Spans -/
section
variable {P : Program} {ops : Array Oper} {md : Region.Mode}
end
/-! ### Rows of structs -/
/-! ### A row at hand -/
end Go.Proofs.YtjpfdhhiofjpbaaGreatDoor

namespace Go.Proofs.YtjpfdhhiofjpbaaGreatDoor
/-- a test: two wells -/
abbrev Tp := Nat × Nat
/-- all tests of m wells, in order -/
def testsL (m : Nat) : List Tp := (List.range m).flatMap fun p => (List.range m).map fun q => (p, q)
theorem testsL_mem {m : Nat} {x : Tp} : x ∈ testsL m ↔ x.1 < m ∧ x.2 < m := by
  unfold testsL
  obtain ⟨a, b⟩ := x
  simp only [List.mem_flatMap, List.mem_map, List.mem_range, Prod.mk.injEq]
  constructor
  · rintro ⟨p, hp, q, hq, rfl, rfl⟩
    exact ⟨hp, hq⟩
  · rintro ⟨h1, h2⟩
    exact ⟨a, h1, b, h2, rfl, rfl⟩
theorem flat_len {m : Nat} {f : Nat → List Tp} (h : ∀ p, (f p).length = m) : ∀ k, ((List.range k).flatMap f).length = k * m
  | 0 => by simp
  | k + 1 => by rw [List.range_succ, List.flatMap_append, List.length_append, flat_len h k, Nat.succ_mul]; simp [h]
theorem testsL_len (m : Nat) : (testsL m).length = m * m := flat_len (fun p => by simp) m
/-- all lists of k of some tests, the first one first -/
def listsL : List Tp → Nat → List (List Tp)
  | _, 0 => [[]]
  | [], _ + 1 => []
  | x :: l, k + 1 => (listsL l k).map (x :: ·) ++ listsL l (k + 1)
theorem listsL_zero (l : List Tp) : listsL l 0 = [[]] := by cases l <;> rfl
theorem listsL_mem {x : List Tp} : ∀ {l : List Tp} {k : Nat}, x ∈ listsL l k ↔ List.Sublist x l ∧ x.length = k
  | l, 0 => by
    rw [listsL_zero, List.mem_singleton]
    constructor
    · rintro rfl
      exact ⟨List.nil_sublist _, rfl⟩
    · rintro ⟨_, h⟩
      exact List.eq_nil_of_length_eq_zero h
  | [], k + 1 => by
    constructor
    · intro h
      cases h
    · rintro ⟨h1, h2⟩
      rw [List.sublist_nil.1 h1] at h2
      cases h2
  | y :: l, k + 1 => by
    have i1 := fun x => @listsL_mem x l k
    have i2 := @listsL_mem x l (k + 1)
    unfold listsL
    rw [List.mem_append, List.mem_map, i2]
    constructor
    · rintro (⟨z, hz, rfl⟩ | ⟨h1, h2⟩)
      · obtain ⟨a, b⟩ := (i1 z).1 hz
        exact ⟨a.cons_cons y, by simp [b]⟩
      · exact ⟨h1.cons y, h2⟩
    · rintro ⟨h1, h2⟩
      cases h1 with
      | cons _ h => exact .inr ⟨h, h2⟩
      | cons_cons _ h => exact .inl ⟨_, (i1 _).2 ⟨h, by simpa using h2⟩, rfl⟩
theorem listsL_all : ∀ l : List Tp, listsL l l.length = [l]
  | [] => rfl
  | x :: l => by
    show (listsL l l.length).map (x :: ·) ++ listsL l (l.length + 1) = _
    have h0 : listsL l (l.length + 1) = [] := List.eq_nil_iff_forall_not_mem.2 fun y hy => by
      obtain ⟨h1, h2⟩ := listsL_mem.1 hy
      have := h1.length_le
      omega
    rw [listsL_all l, h0]
    rfl
/-- the first list of a, a + 1 .. of some tests (n rounds) of which something is so -/
def firstUpTo (l : List Tp) (p : List Tp → Bool) : Nat → Nat → Option (List Tp)
  | _, 0 => none
  | a, n + 1 => match (listsL l a).find? p with
    | some x => some x
    | none => firstUpTo l p (a + 1) n
/-- the first of the shortest lists of some tests of which something is so; all of them, if of no shorter one -/
def fewestL (l : List Tp) (p : List Tp → Bool) : List Tp := (firstUpTo l p 0 l.length).getD l
theorem firstUpTo_snoc (l : List Tp) (p : List Tp → Bool) : ∀ n a, firstUpTo l p a (n + 1) = match firstUpTo l p a n with
    | some x => some x
    | none => (listsL l (a + n)).find? p
  | 0, a => by
    simp only [firstUpTo, Nat.add_zero]
    cases (listsL l a).find? p <;> rfl
  | n + 1, a => by
    have ih := firstUpTo_snoc l p n (a + 1)
    rw [show firstUpTo l p a (n + 1 + 1) = (match (listsL l a).find? p with | some x => some x | none => firstUpTo l p (a + 1) (n + 1)) from rfl, ih,
      show firstUpTo l p a (n + 1) = (match (listsL l a).find? p with | some x => some x | none => firstUpTo l p (a + 1) n) from rfl]
    cases (listsL l a).find? p with
    | some x => rfl
    | none => simp only [show a + 1 + n = a + (n + 1) by omega]
theorem firstUpTo_spec (l : List Tp) (p : List Tp → Bool) : ∀ n a, (∀ x, firstUpTo l p a n = some x → List.Sublist x l ∧ p x = true ∧ a ≤ x.length ∧ x.length < a + n ∧ ∀ y, List.Sublist y l → p y = true → a ≤ y.length → x.length ≤ y.length) ∧
    (firstUpTo l p a n = none → ∀ y, List.Sublist y l → p y = true → a ≤ y.length → a + n ≤ y.length)
  | 0, a => ⟨(fun x h => by cases h), fun _ y _ _ h => by omega⟩
  | n + 1, a => by
    obtain ⟨i1, i2⟩ := firstUpTo_spec l p n (a + 1)
    rw [show firstUpTo l p a (n + 1) = (match (listsL l a).find? p with | some x => some x | none => firstUpTo l p (a + 1) n) from rfl]
    cases hf : (listsL l a).find? p with
    | some z =>
      refine ⟨fun x h => ?_, fun h => by cases h⟩
      obtain rfl : z = x := Option.some.inj h
      obtain ⟨h1, h2⟩ := listsL_mem.1 (List.mem_of_find?_eq_some hf)
      exact ⟨h1, List.find?_some hf, by omega, by omega, fun y _ _ hy => by omega⟩
    | none =>
      have hno : ∀ y, List.Sublist y l → p y = true → a ≤ y.length → a + 1 ≤ y.length := fun y h1 h2 h3 => by
        rcases Nat.eq_or_lt_of_le h3 with h4 | h4
        · have := List.find?_eq_none.1 hf y (listsL_mem.2 ⟨h1, h4.symm⟩)
          exact absurd h2 this
        · exact h4
      refine ⟨fun x h => ?_, fun h y h1 h2 h3 => ?_⟩
      · obtain ⟨a1, a2, a3, a4, a5⟩ := i1 x h
        exact ⟨a1, a2, by omega, by omega, fun y h1 h2 h3 => a5 y h1 h2 (hno y h1 h2 h3)⟩
      · have := i2 h y h1 h2 (hno y h1 h2 h3)
        omega
theorem find_congr {α : Type} {p q : α → Bool} : ∀ {l : List α}, (∀ x, x ∈ l → p x = q x) → l.find? p = l.find? q
  | [], _ => rfl
  | x :: l, h => by
    rw [List.find?_cons, List.find?_cons, h x (by simp), find_congr (l := l) fun y hy => h y (by simp [hy])]
theorem firstUpTo_congr {l : List Tp} {p q : List Tp → Bool} (h : ∀ y, List.Sublist y l → p y = q y) : ∀ n a, firstUpTo l p a n = firstUpTo l q a n
  | 0, _ => rfl
  | n + 1, a => by
    unfold firstUpTo
    rw [find_congr (q := q) fun x hx => h x (listsL_mem.1 hx).1, firstUpTo_congr h n (a + 1)]
theorem fewest_congr {l : List Tp} {p q : List Tp → Bool} (h : ∀ y, List.Sublist y l → p y = q y) : fewestL l p = fewestL l q := by
  unfold fewestL
  rw [firstUpTo_congr h]
end Go.Proofs.YtjpfdhhiofjpbaaGreatDoor

namespace Go.Proofs.YtjpfdhhiofjpbaaGreatDoor
open Go.RowKit Go.Sort
theorem intL0_mem {L : List Int} {k : Nat} (h : k < L.length) : intL0 L k ∈ L := by
  unfold intL0
  rw [List.getElem?_eq_getElem h]
  exact List.getElem_mem h
theorem mem_intL0 {L : List Int} {x : Int} (h : x ∈ L) : ∃ k, k < L.length ∧ intL0 L k = x := by
  obtain ⟨k, hk, he⟩ := List.getElem_of_mem h
  exact ⟨k, hk, by unfold intL0; rw [List.getElem?_eq_getElem hk]; exact he⟩
/-- what a test shows in a world -/
def Qt.F (t : Qt) (i : Int) (x : Tp) : Int := (t.world i.toNat).fall x.1 x.2
def Qt.tests (t : Qt) : List Tp := testsL t.wells.toNat
def Qt.apart (t : Qt) (x : Tp) (a b : Int) : Bool := t.F a x != t.F b x
def Qt.someB (t : Qt) (l : List Tp) (a b : Int) : Bool := l.any fun x => t.apart x a b
theorem apart_comm (t : Qt) (x : Tp) (a b : Int) : t.apart x a b = t.apart x b a := by
  unfold Qt.apart
  by_cases h : t.F a x = t.F b x
  · simp [h]
  · rw [bne_iff_ne.2 h, bne_iff_ne.2 (Ne.symm h)]
theorem someB_comm (t : Qt) (l : List Tp) (a b : Int) : t.someB l a b = t.someB l b a := by
  unfold Qt.someB
  congr 1
  funext x
  exact apart_comm t x a b
/-! ### How many tests are enough -/
end Go.Proofs.YtjpfdhhiofjpbaaGreatDoor

namespace Go.Proofs.YtjpfdhhiofjpbaaGreatDoor
open Go.RowKit Go.Sort
/-! ### What is known -/
theorem cntB_zero {p : Nat → Bool} : ∀ {n : Nat}, cntB p n = 0 ↔ ∀ i, i < n → p i = false
  | 0 => by simp [cntB]
  | n + 1 => by
    have ih := cntB_zero (p := p) (n := n)
    unfold cntB
    split
    · rename_i h
      exact ⟨fun e => by omega, fun e => by rw [e n (by omega)] at h; cases h⟩
    · rename_i h
      rw [ih]
      refine ⟨fun e i hi => ?_, fun e i hi => e i (by omega)⟩
      rcases Nat.lt_or_ge i n with h1 | h1
      · exact e i h1
      · obtain rfl : i = n := by omega
        simpa using h
/-! ### Draws -/
end Go.Proofs.YtjpfdhhiofjpbaaGreatDoor

namespace Go.Proofs.YtjpfdhhiofjpbaaGreatDoor
open Go.RowKit Go.Sort
theorem Elem.cells_len {α : Type} {E : Elem α} (g : E.Good) : ∀ l : List α, (E.cells l).length = l.length * E.size
  | [] => by simp [Elem.cells]
  | x :: l => by
    have ih := Elem.cells_len g l
    unfold Elem.cells at ih ⊢
    rw [List.flatMap_cons, List.length_append, g.len, ih, List.length_cons, Nat.succ_mul, Nat.add_comm]
theorem Elem.cells_get {α : Type} {E : Elem α} (g : E.Good) : ∀ {l : List α} {j : Nat} {x : α} (i : Nat), l[j]? = some x → i < E.size → (E.cells l)[j * E.size + i]? = (E.enc x)[i]?
  | [], j, x, i, h, _ => by simp at h
  | y :: l, 0, x, i, h, hi => by
    obtain rfl : y = x := by simpa using h
    unfold Elem.cells
    rw [List.flatMap_cons, Nat.zero_mul, Nat.zero_add, List.getElem?_append_left (by rw [g.len]; exact hi)]
  | y :: l, j + 1, x, i, h, hi => by
    have ih := Elem.cells_get g (l := l) (j := j) (x := x) i (by simpa using h) hi
    unfold Elem.cells at ih ⊢
    rw [List.flatMap_cons, List.getElem?_append_right (by rw [g.len, Nat.succ_mul]; omega), g.len, Nat.succ_mul, show j * E.size + E.size + i - E.size = j * E.size + i by omega]
    exact ih
section
variable {α : Type} {E : Elem α} {w w' : World} {base : Nat} {v : Value} {l : List α}
theorem OwnE.nil (E : Elem α) (w : World) (base : Nat) : OwnE E w base (.slice none 0 0) [] := World.ownsRow_nil _ _ _ _
/-- a slice that reads as a list -/
def SliceE (E : Elem α) (w : World) (v : Value) (l : List α) : Prop := ∃ A c, v = .slice A l.length c ∧ RowAt w A (E.cells l)
theorem OwnE.read (h : OwnE E w base v l) : SliceE E w v l := by
  rcases Nat.eq_zero_or_pos l.length with h0 | h0
  · obtain rfl := List.eq_nil_of_length_eq_zero h0
    rcases h.2 with ⟨rfl, _⟩ | ⟨g, cap, cur, rfl, _⟩
    · exact ⟨_, _, rfl, .inl rfl⟩
    · exact ⟨_, _, rfl, .inl rfl⟩
  · obtain ⟨A, c, e, hr⟩ := AtHand.row (N := base) (.inr ⟨h0, h⟩)
    exact ⟨A, c, e, hr⟩
theorem RowAt.elem (g : E.Good) {A : Option Addr} (h : RowAt w A (E.cells l)) {j : Nat} {x : α} (hj : l[j]? = some x) : ∃ b o, A = some ⟨b, o, none⟩ ∧ b < w.heap.size ∧ ∀ i u, (E.enc x)[i]? = some u → w.cell? ⟨b, o + (j * E.size + i), none⟩ = some u := by
  have hget := fun i (hi : i < E.size) => Elem.cells_get g (l := l) (j := j) (x := x) i hj hi
  rcases h with h | ⟨b, o, rfl, hlt, hc⟩
  · have h1 := hget 0 g.pos
    rw [h] at h1
    have : (E.enc x).length = E.size := g.len x
    have h2 : (E.enc x)[0]? = some ((E.enc x)[0]'(by rw [this]; exact g.pos)) := List.getElem?_eq_getElem _
    rw [h2] at h1
    simp at h1
  · refine ⟨b, o, rfl, hlt, fun i u hu => hc _ u ?_⟩
    have hi : i < (E.enc x).length := by
      rcases Nat.lt_or_ge i (E.enc x).length with h | h
      · exact h
      · rw [List.getElem?_eq_none h] at hu; cases hu
    rw [hget i (by rw [← g.len x]; exact hi)]
    exact hu
/-- 'append(out, x)' -/
theorem wpList_snocE (g : E.Good) (w : World) {ops : Array Oper} {rest : List Oper} {o : Oper} {a : Act} {Q : Exit → Act → World → Prop} (hg : o.guard = none) (s x : Operand) (hop : o.op = Op.call { callee := Callee.builtin Builtin.append, args := #[s, x], argTypes := #[E.sl, E.sl] })
    (base : Nat) (v : Value) (l : List α) (y : α) (hs : a.eval s = v) (hown : OwnE E w base v l) (b : Nat) (hx : a.eval x = .slice (some ⟨b, 0, none⟩) 1 1) (hc : ∀ i u, (E.enc y)[i]? = some u → w.cell? ⟨b, i, none⟩ = some u) (hlen : l.length ≤ 100000) (hbase : base ≤ w.heap.size)
    (h : ∀ v' w', OwnE E w' base v' (l ++ [y]) → (∀ b0 W, b0 ≤ base → Below b0 W w → Below b0 W w') → w.grownBy w' v.ownBlock → v' ≠ .slice none 0 0 → wpList Tryz.prog ops Q rest (a.put o.dst v') w') : wpList Tryz.prog ops Q (o :: rest) a w := by
  obtain ⟨i0, hi, iz0, iz1, iz2⟩ := info_parts g.info
  refine wpList_append_own w hg s x E.sl hop base E.ty i0 E.z E.size E.bytes g.und hi iz0 iz1 iz2 g.zs g.pos v l.length (E.cells l) hs hown ⟨b, 0, none⟩ 1 1 (E.enc y) hx (by rw [g.len, Nat.one_mul]) (fun j u hj => ?_) (fun u hu => g.one y u hu) (by unfold maxLen; omega) (by have := g.by_; exact Nat.le_trans (Nat.mul_le_mul (show l.length + 1 ≤ 100001 by omega) this) (by decide)) hbase fun v' w' h1 h2 h3 => ?_
  · have := hc j u hj
    rwa [show (⟨b, 0, none⟩ : Addr).add j = ⟨b, j, none⟩ from by unfold Addr.add; split <;> simp_all]
  · refine h v' w' ?_ (fun b0 W hb hB => hB.grown h2 (Nat.le_trans hb hbase) fun k hk => Nat.le_trans hb (hown.lt k hk).1) h2 fun e => ?_
    · show w'.ownsRow base E.ty E.size v' (l ++ [y]).length (E.cells (l ++ [y]))
      rw [List.length_append, show E.cells (l ++ [y]) = E.cells l ++ E.enc y from by simp [Elem.cells]]
      exact h1
    · have := h3.1 e
      omega
end
/-! ### Tests, pairs of worlds -/
def tstE : Elem Tp := { enc := fun x => [.int .i64 x.1, .int .i64 x.2], size := 2, ty := 79, sl := 71, z := .agg #[.int .i64 0, .int .i64 0], bytes := 16 }
theorem tstG : tstE.Good :=
  ⟨by kernel_rfl, Tryz.underlying71, by decide, by decide, fun _ => rfl, fun x u hu => by
    rcases (by simpa [tstE] using hu : u = .int .i64 x.1 ∨ u = .int .i64 x.2) with rfl | rfl <;> rfl, by decide⟩
theorem SliceE.tst {w : World} {A : Option Addr} {l : List Tp} (h : RowAt w A (tstE.cells l)) {j : Nat} {x : Tp} (hj : l[j]? = some x) : ∃ b o, A = some ⟨b, o, none⟩ ∧ b < w.heap.size ∧ w.cell? ⟨b, o + j * 2, none⟩ = some (.int .i64 x.1) ∧ w.cell? ⟨b, o + j * 2 + 1, none⟩ = some (.int .i64 x.2) := by
  obtain ⟨b, o, h1, h2, h3⟩ := RowAt.elem tstG h hj
  exact ⟨b, o, h1, h2, h3 0 _ rfl, h3 1 _ rfl⟩
end Go.Proofs.YtjpfdhhiofjpbaaGreatDoor

namespace Go.Proofs.YtjpfdhhiofjpbaaGreatDoor
open Go.RowKit Go.Sort
/-- tests of a town -/
def Qt.TestsOk (t : Qt) (l : List Tp) : Prop := ∀ x, x ∈ l → (x.1 : Int) < t.wells ∧ (x.2 : Int) < t.wells
def tget (l : List Tp) (i : Nat) : Tp := l[i]?.getD (0, 0)
theorem tget_mem {l : List Tp} {i : Nat} (h : i < l.length) : tget l i ∈ l := by
  unfold tget
  rw [List.getElem?_eq_getElem h]
  exact List.getElem_mem h
theorem tget_some {l : List Tp} {i : Nat} (h : i < l.length) : l[i]? = some (tget l i) := by
  unfold tget
  rw [List.getElem?_eq_getElem h]
  rfl
theorem any_tget (l : List Tp) (p : Tp → Bool) : anyB (fun i => p (tget l i)) l.length = l.any p := by
  refine Bool.eq_iff_iff.2 ?_
  rw [anyB_true, List.any_eq_true]
  constructor
  · rintro ⟨i, hi, h⟩
    exact ⟨_, tget_mem hi, h⟩
  · rintro ⟨x, hx, h⟩
    obtain ⟨i, hi, rfl⟩ := List.getElem_of_mem hx
    exact ⟨i, hi, by unfold tget; rw [List.getElem?_eq_getElem hi]; exact h⟩
end Go.Proofs.YtjpfdhhiofjpbaaGreatDoor

namespace Go.Proofs.YtjpfdhhiofjpbaaGreatDoor
open Go.RowKit Go.Sort
/-- 'append(l[:len(l):len(l)], x)': always new memory -/
theorem stir_full {α : Type} {E : Elem α} (g : E.Good) {o : Oper} {a : Act} (w : World) (s x : Operand) (hop : o.op = Op.call { callee := Callee.builtin Builtin.append, args := #[s, x], argTypes := #[E.sl, E.sl] })
    (A : Option Addr) (l : List α) (y : α) (hs : a.eval s = .slice A l.length l.length) (hA : A = none → l = []) (hr : RowAt w A (E.cells l)) (b : Nat) (hx : a.eval x = .slice (some ⟨b, 0, none⟩) 1 1) (hc : ∀ i u, (E.enc y)[i]? = some u → w.cell? ⟨b, i, none⟩ = some u) (hlen : l.length ≤ 100000) (N : Nat) (hN : N ≤ w.heap.size) :
    Oper.stirAt Tryz.prog o a w Newer (fun w' v => ShapeOf (l.length + 1) v ∧ OwnE E w' N v (l ++ [y])) := by
  obtain ⟨i0, hi, iz0, iz1, iz2⟩ := info_parts g.info
  have hby : (l.length + 1) * E.bytes ≤ 140737488355328 := by have := g.by_; exact Nat.le_trans (Nat.mul_le_mul (show l.length + 1 ≤ 100001 by omega) this) (by decide)
  have h63 : l.length + 1 ≤ maxLen := by unfold maxLen; omega
  have hnews : ∀ j u, (E.enc y)[j]? = some u → w.cell? ((⟨b, 0, none⟩ : Addr).add j) = some u := fun j u h => by
    rw [show (⟨b, 0, none⟩ : Addr).add j = ⟨b, j, none⟩ from by unfold Addr.add; split <;> simp_all]; exact hc j u h
  have hl1 : (E.enc y).length = 1 * E.size := by rw [g.len, Nat.one_mul]
  have fin : ∀ v' w', (Builtin.append_ #[E.sl, E.sl] o.type #[.slice A l.length l.length, .slice (some ⟨b, 0, none⟩) 1 1]).run Tryz.prog w = .ok v' w' → Below w.heap.size w w' → w'.ownsRow N E.ty E.size v' (l.length + 1) (E.cells l ++ E.enc y) → Oper.stirAt Tryz.prog o a w Newer (fun w' v => ShapeOf (l.length + 1) v ∧ OwnE E w' N v (l ++ [y])) := fun v' w' hrun hb hown => by
    unfold Oper.stirAt
    simp only [execOp, hop, resolve, invoke, builtin, List.map_toArray, List.map_cons, List.map_nil, hs, hx, hrun, Result.andThen, Sem.run_bind, Sem.run_pure, Oper.stirUpon]
    obtain ⟨g', cap, hg⟩ := owns_form hown (by omega)
    refine ⟨hb, ⟨g', cap, hg⟩, ?_⟩
    show w'.ownsRow N E.ty E.size v' (l ++ [y]).length (E.cells (l ++ [y]))
    rw [List.length_append, show E.cells (l ++ [y]) = E.cells l ++ E.enc y from by simp [Elem.cells]]
    exact hown
  cases A with
  | none =>
    obtain rfl := hA rfl
    obtain ⟨v', w', hr', h2, h3, _⟩ := run_append_own (P := Tryz.prog) w N E.sl o.type E.ty i0 E.z E.size E.bytes g.und hi iz0 iz1 iz2 g.zs g.pos (.slice none 0 0) 0 [] (World.ownsRow_nil _ _ _ _) ⟨b, 0, none⟩ 1 1 (E.enc y) hl1 hnews (g.one y) (by simpa using h63) (by simpa using hby) hN
    exact fin v' w' hr' (below_grown h3) (by simpa [Elem.cells] using h2)
  | some ad =>
    have holds : ∀ j u, (E.cells l)[j]? = some u → w.cell? (ad.add j) = some u := fun j u h => by
      rcases hr with hr | ⟨b', o', e, hlt, hc'⟩
      · rw [hr] at h; simp at h
      · obtain rfl : ad = ⟨b', o', none⟩ := Option.some.inj e
        rw [show (⟨b', o', none⟩ : Addr).add j = ⟨b', o' + j, none⟩ from by unfold Addr.add; split <;> simp_all]
        exact hc' j u h
    obtain ⟨v', w', hrun, hown, hg⟩ := run_append_arg_grows (P := Tryz.prog) w E.sl o.type E.ty i0 E.z E.size E.bytes g.und hi iz0 iz1 iz2 g.zs g.pos ad l.length l.length (E.cells l) (Elem.cells_len g l) holds ⟨b, 0, none⟩ 1 1 (E.enc y) hl1 hnews (by omega) h63 hby
    exact fin v' w' hrun (below_grown hg) (owns_lower hown hN)
/-- a slice of tests that one may read and go on with -/
def LstAt (w : World) (A : Option Addr) (c : Nat) (l : List Tp) : Prop :=
  (l = [] ∧ A = none ∧ c = 0) ∨ (l ≠ [] ∧ (∃ g, A = some ⟨g, 0, none⟩) ∧ RowAt w A (tstE.cells l) ∧ l.length ≤ c ∧ c ≤ 9223372036854775807)
theorem LstAt.mono {w w' : World} {A : Option Addr} {c : Nat} {l : List Tp} (h : LstAt w A c l) (hb : Below w.heap.size w w') : LstAt w' A c l :=
  h.imp id fun ⟨h1, h2, h3, h4⟩ => ⟨h1, h2, h3.mono hb, h4⟩
theorem LstAt.row {w : World} {A : Option Addr} {c : Nat} {l : List Tp} (h : LstAt w A c l) : RowAt w A (tstE.cells l) := by
  rcases h with ⟨rfl, _⟩ | ⟨_, _, h, _⟩
  · exact .inl rfl
  · exact h
theorem LstAt.cap {w : World} {A : Option Addr} {c : Nat} {l : List Tp} (h : LstAt w A c l) : l.length ≤ c ∧ c ≤ 9223372036854775807 := by
  rcases h with ⟨rfl, _, rfl⟩ | ⟨_, _, _, h⟩
  · exact ⟨Nat.le_refl _, by omega⟩
  · exact h
theorem LstAt.none {w : World} {A : Option Addr} {c : Nat} {l : List Tp} (h : LstAt w A c l) : A = none → l = [] := by
  rcases h with ⟨rfl, _⟩ | ⟨_, ⟨g, rfl⟩, _⟩
  · exact fun _ => rfl
  · intro h; cases h
theorem OwnE.lst {w : World} {base : Nat} {v : Value} {l : List Tp} (h : OwnE tstE w base v l) (h0 : l ≠ []) : ∃ g c, v = .slice (some ⟨g, 0, none⟩) l.length c ∧ LstAt w (some ⟨g, 0, none⟩) c l := by
  obtain ⟨A, c, e, hr⟩ := h.read
  have hp : 0 < l.length := List.length_pos_iff.2 h0
  rcases h.2 with ⟨rfl, h1⟩ | ⟨g, cap, cur, rfl, _, _, h3, h4, _⟩
  · omega
  · injection e with e1 _ e2
    subst e1 e2
    exact ⟨g, _, rfl, .inr ⟨h0, ⟨g, rfl⟩, hr, h3, by unfold maxLen at h4; omega⟩⟩
/-- the first list behind others -/
theorem find_step {Z : List Tp} {i : Nat} {x : Tp} {P : List Tp → Bool} {k : Nat} (h : Z[i]? = some x) : (listsL (Z.drop i) (k + 1)).find? P = match (listsL (Z.drop (i + 1)) k).find? (fun y => P (x :: y)) with
    | some y => some (x :: y)
    | none => (listsL (Z.drop (i + 1)) (k + 1)).find? P := by
  have e : Z.drop i = x :: Z.drop (i + 1) := by
    obtain ⟨hi, rfl⟩ := List.getElem?_eq_some_iff.1 h
    exact List.drop_eq_getElem_cons hi
  rw [e]
  show ((listsL (Z.drop (i + 1)) k).map (x :: ·) ++ listsL (Z.drop (i + 1)) (k + 1)).find? P = _
  rw [List.find?_append, List.find?_map]
  show (((listsL (Z.drop (i + 1)) k).find? (fun y => P (x :: y))).map (x :: ·)).or _ = _
  cases (listsL (Z.drop (i + 1)) k).find? (fun y => P (x :: y)) <;> rfl
theorem find_end {Z : List Tp} {P : List Tp → Bool} {k i : Nat} (h : Z.length ≤ i) : (listsL (Z.drop i) (k + 1)).find? P = none := by
  rw [List.drop_eq_nil_of_le h]
  rfl
end Go.Proofs.YtjpfdhhiofjpbaaGreatDoor

namespace Go.Proofs.YtjpfdhhiofjpbaaGreatDoor
open Go.RowKit Go.Sort
def oneS (v : Value) : Prop := ∃ b, v = .slice (some ⟨b, 0, none⟩) 1 1
def oneR (x : Tp) (w : World) (v : Value) : Prop := ∀ b, v = .slice (some ⟨b, 0, none⟩) 1 1 → b < w.heap.size ∧ ∀ i u, (tstE.enc x)[i]? = some u → w.cell? ⟨b, i, none⟩ = some u
theorem oneG (x : Tp) : (Stir.held oneS (oneR x)).good := ⟨⟨_, 0, rfl⟩, fun _ _ _ hb h b e => ⟨Nat.lt_of_lt_of_le (h b e).1 hb.size, fun i u hu => (hb.cell (p := ⟨b, i, none⟩) (h b e).1).trans ((h b e).2 i u hu)⟩⟩
theorem ownG (n N : Nat) (l : List Tp) : (Stir.held (ShapeOf n) (fun w v => OwnE tstE w N v l)).good := ⟨⟨_, 0, 0, rfl⟩, fun _ _ _ hb h => OwnE.mono h hb⟩
theorem oneR_new (x : Tp) (w : World) : oneR x (w.alloc (.cells #[.int .i64 x.1, .int .i64 x.2] 79)) (.slice (some ⟨w.heap.size, 0, none⟩) 1 1) := fun b e => by
  obtain rfl : w.heap.size = b := by simpa using e
  refine ⟨by simp, fun i u hu => ?_⟩
  match i, hu with
  | 0, hu =>
    obtain rfl : Value.int .i64 x.1 = u := by simpa [tstE] using hu
    simp [go_sem]
  | 1, hu =>
    obtain rfl : Value.int .i64 x.2 = u := by simpa [tstE] using hu
    simp [go_sem]
end Go.Proofs.YtjpfdhhiofjpbaaGreatDoor

namespace Go.Proofs.YtjpfdhhiofjpbaaGreatDoor
open Go.RowKit Go.Sort
theorem firstUpTo_keep {Z : List Tp} {p : List Tp → Bool} {x : List Tp} {k : Nat} (h : firstUpTo Z p 0 k = some x) : ∀ m, firstUpTo Z p 0 (k + m) = some x
  | 0 => h
  | m + 1 => by rw [← Nat.add_assoc, firstUpTo_snoc, firstUpTo_keep h m]
theorem first_found {Z : List Tp} {p : List Tp → Bool} {x : List Tp} {k : Nat} (h0 : firstUpTo Z p 0 k = none) (h1 : (listsL Z k).find? p = some x) (hk : k ≤ Z.length) : fewestL Z p = x := by
  have h2 : firstUpTo Z p 0 (k + 1) = some x := by
    rw [firstUpTo_snoc, h0, Nat.zero_add]
    exact h1
  unfold fewestL
  rcases Nat.eq_or_lt_of_le hk with e | e
  · subst e
    rw [h0]
    rw [listsL_all, List.find?_cons] at h1
    split at h1
    · exact Option.some.inj h1
    · simp at h1
  · obtain ⟨m, hm⟩ : ∃ m, Z.length = k + 1 + m := ⟨Z.length - k - 1, by omega⟩
    rw [hm, firstUpTo_keep h2 m]
    rfl
end Go.Proofs.YtjpfdhhiofjpbaaGreatDoor

namespace Go.Proofs.YtjpfdhhiofjpbaaGreatDoor
open Go.RowKit Go.Sort Go.Shelf
attribute [local go_sem] Oper.semAt_some
/-- the tests ahead of one -/
def testsTo (m p q : Nat) : List Tp := ((List.range p).flatMap fun p => (List.range m).map fun q => (p, q)) ++ (List.range q).map fun q => (p, q)
theorem testsTo_snoc (m p q : Nat) : testsTo m p (q + 1) = testsTo m p q ++ [(p, q)] := by
  unfold testsTo
  rw [List.range_succ, List.map_append, List.append_assoc]
  rfl
theorem testsTo_row (m p : Nat) : testsTo m p m = testsTo m (p + 1) 0 := by
  unfold testsTo
  rw [List.range_succ, List.flatMap_append]
  simp
theorem testsTo_all (m : Nat) : testsTo m m 0 = testsL m := by
  unfold testsTo testsL
  simp
theorem testsTo_len (m p q : Nat) : (testsTo m p q).length = p * m + q := by
  unfold testsTo
  rw [List.length_append, flat_len (m := m) (fun p => by simp)]
  simp
end Go.Proofs.YtjpfdhhiofjpbaaGreatDoor

namespace Go.Proofs.YtjpfdhhiofjpbaaGreatDoor
open Go.RowKit Go.Sort Go.Shelf
def ShapeL (n : Nat) (v : Value) : Prop := ∃ A c, v = .slice A n c
end Go.Proofs.YtjpfdhhiofjpbaaGreatDoor

namespace Go.Proofs.YtjpfdhhiofjpbaaGreatDoor
open Go.RowKit Go.Sort Go.Shelf
theorem sameT_nat (p q i j : Nat) : sameT p q i j = decide ((p, q) = (i, j)) := by
  unfold sameT
  rw [decide_eq_decide]
  simp
  omega
attribute [go_sem ↓] eqlT neqT
end Go.Proofs.YtjpfdhhiofjpbaaGreatDoor

namespace Go.Proofs.YtjpfdhhiofjpbaaGreatDoor
open Go.RowKit Go.Sort
set_option maxHeartbeats 2000000 in
set_option maxRecDepth 100000 in
theorem sameTests_any (A B : Option Addr) (c c' : Nat) (l l' : List Tp) (w : World) (h1 : l.length ≤ 100000) (h2 : l'.length ≤ 100000) (hA : RowAt w A (tstE.cells l)) (hB : RowAt w B (tstE.cells l')) :
    Calls Tryz.prog 61 #[.slice A l.length c, .slice B l'.length c'] w fun e w' => e = .returned (.bool (decide (l = l'))) ∧ Below w.heap.size w w' := by
  have HA := Lib.hid hA
  have HB := Lib.hid hB
  clear hA hB
  obtain ⟨n, hn⟩ : ∃ n, l.length = n := ⟨_, rfl⟩
  obtain ⟨m, hm⟩ : ∃ m, l'.length = m := ⟨_, rfl⟩
  rw [hn] at h1 ⊢
  rw [hm] at h2 ⊢
  have HN := Lib.hid hn
  have HM := Lib.hid hm
  clear hn hm
  by_cases he : n = m
  · subst he
    go_enter Tryz.func61, Tryz.ntmps61
    go_wp2_with fail
    go_loopw [5] (fun i wr => ∃ k : Nat, k ≤ n ∧ i = .int .i64 k ∧ (∀ k' : Nat, k' < k → l[k']? = l'[k']?) ∧ Below w.heap.size w wr) (fun i _ => n - (intOf i).toNat)
    case atStart => exact ⟨0, Nat.zero_le _, rfl, fun k' hk' => absurd hk' (Nat.not_lt_zero _), Below.refl _ _⟩
    case round =>
      obtain ⟨k, hk, rfl, hall, hbel⟩ := hrel
      have HL := Lib.hid hbel
      have HALL := Lib.hid hall
      clear hall hbel
      by_cases hlt : k < n
      · obtain ⟨x, hx⟩ : ∃ x, l[k]? = some x := ⟨_, List.getElem?_eq_getElem (by rw [HN.out]; exact hlt)⟩
        obtain ⟨y, hy⟩ : ∃ y, l'[k]? = some y := ⟨_, List.getElem?_eq_getElem (by rw [HM.out]; exact hlt)⟩
        obtain ⟨b, o, rfl, hb, c0, c1⟩ := SliceE.tst (HA.out.mono HL.out) hx
        obtain ⟨b2, o2, rfl, hb2, d0, d1⟩ := SliceE.tst (HB.out.mono HL.out) hy
        obtain ⟨p, q⟩ := x
        obtain ⟨p2, q2⟩ := y
        have k1 : (k : Int) < (n : Int) := by omega
        have k0 : (0 : Int) ≤ (k : Int) := by omega
        obtain ⟨bs, hbs⟩ : ∃ bs, sameT p q p2 q2 = bs := ⟨_, rfl⟩
        have HBS := Lib.hid (show decide (((p, q) : Tp) = (p2, q2)) = bs by rw [← sameT_nat, hbs])
        have HX := Lib.hid hx
        have HY := Lib.hid hy
        clear hx hy
        cases bs
        · have HNE := Lib.hid (show decide (l = l') = false by
            refine decide_eq_false fun e => ?_
            subst e
            have := HX.out.symm.trans HY.out
            injection this with this
            exact absurd this (of_decide_eq_false HBS.out))
          go_wp2_with fail
          refine wp_region_quiet_below (by kernel_rfl) (by kernel_rfl) ?_
          repeat (go_big_quiet_step ((fail)))
          refine wpQuiet_nil ?_
          intro w3 hw3
          have HB3 := Lib.hid (bTrans HL.out (below_of_regrown hw3))
          clear hw3
          go_wp2_with fail
          go_ret
          exact ⟨ret_bool (by rw [HNE.out]), HB3.out⟩
        · have HAX := Lib.hid (show ∀ k' : Nat, k' < k + 1 → l[k']? = l'[k']? from fun k' hk' => by
            rcases Nat.lt_or_ge k' k with h | h
            · exact HALL.out k' h
            · obtain rfl : k' = k := by omega
              rw [HX.out, HY.out, of_decide_eq_true HBS.out])
          go_wp2_with fail
          refine wp_region_quiet_below (by kernel_rfl) (by kernel_rfl) ?_
          repeat (go_big_quiet_step ((fail)))
          refine wpQuiet_nil ?_
          intro w3 hw3
          have HB3 := Lib.hid (bTrans HL.out (below_of_regrown hw3))
          clear hw3
          go_wp2_with fail
          go_roundw
          case rel =>
            first
            | exact ⟨k + 1, by omega, by go_num, HAX.out, HB3.out⟩
            | ((repeat apply Exists.intro)
               refine ⟨⟨k + 1, by omega, ?_, HAX.out, HB3.out⟩, rfl⟩
               go_num)
          case measure => simp [intOf]; omega
      · obtain rfl : k = n := by omega
        have HEQ := Lib.hid (show decide (l = l') = true by
          refine decide_eq_true (List.ext_getElem? fun i => ?_)
          rcases Nat.lt_or_ge i k with h | h
          · exact HALL.out i h
          · rw [List.getElem?_eq_none (by rw [HN.out]; exact h), List.getElem?_eq_none (by rw [HM.out]; exact h)])
        go_wp2_with fail
        go_ret
        exact ⟨ret_bool (by rw [HEQ.out]), HL.out⟩
  · have g0 : ((n : Int) == (m : Int)) = false := by simp; omega
    have g1 : ((n : Int) != (m : Int)) = true := by simp; omega
    have HNE := Lib.hid (show decide (l = l') = false from decide_eq_false fun e => he (by rw [← HN.out, ← HM.out, e]))
    clear he
    go_enter Tryz.func61, Tryz.ntmps61
    go_wp2_with fail
    go_ret
    exact ⟨ret_bool (by rw [HNE.out]), Below.refl _ _⟩
end Go.Proofs.YtjpfdhhiofjpbaaGreatDoor

namespace Go.Proofs.YtjpfdhhiofjpbaaGreatDoor
open Go.RowKit Go.Sort Go.ChangeShapes Go.WideShapes Go.ChangeAt Go.Deep
section
variable {H : Type} {enc : TypeId × Value → H} {P : Program}
end
section
variable {H : Type} {enc : TypeId × Value → H} {P : Program} {w : World} {base : Nat} {sp : Nat → Bool} {held : Bool}
/-! ### What fits into memory -/
end
theorem int_wf {n : Int} (h : (Lit.int .i64 n).wf = true) : -9223372036854775808 ≤ n ∧ n ≤ 9223372036854775807 := by
  simp only [Lit.wf, Bool.and_eq_true, decide_eq_true_eq] at h
  exact h
section
variable {H : Type} {enc : TypeId × Value → H} {P : Program} {w : World} {base b0 : Nat} {r : Reach} {sp : Nat → Bool} {held : Bool}
end

/-! ### The table of math/bits that is listed -/
end Go.Proofs.YtjpfdhhiofjpbaaGreatDoor

namespace Go.Proofs.YtjpfdhhiofjpbaaGreatDoor
open Go.RowKit Go.Sort
theorem CopyAt9.mono {w w' : World} {base : Nat} {vW vF vO vP vS : Value} {t : Pt} (h : CopyAt9 w base vW vF vO vP vS t) (hb : Below w.heap.size w w') : CopyAt9 w' base vW vF vO vP vS t := by
  obtain ⟨h1, h2, h3, us, h4, h5⟩ := h
  exact ⟨h1.mono hb, owns_below h2 hb, owns_below h3 hb, us, owns_below h4 hb, h5.mono hb⟩
end Go.Proofs.YtjpfdhhiofjpbaaGreatDoor

namespace Go.Proofs.YtjpfdhhiofjpbaaGreatDoor
open Go.RowKit Go.Sort
attribute [local go_sem ↓] neqRock9
theorem sameInts_t (A B : Option Addr) (n c c' : Nat) (f : Nat → Int) (w : World) (hn : n ≤ 9223372036854775807) (hf : IntsAt w A n f) (hg : IntsAt w B n f) :
    Calls Tryz.prog 32 #[.slice A n c, .slice B n c'] w fun e w' => e = .returned (.bool true) ∧ Below w.heap.size w w' := by
  have := sameInts_any A B n n c c' f f w hn hn hf hg
  rw [show (decide (n = n) && !anyB (fun i => f i != f i) n) = true by rw [anyB_false.2 fun i _ => by simp]; simp] at this
  exact this
end Go.Proofs.YtjpfdhhiofjpbaaGreatDoor

namespace Go.Proofs.YtjpfdhhiofjpbaaGreatDoor
open Go.RowKit Go.Sort
section
variable {w : World} {b : Nat} {t : TypeId}
end
theorem wpList_skip {P : Program} {ops : Array Oper} {Q : Exit → Act → World → Prop} {rest : List Oper} {o : Oper} {a : Act} {w w'' : World} (hg : o.guard = none) (hd : o.dst = none) (hrun : (execOp a.eval o).run P w = .ok .skip w'') (h : wpList P ops Q rest a w'') : wpList P ops Q (o :: rest) a w := by
  simp only [wpList]
  have hw : Region.wanted o (yielded ops a.tmps) = true := by unfold Region.wanted; rw [hg]
  rw [if_pos hw]
  refine .inl ?_
  unfold Oper.wp
  rw [hrun]
  simp only [Oper.upon]
  rw [hd]
  exact h
end Go.Proofs.YtjpfdhhiofjpbaaGreatDoor

namespace Go.Proofs.YtjpfdhhiofjpbaaGreatDoor
open Go.RowKit Go.Sort
noncomputable def Pt.cheapest (t : Pt) : Option Nat := minBy t.whole t.canB t.ns
/-! ### errors -/
/-! ### what each function returns -/
noncomputable def Pt.cheapestOut (t : Pt) : Int × Int := if t.knowErr true = 0 then optOut t.cheapest else (0, t.knowErr true)
noncomputable def Pt.wholeOut (t : Pt) (s : Int) : Int × Int := if t.knowErr (t.hasB s) = 0 then (if t.canB s.toNat then (t.whole s.toNat, 0) else (0, 3)) else (0, t.knowErr (t.hasB s))
end Go.Proofs.YtjpfdhhiofjpbaaGreatDoor

namespace Go.Proofs.YtjpfdhhiofjpbaaGreatDoor
open Go.RowKit Go.Sort
/-! ### Tests in order -/
/-! ### The fewest tests -/
/-! ### The next test -/
/-! ### The tests that decide -/
theorem fewestL_sub (l : List Tp) (p : List Tp → Bool) : List.Sublist (fewestL l p) l := by
  unfold fewestL
  cases hf : firstUpTo l p 0 l.length with
  | some x => exact ((firstUpTo_spec l p l.length 0).1 x hf).1
  | none => exact List.Sublist.refl _
end Go.Proofs.YtjpfdhhiofjpbaaGreatDoor

namespace Go.Proofs.YtjpfdhhiofjpbaaGreatDoor
open Go.RowKit Go.Sort
theorem owns_kept {l : List TypeId} {w w' : World} {base : Nat} {e : TypeId} {size n : Nat} {v : Value} {xs : List Value} (h : w.ownsRow base e size v n xs) (hk : Kept l w w') (he : e ∈ l) : w'.ownsRow base e size v n xs :=
  ⟨h.1, h.2.imp id fun ⟨g, cap, cur, h1, h2, h3, h4⟩ => ⟨g, cap, cur, h1, h2, (hk.2 g _ _ _ h3 he).trans h3, h4⟩⟩
end Go.Proofs.YtjpfdhhiofjpbaaGreatDoor

namespace Go.Proofs.YtjpfdhhiofjpbaaGreatDoor
open Go.RowKit Go.Sort
theorem CopyAt.kept {l : List TypeId} {w w' : World} {base : Nat} {vW vF : Value} {t : Qt} (h : CopyAt w base vW vF t) (hk : Kept l w w') (h1 : 3 ∈ l) (h2 : 26 ∈ l) (h3 : 128 ∈ l) (h4 : 64 ∈ l) : CopyAt w' base vW vF t := by
  obtain ⟨⟨us, a, b⟩, c⟩ := h
  exact ⟨⟨us, owns_kept a hk h3, b.kept hk h1 h2⟩, owns_kept c hk h4⟩
end Go.Proofs.YtjpfdhhiofjpbaaGreatDoor

namespace Go.Proofs.YtjpfdhhiofjpbaaGreatDoor
open Go.RowKit Go.Sort Go.Shelf
attribute [local go_sem] Oper.semAt_some
theorem whole_seq (n C : Nat) (Aw Af Ao Ap As : Option Addr) (cw cf co cp cs : Nat) (t : Pt) (Al : Option Addr) (cl : Nat) (w0 w : World) (hn : 3 ≤ n) (hst : StreetAt w0 C Aw Af Ao Ap As cw cf co cp cs t Al cl) (hN : NoneAt w0) (hb0 : Below w0.heap.size w0 w) (ok : t.Ok) (hsm : t.Small) :
    SeqC Fence.wide n Tryz.prog 107 #[.pointer (some ⟨C, 0, none⟩)] #[] (encW t) (KpT w0.heap.size C) (· = t.cans) (· <+: t.cans) (fun pre x => pre ++ [x] <+: t.cans) w :=
  SeqC.weaken (fun A B h => ⟨fun hA => below_chain hA h.1, h.1.size, h.2⟩) (whole_seqG n C Aw Af Ao Ap As cw cf co cp cs t Al cl (Below w0.heap.size w0) w hn (fun W hW => ⟨hst.mono hW, hN.mono hW⟩) (fun W W' h h' => bTrans h h') hb0 ok hsm)
end Go.Proofs.YtjpfdhhiofjpbaaGreatDoor

namespace Go.Proofs.YtjpfdhhiofjpbaaGreatDoor
open Go.RowKit Go.Sort Go.Shelf
attribute [local go_sem] Oper.semAt_some
theorem cheapest_sel (t : Pt) : oI (bestL (fun x => t.whole x.toNat) t.cans) = optOut t.cheapest := by
  unfold Pt.cans Pt.cheapest
  rw [bestL_sel, oI_opt]
  rfl
set_option maxHeartbeats 4000000 in
set_option maxRecDepth 100000 in
theorem cheapestOutP_any (Aw Af Ao Ap As : Option Addr) (cw cf co cp cs : Nat) (t : Pt) (w : World) (hs : t.Small) (hT : PAt w Aw Af Ao Ap As t) (hB : TabAt w) (hN : NoneAt w) :
    Calls Tryz.prog 47 #[.agg #[.int .i64 t.q.wells, .slice Aw t.q.nw cw, .slice Af t.q.nf cf, .slice Ao t.no co, .slice Ap t.np cp, .slice As t.ns cs, .int .i64 t.far, .int .i64 t.harm, .int .i64 t.many]] w fun e w' => e = .returned (.tuple #[.int .i64 t.cheapestOut.1, .int .i64 t.cheapestOut.2]) ∧ Below w.heap.size w w' := by
  obtain ⟨er, her⟩ : ∃ v, t.knowErr true = v := ⟨_, rfl⟩
  have HE := Lib.hid (show t.cheapestOut = if er = 0 then optOut t.cheapest else (0, er) by unfold Pt.cheapestOut; rw [her])
  have HER := Lib.hid her
  clear her
  have HD0 := Lib.hid (Below.refl w.heap.size w)
  have HSM := Lib.hid hs
  have HT0 := Lib.hid hT
  have HTB0 := Lib.hid hB
  have HNA0 := Lib.hid hN
  clear hs hT hB hN
  go_enter Tryz.func47, Tryz.ntmps47
  go_wp2_with fail
  refine (openP_any Aw Af Ao Ap As cw cf co cp cs t true _ HSM.out (HT0.out.mono (bAlloc (Below.refl _ _) (.cells #[.int .i64 t.q.wells, .slice Aw t.q.nw cw, .slice Af t.q.nf cf, .slice Ao t.no co, .slice Ap t.np cp, .slice As t.ns cs, .int .i64 t.far, .int .i64 t.harm, .int .i64 t.many] 29))) (HTB0.out.mono (bAlloc (Below.refl _ _) (.cells #[.int .i64 t.q.wells, .slice Aw t.q.nw cw, .slice Af t.q.nf cf, .slice Ao t.no co, .slice Ap t.np cp, .slice As t.ns cs, .int .i64 t.far, .int .i64 t.harm, .int .i64 t.many] 29)))).mono ?_
  rintro e w1 ⟨ho, hb⟩
  rw [HER.out] at ho
  have hB1 : Below w.heap.size w w1 := bTrans (bAlloc (Below.refl _ _) (.cells #[.int .i64 t.q.wells, .slice Aw t.q.nw cw, .slice Af t.q.nf cf, .slice Ao t.no co, .slice Ap t.np cp, .slice As t.ns cs, .int .i64 t.far, .int .i64 t.harm, .int .i64 t.many] 29)) hb
  have HD1 := Lib.hid (bTrans HD0.out hB1)
  have HT1 := Lib.hid (HT0.out.mono hB1)
  have HTB1 := Lib.hid (HTB0.out.mono hB1)
  have HNA1 := Lib.hid (HNA0.out.mono hB1)
  have T1 := Lib.hid (show TBox w1 w.heap.size 29 #[.int .i64 t.q.wells, .slice Aw t.q.nw cw, .slice Af t.q.nf cf, .slice Ao t.no co, .slice Ap t.np cp, .slice As t.ns cs, .int .i64 t.far, .int .i64 t.harm, .int .i64 t.many] from by have := ((TBox.new w #[.int .i64 t.q.wells, .slice Aw t.q.nw cw, .slice Af t.q.nf cf, .slice Ao t.no co, .slice Ap t.np cp, .slice As t.ns cs, .int .i64 t.far, .int .i64 t.harm, .int .i64 t.many] 29).mono (Below.refl _ _)).mono hb; simpa using this)
  clear hb hB1 HD0 HT0 HTB0 HNA0
  obtain ⟨T_0, T_1, T_2, T_3, T_4, T_5, T_6, T_7, T_8, T_l⟩ := T1.out.c9
  by_cases he : er = 0
  case neg =>
    obtain rfl := ho.1 he
    clear ho
    have g0 : (er != 0) = true := by simp [he]
    have HR := Lib.hid (show t.cheapestOut = (0, er) by rw [HE.out, if_neg he])
    clear he
    go_wp2_with fail
    go_ret2
    exact ⟨by rw [HR.out]; rfl, HD1.out⟩
  subst he
  obtain ⟨ok, _, _⟩ := Pt.knowErr_zero HER.out
  have HOK := Lib.hid ok
  obtain ⟨C, Al, cl, rfl, hst, hC⟩ := ho.2 rfl
  have HST := Lib.hid hst
  have HR := Lib.hid (show oI (bestL (fun x => t.whole x.toNat) t.cans) = t.cheapestOut by rw [cheapest_sel, HE.out, if_pos rfl])
  clear ho ok hst hC
  go_wp2_with fail
  refine (cheapestP_any 107 w1.heap.size C #[.pointer (some ⟨C, 0, none⟩)] #[] (fun x => t.whole x.toNat) t.cans w1 (Nat.le_refl _) sel_pos (enters_of Tryz.func107 (by kernel_rfl)) (fun w' hb => whole_seq 6 C Aw Af Ao Ap As cw cf co cp cs t Al cl w1 w' (by decide) HST.out HNA1.out hb HOK.out HSM.out)).mono ?_
  rintro e w2 ⟨rfl, hb⟩
  rw [HR.out]
  have hB2 : Below w1.heap.size w1 w2 := bTrans (Below.refl _ _) hb
  have HD2 := Lib.hid (bTrans HD1.out hB2)
  have HT2 := Lib.hid (HT1.out.mono hB2)
  have HTB2 := Lib.hid (HTB1.out.mono hB2)
  have HNA2 := Lib.hid (HNA1.out.mono hB2)
  have T2 := Lib.hid (T1.out.mono hB2)
  clear hb hB2 HD1 HT1 HTB1 HNA1 T1 T_0 T_1 T_2 T_3 T_4 T_5 T_6 T_7 T_8 T_l
  obtain ⟨T_0, T_1, T_2, T_3, T_4, T_5, T_6, T_7, T_8, T_l⟩ := T2.out.c9
  go_wp2_with fail
  go_ret2
  exact ⟨rfl, HD2.out⟩
set_option maxHeartbeats 8000000 in
set_option maxRecDepth 100000 in
theorem wholeP_any (Aw Af Ao Ap As : Option Addr) (cw cf co cp cs : Nat) (t : Pt) (n : Int) (w : World) (hs : t.Small) (hT : PAt w Aw Af Ao Ap As t) (hB : TabAt w) (hN : NoneAt w) :
    Calls Tryz.prog 49 #[.agg #[.int .i64 t.q.wells, .slice Aw t.q.nw cw, .slice Af t.q.nf cf, .slice Ao t.no co, .slice Ap t.np cp, .slice As t.ns cs, .int .i64 t.far, .int .i64 t.harm, .int .i64 t.many], .int .i64 n] w fun e w' => e = .returned (.tuple #[.int .i64 (t.wholeOut n).1, .int .i64 (t.wholeOut n).2]) ∧ Below w.heap.size w w' := by
  obtain ⟨bb, hbb⟩ : ∃ b, t.hasB n = b := ⟨_, rfl⟩
  obtain ⟨er, her⟩ : ∃ v, t.knowErr bb = v := ⟨_, rfl⟩
  have HC1 := Lib.hid (fun w => hbb ▸ hasP_any Aw Af Ao Ap As cw cf co cp cs t n w hs.ns : ∀ w : World, Calls Tryz.prog 87 #[.agg #[.int .i64 t.q.wells, .slice Aw t.q.nw cw, .slice Af t.q.nf cf, .slice Ao t.no co, .slice Ap t.np cp, .slice As t.ns cs, .int .i64 t.far, .int .i64 t.harm, .int .i64 t.many], .int .i64 n] w fun e w' => e = .returned (.bool bb) ∧ Below w.heap.size w w')
  have HE := Lib.hid (show t.wholeOut n = if er = 0 then (if t.canB n.toNat then (t.whole n.toNat, 0) else (0, 3)) else (0, er) by unfold Pt.wholeOut; rw [hbb, her])
  have HER := Lib.hid her
  have HBB := Lib.hid hbb
  clear hbb her
  have HD0 := Lib.hid (Below.refl w.heap.size w)
  have HSM := Lib.hid hs
  have HT0 := Lib.hid hT
  have HTB0 := Lib.hid hB
  have HNA0 := Lib.hid hN
  clear hs hT hB hN
  refine (callsIn_wide (n := 7)).1 ?_
  refine callsIn_of_wp_marks Tryz.func49 rfl trivial ?_ rfl
  simp only [Tryz.ntmps49, List.size_toArray, List.length_cons, List.length_nil, Nat.reduceAdd, Nat.reduceSub, Array.replicate_succ, Array.replicate_zero, List.push_toArray, List.append_toArray, List.nil_append, List.cons_append]
  refine wpIn_wide.2 ?_
  by_cases he : er = 0
  case neg =>
    have g0 : (er != 0) = true := by simp [he]
    have HNZ := Lib.hid he
    have HR := Lib.hid (show t.wholeOut n = (0, er) by rw [HE.out, if_neg he])
    clear he
    go_wp2_with fail
    have HCO := Lib.hid (fun (w' : World) (hb : Below ((((w.alloc (.cells #[.int .i64 t.q.wells, .slice Aw t.q.nw cw, .slice Af t.q.nf cf, .slice Ao t.no co, .slice Ap t.np cp, .slice As t.ns cs, .int .i64 t.far, .int .i64 t.harm, .int .i64 t.many] 29)).alloc (.cells #[.int .i64 n] 3)).alloc (.cells #[.int .i64 0] 3)).alloc (.cells #[.int .i64 0] 33)).heap.size ((((w.alloc (.cells #[.int .i64 t.q.wells, .slice Aw t.q.nw cw, .slice Af t.q.nf cf, .slice Ao t.no co, .slice Ap t.np cp, .slice As t.ns cs, .int .i64 t.far, .int .i64 t.harm, .int .i64 t.many] 29)).alloc (.cells #[.int .i64 n] 3)).alloc (.cells #[.int .i64 0] 3)).alloc (.cells #[.int .i64 0] 33)) w') => ((openP_any Aw Af Ao Ap As cw cf co cp cs t bb w' HSM.out ((HT0.out.mono (bAlloc (bAlloc (bAlloc (bAlloc (Below.refl _ _) (.cells #[.int .i64 t.q.wells, .slice Aw t.q.nw cw, .slice Af t.q.nf cf, .slice Ao t.no co, .slice Ap t.np cp, .slice As t.ns cs, .int .i64 t.far, .int .i64 t.harm, .int .i64 t.many] 29)) (.cells #[.int .i64 n] 3)) (.cells #[.int .i64 0] 3)) (.cells #[.int .i64 0] 33))).mono hb) ((HTB0.out.mono (bAlloc (bAlloc (bAlloc (bAlloc (Below.refl _ _) (.cells #[.int .i64 t.q.wells, .slice Aw t.q.nw cw, .slice Af t.q.nf cf, .slice Ao t.no co, .slice Ap t.np cp, .slice As t.ns cs, .int .i64 t.far, .int .i64 t.harm, .int .i64 t.many] 29)) (.cells #[.int .i64 n] 3)) (.cells #[.int .i64 0] 3)) (.cells #[.int .i64 0] 33))).mono hb)).mono fun e w'' h => ⟨(HER.out ▸ h.1).lower hb.size, h.2⟩ : Calls Tryz.prog 94 #[.agg #[.int .i64 t.q.wells, .slice Aw t.q.nw cw, .slice Af t.q.nf cf, .slice Ao t.no co, .slice Ap t.np cp, .slice As t.ns cs, .int .i64 t.far, .int .i64 t.harm, .int .i64 t.many], .bool bb] w' fun e w'' => StrOut w'' ((((w.alloc (.cells #[.int .i64 t.q.wells, .slice Aw t.q.nw cw, .slice Af t.q.nf cf, .slice Ao t.no co, .slice Ap t.np cp, .slice As t.ns cs, .int .i64 t.far, .int .i64 t.harm, .int .i64 t.many] 29)).alloc (.cells #[.int .i64 n] 3)).alloc (.cells #[.int .i64 0] 3)).alloc (.cells #[.int .i64 0] 33)).heap.size Aw Af Ao Ap As cw cf co cp cs t er e ∧ Below w'.heap.size w' w''))
    refine wp_region_call 4 (fun v w2 => StrOut w2 ((((w.alloc (.cells #[.int .i64 t.q.wells, .slice Aw t.q.nw cw, .slice Af t.q.nf cf, .slice Ao t.no co, .slice Ap t.np cp, .slice As t.ns cs, .int .i64 t.far, .int .i64 t.harm, .int .i64 t.many] 29)).alloc (.cells #[.int .i64 n] 3)).alloc (.cells #[.int .i64 0] 3)).alloc (.cells #[.int .i64 0] 33)).heap.size Aw Af Ao Ap As cw cf co cp cs t er (.returned v) ∧ Below ((((w.alloc (.cells #[.int .i64 t.q.wells, .slice Aw t.q.nw cw, .slice Af t.q.nf cf, .slice Ao t.no co, .slice Ap t.np cp, .slice As t.ns cs, .int .i64 t.far, .int .i64 t.harm, .int .i64 t.many] 29)).alloc (.cells #[.int .i64 n] 3)).alloc (.cells #[.int .i64 0] 3)).alloc (.cells #[.int .i64 0] 33)).heap.size ((((w.alloc (.cells #[.int .i64 t.q.wells, .slice Aw t.q.nw cw, .slice Af t.q.nf cf, .slice Ao t.no co, .slice Ap t.np cp, .slice As t.ns cs, .int .i64 t.far, .int .i64 t.harm, .int .i64 t.many] 29)).alloc (.cells #[.int .i64 n] 3)).alloc (.cells #[.int .i64 0] 3)).alloc (.cells #[.int .i64 0] 33)) w2) (by kernel_rfl) (by decide +kernel) rfl ?_
    apply Exists.intro
    refine ⟨fun K hK => ?_, ?_, fun w1 hb1 K Q' hK => ?_, ?_⟩
    · skip
      repeat (first | (refine wpCalm_skip rfl ?_) | (refine wpCalm_step rfl (fun K hK => ?_); go_simp; (first | (refine hK _ ?_; clear hK K) | (apply Exists.intro; refine ⟨fun _ => ?_, hK _ ?_⟩; ((first | (go_at_call 87; with_reducible exact newer_of (HC1.out _)))); clear hK K))))
      refine wpCalm_nil ?_
      exact hK
    · rfl
    · go_simp
      refine (HCO.out w1 hb1).mono ?_
      rintro e w2 ⟨ho, hb2⟩
      obtain ⟨v, rfl⟩ := StrOut.ret ho
      exact hK v w2 ⟨ho, bTrans hb1 hb2⟩
    clear HCO
    rintro v w2 ⟨ho, hb2⟩
    obtain rfl := Ending.returned.inj (ho.1 HNZ.out)
    clear ho
    apply Exists.intro
    refine ⟨fun K hK => ?_, fun w1 hb3 => ?_⟩
    · skip
      repeat (first | (refine wpCalm_skip rfl ?_) | (refine wpCalm_step rfl (fun K hK => ?_); go_simp; (first | (refine hK _ ?_; clear hK K) | (apply Exists.intro; refine ⟨fun _ => ?_, hK _ ?_⟩; (fail); clear hK K))))
      refine wpCalm_nil ?_
      exact hK
    have hb := bTrans hb2 hb3
    clear hb2 hb3
    have hB1 : Below w.heap.size w w1 := bTrans (bAlloc (bAlloc (bAlloc (bAlloc (Below.refl _ _) (.cells #[.int .i64 t.q.wells, .slice Aw t.q.nw cw, .slice Af t.q.nf cf, .slice Ao t.no co, .slice Ap t.np cp, .slice As t.ns cs, .int .i64 t.far, .int .i64 t.harm, .int .i64 t.many] 29)) (.cells #[.int .i64 n] 3)) (.cells #[.int .i64 0] 3)) (.cells #[.int .i64 0] 33)) hb
    have HD1 := Lib.hid (bTrans HD0.out hB1)
    have HT1 := Lib.hid (HT0.out.mono hB1)
    have HTB1 := Lib.hid (HTB0.out.mono hB1)
    have HNA1 := Lib.hid (HNA0.out.mono hB1)
    have T1 := Lib.hid (show TBox w1 w.heap.size 29 #[.int .i64 t.q.wells, .slice Aw t.q.nw cw, .slice Af t.q.nf cf, .slice Ao t.no co, .slice Ap t.np cp, .slice As t.ns cs, .int .i64 t.far, .int .i64 t.harm, .int .i64 t.many] from by have := ((TBox.new w #[.int .i64 t.q.wells, .slice Aw t.q.nw cw, .slice Af t.q.nf cf, .slice Ao t.no co, .slice Ap t.np cp, .slice As t.ns cs, .int .i64 t.far, .int .i64 t.harm, .int .i64 t.many] 29).mono (bAlloc (bAlloc (bAlloc (Below.refl _ _) (.cells #[.int .i64 n] 3)) (.cells #[.int .i64 0] 3)) (.cells #[.int .i64 0] 33))).mono hb; simpa using this)
    have SP1 := Lib.hid (show TBox w1 (w.heap.size + 1) 3 #[.int .i64 n] from by have := ((TBox.new (w.alloc (.cells #[.int .i64 t.q.wells, .slice Aw t.q.nw cw, .slice Af t.q.nf cf, .slice Ao t.no co, .slice Ap t.np cp, .slice As t.ns cs, .int .i64 t.far, .int .i64 t.harm, .int .i64 t.many] 29)) #[.int .i64 n] 3).mono (bAlloc (bAlloc (Below.refl _ _) (.cells #[.int .i64 0] 3)) (.cells #[.int .i64 0] 33))).mono hb; simpa using this)
    have R1 := Lib.hid (show TBox w1 (w.heap.size + 1 + 1) 3 #[.int .i64 0] from by have := ((TBox.new ((w.alloc (.cells #[.int .i64 t.q.wells, .slice Aw t.q.nw cw, .slice Af t.q.nf cf, .slice Ao t.no co, .slice Ap t.np cp, .slice As t.ns cs, .int .i64 t.far, .int .i64 t.harm, .int .i64 t.many] 29)).alloc (.cells #[.int .i64 n] 3)) #[.int .i64 0] 3).mono (bAlloc (Below.refl _ _) (.cells #[.int .i64 0] 33))).mono hb; simpa using this)
    have E1 := Lib.hid (show TBox w1 (w.heap.size + 1 + 1 + 1) 33 #[.int .i64 0] from by have := ((TBox.new (((w.alloc (.cells #[.int .i64 t.q.wells, .slice Aw t.q.nw cw, .slice Af t.q.nf cf, .slice Ao t.no co, .slice Ap t.np cp, .slice As t.ns cs, .int .i64 t.far, .int .i64 t.harm, .int .i64 t.many] 29)).alloc (.cells #[.int .i64 n] 3)).alloc (.cells #[.int .i64 0] 3)) #[.int .i64 0] 33).mono (Below.refl _ _)).mono hb; simpa using this)
    clear hb hB1 HD0 HT0 HTB0 HNA0
    obtain ⟨T_0, T_1, T_2, T_3, T_4, T_5, T_6, T_7, T_8, T_l⟩ := T1.out.c9
    obtain ⟨SP_0, SP_l⟩ := SP1.out.c1
    obtain ⟨R_0, R_l⟩ := R1.out.c1
    obtain ⟨E_0, E_l⟩ := E1.out.c1
    have f4 := R1.out.frozen 0
    have f5 := E1.out.frozen 0
    go_wp2_with fail
    exact ⟨.tuple #[.int .i64 0, .int .i64 er], by simp [results, Tryz.results49, go_sem, *], by rw [HR.out], Below.setCell (p := ⟨w.heap.size + 1 + 1 + 1, 0, none⟩) (Below.setCell (p := ⟨w.heap.size + 1 + 1, 0, none⟩) HD1.out (by simp <;> omega) (.int .i64 0)) (by simp <;> omega) (.int .i64 er)⟩
  subst he
  obtain ⟨ok, rfl, _⟩ := Pt.knowErr_zero HER.out
  have HOK := Lib.hid ok
  have hn := hasB_iff.1 HBB.out
  obtain ⟨i, rfl⟩ : ∃ i : Nat, n = (i : Int) := ⟨n.toNat, by omega⟩
  have HI := Lib.hid (show i < t.ns by omega)
  have HR := Lib.hid (show t.wholeOut (i : Int) = if t.canB i then (t.whole i, 0) else (0, 3) by rw [HE.out, if_pos rfl, Int.toNat_natCast])
  clear ok hn
  go_wp2_with fail
  have HCO := Lib.hid (fun (w' : World) (hb : Below ((((w.alloc (.cells #[.int .i64 t.q.wells, .slice Aw t.q.nw cw, .slice Af t.q.nf cf, .slice Ao t.no co, .slice Ap t.np cp, .slice As t.ns cs, .int .i64 t.far, .int .i64 t.harm, .int .i64 t.many] 29)).alloc (.cells #[.int .i64 (i : Int)] 3)).alloc (.cells #[.int .i64 0] 3)).alloc (.cells #[.int .i64 0] 33)).heap.size ((((w.alloc (.cells #[.int .i64 t.q.wells, .slice Aw t.q.nw cw, .slice Af t.q.nf cf, .slice Ao t.no co, .slice Ap t.np cp, .slice As t.ns cs, .int .i64 t.far, .int .i64 t.harm, .int .i64 t.many] 29)).alloc (.cells #[.int .i64 (i : Int)] 3)).alloc (.cells #[.int .i64 0] 3)).alloc (.cells #[.int .i64 0] 33)) w') => ((openP_any Aw Af Ao Ap As cw cf co cp cs t true w' HSM.out ((HT0.out.mono (bAlloc (bAlloc (bAlloc (bAlloc (Below.refl _ _) (.cells #[.int .i64 t.q.wells, .slice Aw t.q.nw cw, .slice Af t.q.nf cf, .slice Ao t.no co, .slice Ap t.np cp, .slice As t.ns cs, .int .i64 t.far, .int .i64 t.harm, .int .i64 t.many] 29)) (.cells #[.int .i64 (i : Int)] 3)) (.cells #[.int .i64 0] 3)) (.cells #[.int .i64 0] 33))).mono hb) ((HTB0.out.mono (bAlloc (bAlloc (bAlloc (bAlloc (Below.refl _ _) (.cells #[.int .i64 t.q.wells, .slice Aw t.q.nw cw, .slice Af t.q.nf cf, .slice Ao t.no co, .slice Ap t.np cp, .slice As t.ns cs, .int .i64 t.far, .int .i64 t.harm, .int .i64 t.many] 29)) (.cells #[.int .i64 (i : Int)] 3)) (.cells #[.int .i64 0] 3)) (.cells #[.int .i64 0] 33))).mono hb)).mono fun e w'' h => ⟨(HER.out ▸ h.1).lower hb.size, h.2⟩ : Calls Tryz.prog 94 #[.agg #[.int .i64 t.q.wells, .slice Aw t.q.nw cw, .slice Af t.q.nf cf, .slice Ao t.no co, .slice Ap t.np cp, .slice As t.ns cs, .int .i64 t.far, .int .i64 t.harm, .int .i64 t.many], .bool true] w' fun e w'' => StrOut w'' ((((w.alloc (.cells #[.int .i64 t.q.wells, .slice Aw t.q.nw cw, .slice Af t.q.nf cf, .slice Ao t.no co, .slice Ap t.np cp, .slice As t.ns cs, .int .i64 t.far, .int .i64 t.harm, .int .i64 t.many] 29)).alloc (.cells #[.int .i64 (i : Int)] 3)).alloc (.cells #[.int .i64 0] 3)).alloc (.cells #[.int .i64 0] 33)).heap.size Aw Af Ao Ap As cw cf co cp cs t 0 e ∧ Below w'.heap.size w' w''))
  refine wp_region_call 4 (fun v w2 => StrOut w2 ((((w.alloc (.cells #[.int .i64 t.q.wells, .slice Aw t.q.nw cw, .slice Af t.q.nf cf, .slice Ao t.no co, .slice Ap t.np cp, .slice As t.ns cs, .int .i64 t.far, .int .i64 t.harm, .int .i64 t.many] 29)).alloc (.cells #[.int .i64 (i : Int)] 3)).alloc (.cells #[.int .i64 0] 3)).alloc (.cells #[.int .i64 0] 33)).heap.size Aw Af Ao Ap As cw cf co cp cs t 0 (.returned v) ∧ Below ((((w.alloc (.cells #[.int .i64 t.q.wells, .slice Aw t.q.nw cw, .slice Af t.q.nf cf, .slice Ao t.no co, .slice Ap t.np cp, .slice As t.ns cs, .int .i64 t.far, .int .i64 t.harm, .int .i64 t.many] 29)).alloc (.cells #[.int .i64 (i : Int)] 3)).alloc (.cells #[.int .i64 0] 3)).alloc (.cells #[.int .i64 0] 33)).heap.size ((((w.alloc (.cells #[.int .i64 t.q.wells, .slice Aw t.q.nw cw, .slice Af t.q.nf cf, .slice Ao t.no co, .slice Ap t.np cp, .slice As t.ns cs, .int .i64 t.far, .int .i64 t.harm, .int .i64 t.many] 29)).alloc (.cells #[.int .i64 (i : Int)] 3)).alloc (.cells #[.int .i64 0] 3)).alloc (.cells #[.int .i64 0] 33)) w2) (by kernel_rfl) (by decide +kernel) rfl ?_
  apply Exists.intro
  refine ⟨fun K hK => ?_, ?_, fun w1 hb1 K Q' hK => ?_, ?_⟩
  · skip
    repeat (first | (refine wpCalm_skip rfl ?_) | (refine wpCalm_step rfl (fun K hK => ?_); go_simp; (first | (refine hK _ ?_; clear hK K) | (apply Exists.intro; refine ⟨fun _ => ?_, hK _ ?_⟩; ((first | (go_at_call 87; with_reducible exact newer_of (HC1.out _)))); clear hK K))))
    refine wpCalm_nil ?_
    exact hK
  · rfl
  · go_simp
    refine (HCO.out w1 hb1).mono ?_
    rintro e w2 ⟨ho, hb2⟩
    obtain ⟨v, rfl⟩ := StrOut.ret ho
    exact hK v w2 ⟨ho, bTrans hb1 hb2⟩
  clear HCO
  rintro v w2 ⟨ho, hb2⟩
  obtain ⟨C, Al, cl, e1, hst, hC⟩ := ho.2 rfl
  obtain rfl := Ending.returned.inj e1
  clear ho e1
  apply Exists.intro
  refine ⟨fun K hK => ?_, fun w1 hb3 => ?_⟩
  · skip
    repeat (first | (refine wpCalm_skip rfl ?_) | (refine wpCalm_step rfl (fun K hK => ?_); go_simp; (first | (refine hK _ ?_; clear hK K) | (apply Exists.intro; refine ⟨fun _ => ?_, hK _ ?_⟩; (fail); clear hK K))))
    refine wpCalm_nil ?_
    exact hK
  have hst := hst.mono hb3
  have hb := bTrans hb2 hb3
  clear hb2 hb3
  have hB1 : Below w.heap.size w w1 := bTrans (bAlloc (bAlloc (bAlloc (bAlloc (Below.refl _ _) (.cells #[.int .i64 t.q.wells, .slice Aw t.q.nw cw, .slice Af t.q.nf cf, .slice Ao t.no co, .slice Ap t.np cp, .slice As t.ns cs, .int .i64 t.far, .int .i64 t.harm, .int .i64 t.many] 29)) (.cells #[.int .i64 (i : Int)] 3)) (.cells #[.int .i64 0] 3)) (.cells #[.int .i64 0] 33)) hb
  have HD1 := Lib.hid (bTrans HD0.out hB1)
  have HT1 := Lib.hid (HT0.out.mono hB1)
  have HTB1 := Lib.hid (HTB0.out.mono hB1)
  have HNA1 := Lib.hid (HNA0.out.mono hB1)
  have HST1 := Lib.hid (hst)
  have T1 := Lib.hid (show TBox w1 w.heap.size 29 #[.int .i64 t.q.wells, .slice Aw t.q.nw cw, .slice Af t.q.nf cf, .slice Ao t.no co, .slice Ap t.np cp, .slice As t.ns cs, .int .i64 t.far, .int .i64 t.harm, .int .i64 t.many] from by have := ((TBox.new w #[.int .i64 t.q.wells, .slice Aw t.q.nw cw, .slice Af t.q.nf cf, .slice Ao t.no co, .slice Ap t.np cp, .slice As t.ns cs, .int .i64 t.far, .int .i64 t.harm, .int .i64 t.many] 29).mono (bAlloc (bAlloc (bAlloc (Below.refl _ _) (.cells #[.int .i64 (i : Int)] 3)) (.cells #[.int .i64 0] 3)) (.cells #[.int .i64 0] 33))).mono hb; simpa using this)
  have SP1 := Lib.hid (show TBox w1 (w.heap.size + 1) 3 #[.int .i64 (i : Int)] from by have := ((TBox.new (w.alloc (.cells #[.int .i64 t.q.wells, .slice Aw t.q.nw cw, .slice Af t.q.nf cf, .slice Ao t.no co, .slice Ap t.np cp, .slice As t.ns cs, .int .i64 t.far, .int .i64 t.harm, .int .i64 t.many] 29)) #[.int .i64 (i : Int)] 3).mono (bAlloc (bAlloc (Below.refl _ _) (.cells #[.int .i64 0] 3)) (.cells #[.int .i64 0] 33))).mono hb; simpa using this)
  have R1 := Lib.hid (show TBox w1 (w.heap.size + 1 + 1) 3 #[.int .i64 0] from by have := ((TBox.new ((w.alloc (.cells #[.int .i64 t.q.wells, .slice Aw t.q.nw cw, .slice Af t.q.nf cf, .slice Ao t.no co, .slice Ap t.np cp, .slice As t.ns cs, .int .i64 t.far, .int .i64 t.harm, .int .i64 t.many] 29)).alloc (.cells #[.int .i64 (i : Int)] 3)) #[.int .i64 0] 3).mono (bAlloc (Below.refl _ _) (.cells #[.int .i64 0] 33))).mono hb; simpa using this)
  have E1 := Lib.hid (show TBox w1 (w.heap.size + 1 + 1 + 1) 33 #[.int .i64 0] from by have := ((TBox.new (((w.alloc (.cells #[.int .i64 t.q.wells, .slice Aw t.q.nw cw, .slice Af t.q.nf cf, .slice Ao t.no co, .slice Ap t.np cp, .slice As t.ns cs, .int .i64 t.far, .int .i64 t.harm, .int .i64 t.many] 29)).alloc (.cells #[.int .i64 (i : Int)] 3)).alloc (.cells #[.int .i64 0] 3)) #[.int .i64 0] 33).mono (Below.refl _ _)).mono hb; simpa using this)
  clear hb hB1 HD0 HT0 HTB0 HNA0
  obtain ⟨T_0, T_1, T_2, T_3, T_4, T_5, T_6, T_7, T_8, T_l⟩ := T1.out.c9
  obtain ⟨SP_0, SP_l⟩ := SP1.out.c1
  obtain ⟨R_0, R_l⟩ := R1.out.c1
  obtain ⟨E_0, E_l⟩ := E1.out.c1
  have HC := Lib.hid hC
  clear hst hC
  have hst := HST1.out
  have HSEQ := Lib.hid (whole_seq 6 C Aw Af Ao Ap As cw cf co cp cs t Al cl w1 w1 (by decide) hst HNA1.out (Below.refl _ _) HOK.out HSM.out)
  have hD := HD1.out
  have hzk := hD.size
  clear hst
  go_wp2_with fail
  refine (wpIn_wide (n := 7)).1 ?_
  refine wpIn_range_caps (gf := 107) (bnd := #[.pointer (some ⟨C, 0, none⟩)]) (lb := #[]) rfl (by decide) rfl trivial (enters_of Tryz.func107 (by kernel_rfl)) HSEQ.out (fun h k => h.trans k) (fun W l o o' hl ho hc => KpT.put hl ho hc _) (fun _ => rfl)
    (fun pre W => (i : Int) ∉ pre ∧ Below w1.heap.size w1 W)
    (fun c pre W => c = .ret ∧ (i : Int) ∈ pre ∧ Boxed W (w.heap.size + 1 + 1) 3 (.int .i64 (t.whole i)) ∧ Boxed W (w.heap.size + 1 + 1 + 1) 33 (.int .i64 0) ∧ Below w.heap.size w W)
    ((ownFrom_pure _ (fun pre : List Int => (i : Int) ∉ pre)).and (ownFrom_below (Nat.le_refl _) (Nat.le_refl _)))
    (fun c => (ownFrom_pure _ (fun _ => c = .ret)).and ((ownFrom_pure _ (fun pre : List Int => (i : Int) ∈ pre)).and (((boxed_own _ _ (fun _ => .int .i64 (t.whole i))).from _).and (((boxed_own _ _ (fun _ => .int .i64 0)).from _).and (ownFrom_below (by omega) (by omega))))))
    ⟨by simp, Below.refl _ _⟩
    (fun x a' W => ∃ v0 v1 v2 v6 v7 v10 v11 v12 v13 v14 v15 v16 v17 v18 v19 v20 v21 v22 v23 v24 v25 v26 v27 v28, a' = { tmps := #[v0, v1, v2, .pointer (some ⟨w.heap.size + 1, 0, none⟩), .pointer (some ⟨w.heap.size + 1 + 1, 0, none⟩), .pointer (some ⟨w.heap.size + 1 + 1 + 1, 0, none⟩), v6, v7, .int .i64 x, .int .i64 (t.whole x.toNat), v10, v11, v12, v13, v14, v15, v16, v17, v18, v19, v20, v21, v22, v23, v24, v25, v26, v27, v28], defers := [] })
    (fun x a' _ X Y row hs hg hr => hs) ?assign ?body ?done ?stop
  case assign =>
    rintro l pre x W K hsz hI hK
    simp only [encW]
    gi_wp2
    exact hK _ _ (KeepsFrom.refl _ _) (KpT.refl _ _ _) hI ⟨_, _, _, _, _, _, _, _, _, _, _, _, _, _, _, _, _, _, _, _, _, _, _, _, rfl⟩
  case body =>
    rintro l pre x a' W hsz ⟨hpre, hbel⟩ ⟨v0, v1, v2, v6, v7, v10, v11, v12, v13, v14, v15, v16, v17, v18, v19, v20, v21, v22, v23, v24, v25, v26, v27, v28, rfl⟩ hlen
    have HBL := Lib.hid hbel
    have HP := Lib.hid hpre
    have hsp := SP1.out.mono hbel
    have hr := R1.out.mono hbel
    have he := E1.out.mono hbel
    have x0 := hsp.cell 0
    have x1 := hsp.lt
    have y0 := hr.cell 0
    have y1 := hr.frozen 0
    have y2 := hr.lt
    have z0 := he.cell 0
    have z1 := he.frozen 0
    have z2 := he.lt
    have HRB := Lib.hid (show Boxed W (w.heap.size + 1 + 1) 3 (.int .i64 0) from hr)
    have HEB := Lib.hid (show Boxed W (w.heap.size + 1 + 1 + 1) 33 (.int .i64 0) from he)
    clear hbel hpre hlen hsp hr he
    by_cases hx : x = (i : Int)
    · subst hx
      have g0 : ((i : Int) == (i : Int)) = true := by simp
      gi_wp2
      refine ⟨((KeepsOthers.setCell _ _ _).from _).trans ((KeepsOthers.setCell _ _ _).from _), rfl, by simp, ?_, ?_, ?_⟩
      · have := (HRB.out.set (.int .i64 (t.whole i))).other (B' := w.heap.size + 1 + 1 + 1) (by omega) (.int .i64 0)
        simpa using this
      · exact (HEB.out.other (B' := w.heap.size + 1 + 1) (by omega) (.int .i64 (t.whole (i : Int).toNat))).set _
      · exact Below.setCell (p := ⟨w.heap.size + 1 + 1 + 1, 0, none⟩) (Below.setCell (p := ⟨w.heap.size + 1 + 1, 0, none⟩) (bTrans HD1.out HBL.out) (by simp <;> omega) _) (by simp <;> omega) _
    · have g0 : (x == (i : Int)) = false := by simp; exact hx
      gi_wp2
      exact ⟨KeepsFrom.refl _ _, KpT.refl _ _ _, by simp; exact ⟨HP.out, fun e => hx e.symm⟩, HBL.out⟩
  case done =>
    rintro D xs W hD hxs ⟨hno, hbel⟩ hK
    have HBL := Lib.hid hbel
    have hcan : t.canB i = false := by
      cases hc : t.canB i
      · rfl
      · exact absurd (hxs ▸ selTo_mem.2 ⟨i, HI.out, hc, rfl⟩) hno
    have HR2 := Lib.hid (show t.wholeOut (i : Int) = (0, 3) by rw [HR.out, hcan]; rfl)
    have hr := R1.out.mono hbel
    have he := E1.out.mono hbel
    have y0 := hr.cell 0
    have y1 := hr.frozen 0
    have y2 := hr.lt
    have z0 := he.cell 0
    have z1 := he.frozen 0
    have z2 := he.lt
    have HRB := Lib.hid (show Boxed W (w.heap.size + 1 + 1) 3 (.int .i64 0) from hr)
    have HEB := Lib.hid (show Boxed W (w.heap.size + 1 + 1 + 1) 33 (.int .i64 0) from he)
    clear hbel hno hcan hxs hr he
    go_wp2_with fail
    have hK2 := (KeepsOthers.setCell (W.setCell ⟨w.heap.size + 1 + 1, 0, none⟩ (.int .i64 0)) ⟨w.heap.size + 1 + 1 + 1, 0, none⟩ (.int .i64 3)).same D _ ((KeepsOthers.setCell W ⟨w.heap.size + 1 + 1, 0, none⟩ (.int .i64 0)).same D _ hK rfl) rfl
    have hb1 := (HRB.out.set (.int .i64 0)).other (B' := w.heap.size + 1 + 1 + 1) (by omega) (.int .i64 3)
    have hb2 := (HEB.out.other (B' := w.heap.size + 1 + 1) (by omega) (.int .i64 0)).set (.int .i64 3)
    refine ⟨by simp, .inl ⟨_, _, rfl, run_takeDeferred hK2, ?_⟩⟩
    have c4 := cell_kept hb1.cell (grownBy_putObj' _ D (.deferred none)) (fun r e => by cases e; exact ⟨_, hK2, rfl⟩)
    have c5 := cell_kept hb2.cell (grownBy_putObj' _ D (.deferred none)) (fun r e => by cases e; exact ⟨_, hK2, rfl⟩)
    refine ⟨.tuple #[.int .i64 0, .int .i64 3], by simp [results, Tryz.results49, go_sem, c4, c5], by rw [HR2.out], ?_⟩
    exact below_put (Below.setCell (p := ⟨w.heap.size + 1 + 1 + 1, 0, none⟩) (Below.setCell (p := ⟨w.heap.size + 1 + 1, 0, none⟩) (bTrans HD1.out HBL.out) (by simp <;> omega) _) (by simp <;> omega) _) (by simp [World.setCell]; omega) (by omega) _
  case stop =>
    rintro D c pre W hD hpre ⟨rfl, hin, hb1, hb2, hbel⟩ hK
    have hcan : t.canB i = true := by
      obtain ⟨j, _, hj, e⟩ := selTo_mem.1 (show (i : Int) ∈ selTo t.canB t.ns from hpre.subset hin)
      obtain rfl : i = j := by omega
      exact hj
    have HR2 := Lib.hid (show t.wholeOut (i : Int) = (t.whole i, 0) by rw [HR.out, hcan]; rfl)
    have HBL := Lib.hid hbel
    clear hbel hin hcan hpre
    gi_wp2
    refine ⟨by simp, .inl ⟨_, _, rfl, run_takeDeferred hK, ?_⟩⟩
    have c4 := cell_kept hb1.cell (grownBy_putObj' _ D (.deferred none)) (fun r e => by cases e; exact ⟨_, hK, rfl⟩)
    have c5 := cell_kept hb2.cell (grownBy_putObj' _ D (.deferred none)) (fun r e => by cases e; exact ⟨_, hK, rfl⟩)
    refine ⟨.tuple #[.int .i64 (t.whole i), .int .i64 0], by simp [results, Tryz.results49, go_sem, c4, c5], by rw [HR2.out], ?_⟩
    exact below_put HBL.out (by have := hb1.lt; omega) (by omega) _
end Go.Proofs.YtjpfdhhiofjpbaaGreatDoor

namespace Go.Proofs.YtjpfdhhiofjpbaaGreatDoor
open Go.RowKit Go.Sort
/-- the value at it, or more than anything costs -/
def valOf (f : Nat → Int) : Option Nat → Int
  | none => 100000
  | some b => f b
theorem valOf_le {f g : Nat → Int} {p q : Nat → Bool} {n m : Nat} (hnm : n ≤ m) (hp : ∀ i, i < n → p i = true → q i = true ∧ g i ≤ f i) (hb : ∀ i, i < m → q i = true → g i ≤ 100000) : valOf g (minBy g q m) ≤ valOf f (minBy f p n) := by
  rcases minBy_spec g q m with ⟨h1, h2⟩ | ⟨b, h1, h2, h3, h4⟩
  · rcases minBy_spec f p n with ⟨k1, _⟩ | ⟨c, k1, k2, k3, _⟩
    · rw [h1, k1]; exact Int.le_refl _
    · have := h2 c (by omega)
      rw [(hp c k2 k3).1] at this
      cases this
  · rcases minBy_spec f p n with ⟨k1, _⟩ | ⟨c, k1, k2, k3, _⟩
    · rw [h1, k1]; exact hb b h2 h3
    · rw [h1, k1]
      have h5 := hp c k2 k3
      have := h4 c (by omega) h5.1
      show g b ≤ f c
      omega
noncomputable def Pt.bestV (t : Pt) : Int := valOf (fun s => (t.cheap s).1) t.best
noncomputable def Pt.cheapV (t : Pt) : Int := valOf t.whole t.cheapest
noncomputable def Pt.pairV (t : Pt) : Int := if t.pair.least < 0 then 100000 else t.pair.least
theorem cheap_bd {t : Pt} (ok : t.Ok) {s : Nat} (hs : s < t.ns) : 0 ≤ (t.cheap s).1 ∧ (t.cheap s).1 ≤ 4968 := cheapOut_bd (ok.spot s hs).sh
theorem Pt.m_no {t : Pt} (ok : t.Ok) : t.m = t.no := by have := ok.no; unfold Pt.m; omega
theorem Pt.m_wells {t : Pt} (ok : t.Ok) : (t.m : Int) = t.q.wells := by have := ok.q.w0; unfold Pt.m; omega
/-! ### towns in which less is forbidden -/
section
variable {o t : Pt} (h : Looser o t)
include h
end
/-! ### towns that are alike -/
section
variable {o t : Pt} (h : Twin o t)
include h
theorem Twin.cheap {s : Nat} (hs : s < t.ns) : o.cheap s = t.cheap s := by unfold Pt.cheap; rw [h.sh s hs]
theorem Twin.canB {s : Nat} (hs : s < t.ns) : o.canB s = t.canB s := by unfold Pt.canB; rw [h.cheap hs]
theorem Twin.whoL {s : Nat} (hs : s < t.ns) : o.who s = t.who s := by unfold Pt.who; rw [h.m]; exact selTo_congr _ fun w hw => h.who s w hs hw
theorem Twin.freeB {s : Nat} (hs : s < t.ns) : o.freeB s = t.freeB s := by
  unfold Pt.freeB Pt.whoAny
  rw [h.canB hs, h.m, anyB_congr fun w hw => h.who s w hs hw]
theorem Twin.whole {s : Nat} (hs : s < t.ns) : o.whole s = t.whole s := by
  unfold Pt.whole Pt.askedTo
  rw [h.cheap hs, h.m, sumTo_congr fun w hw => by rw [h.who s w hs hw, h.pence w hw]]
theorem Twin.mayB {a b : Nat} (ha : a < t.ns) (hb : b < t.ns) : o.mayB a b = t.mayB a b := by
  unfold Pt.mayB
  rw [h.canB ha, h.canB hb, h.far a b ha hb]
theorem Twin.pairIn {a : Nat} (ha : a < t.ns) (x : Pr) : ∀ n, n ≤ t.ns → o.pairIn a n x = t.pairIn a n x
  | 0, _ => rfl
  | n + 1, hn => by
    have ih := Twin.pairIn ha x n (by omega)
    unfold Pt.pairIn
    rw [ih, h.mayB ha (by omega : n < t.ns), h.whole ha, h.whole (by omega : n < t.ns)]
theorem Twin.bestV_le (ok : o.Ok) : o.bestV ≤ t.bestV := by
  unfold Pt.bestV Pt.best
  exact valOf_le h.ns (fun i hi hf => ⟨by rw [h.freeB hi]; exact hf, by rw [h.cheap hi]; exact Int.le_refl _⟩) fun i hi _ => by have := cheap_bd ok hi; omega
theorem Twin.cheapV_le (ok : o.Ok) : o.cheapV ≤ t.cheapV := by
  unfold Pt.cheapV Pt.cheapest
  exact valOf_le h.ns (fun i hi hf => ⟨by rw [h.canB hi]; exact hf, by rw [h.whole hi]; exact Int.le_refl _⟩) fun i hi _ => by have := whole_bd ok hi; omega
end
/-! ### pairs -/
def PrOk (t : Pt) (D : Nat → Nat → Prop) (x : Pr) : Prop :=
  (x.least < 0 ∧ ∀ a b, D a b → t.mayB a b = false) ∨ (∃ a b : Nat, a < t.ns ∧ b < t.ns ∧ t.mayB a b = true ∧ x = ⟨a, b, t.whole a + t.whole b⟩ ∧ ∀ a' b', D a' b' → t.mayB a' b' = true → t.whole a + t.whole b ≤ t.whole a' + t.whole b')
theorem PrOk.step {t : Pt} {D : Nat → Nat → Prop} {x : Pr} (h : PrOk t D x) (hp : ∀ s, s < t.ns → 0 ≤ t.whole s) (a b : Nat) (ha : a < t.ns) (hb : b < t.ns) :
    PrOk t (fun c d => D c d ∨ (c = a ∧ d = b)) (if t.mayB a b && (decide (x.least < 0) || decide (t.whole a + t.whole b < x.least)) then ⟨a, b, t.whole a + t.whole b⟩ else x) := by
  cases hm : t.mayB a b
  · rw [if_neg (by simp)]
    rcases h with ⟨h1, h2⟩ | ⟨c, d, h1, h2, h3, h4, h5⟩
    · refine .inl ⟨h1, fun a' b' hd => ?_⟩
      rcases hd with hd | ⟨rfl, rfl⟩
      · exact h2 a' b' hd
      · exact hm
    · refine .inr ⟨c, d, h1, h2, h3, h4, fun a' b' hd hm' => ?_⟩
      rcases hd with hd | ⟨rfl, rfl⟩
      · exact h5 a' b' hd hm'
      · rw [hm] at hm'; cases hm'
  · rcases h with ⟨h1, h2⟩ | ⟨c, d, h1, h2, h3, rfl, h5⟩
    · rw [if_pos (by simp [h1])]
      refine .inr ⟨a, b, ha, hb, hm, rfl, fun a' b' hd hm' => ?_⟩
      rcases hd with hd | ⟨rfl, rfl⟩
      · rw [h2 a' b' hd] at hm'; cases hm'
      · exact Int.le_refl _
    · have hc := hp c h1
      have hd := hp d h2
      by_cases hl : t.whole a + t.whole b < t.whole c + t.whole d
      · rw [if_pos (by simp [hl])]
        refine .inr ⟨a, b, ha, hb, hm, rfl, fun a' b' hd hm' => ?_⟩
        rcases hd with hd | ⟨rfl, rfl⟩
        · have := h5 a' b' hd hm'; omega
        · exact Int.le_refl _
      · rw [if_neg (by simp; omega)]
        refine .inr ⟨c, d, h1, h2, h3, rfl, fun a' b' hd hm' => ?_⟩
        rcases hd with hd | ⟨rfl, rfl⟩
        · exact h5 a' b' hd hm'
        · omega
theorem PrOk.weaken {t : Pt} {D E : Nat → Nat → Prop} {x : Pr} (h : PrOk t D x) (he : ∀ a b, E a b → D a b) : PrOk t E x := by
  rcases h with ⟨h1, h2⟩ | ⟨c, d, h1, h2, h3, h4, h5⟩
  · exact .inl ⟨h1, fun a b hd => h2 a b (he a b hd)⟩
  · exact .inr ⟨c, d, h1, h2, h3, h4, fun a b hd => h5 a b (he a b hd)⟩
theorem pairIn_ok {t : Pt} {D : Nat → Nat → Prop} {x : Pr} (h : PrOk t D x) (hp : ∀ s, s < t.ns → 0 ≤ t.whole s) (a : Nat) (ha : a < t.ns) : ∀ n, n ≤ t.ns → PrOk t (fun c d => D c d ∨ (c = a ∧ d < n)) (t.pairIn a n x)
  | 0, _ => h.weaken fun c d hd => by rcases hd with hd | ⟨_, hd⟩; exact hd; omega
  | n + 1, hn => by
    have ih := pairIn_ok h hp a ha n (by omega)
    have := ih.step hp a n ha (by omega)
    unfold Pt.pairIn
    refine this.weaken fun c d hd => ?_
    rcases hd with hd | ⟨h1, h2⟩
    · exact .inl (.inl hd)
    · by_cases e : d = n
      · exact .inr ⟨h1, e⟩
      · exact .inl (.inr ⟨h1, by omega⟩)
theorem pairTo_ok {t : Pt} (hp : ∀ s, s < t.ns → 0 ≤ t.whole s) : ∀ n, n ≤ t.ns → PrOk t (fun c d => c < n ∧ d < t.ns) (t.pairTo n)
  | 0, _ => .inl ⟨by show (-1 : Int) < 0; decide, fun a b h => by omega⟩
  | n + 1, hn => by
    have ih := pairTo_ok hp n (by omega)
    have := pairIn_ok ih hp n (by omega) t.ns (Nat.le_refl _)
    unfold Pt.pairTo
    refine this.weaken fun c d hd => ?_
    by_cases e : c = n
    · exact .inr ⟨e, hd.2⟩
    · exact .inl ⟨by omega, hd.2⟩
theorem pair_ok {t : Pt} (ok : t.Ok) : PrOk t (fun c d => c < t.ns ∧ d < t.ns) t.pair := pairTo_ok (fun s hs => (whole_bd ok hs).1) t.ns (Nat.le_refl _)
theorem pairV_cases {t : Pt} (ok : t.Ok) : (t.pair.least < 0 ∧ t.pairV = 100000 ∧ ∀ a b, a < t.ns → b < t.ns → t.mayB a b = false) ∨ ∃ a b : Nat, a < t.ns ∧ b < t.ns ∧ t.mayB a b = true ∧ t.pair = ⟨a, b, t.whole a + t.whole b⟩ ∧ t.pairV = t.whole a + t.whole b ∧ ∀ a' b', a' < t.ns → b' < t.ns → t.mayB a' b' = true → t.whole a + t.whole b ≤ t.whole a' + t.whole b' := by
  rcases pair_ok ok with ⟨h1, h2⟩ | ⟨a, b, h1, h2, h3, h4, h5⟩
  · exact .inl ⟨h1, by unfold Pt.pairV; rw [if_pos h1], fun a b ha hb => h2 a b ⟨ha, hb⟩⟩
  · refine .inr ⟨a, b, h1, h2, h3, h4, ?_, fun a' b' ha hb => h5 a' b' ⟨ha, hb⟩⟩
    have := whole_bd ok h1
    have := whole_bd ok h2
    unfold Pt.pairV
    rw [h4, if_neg (by show ¬ t.whole a + t.whole b < 0; omega)]
theorem Twin.pairV_le {o t : Pt} (h : Twin o t) (ok : o.Ok) (okt : t.Ok) : o.pairV ≤ t.pairV := by
  have hn := h.ns
  rcases pairV_cases okt with ⟨_, k1, _⟩ | ⟨a, b, k1, k2, k3, _, k5, _⟩
  · rcases pairV_cases ok with ⟨_, h1, _⟩ | ⟨c, d, h1, h2, _, _, h5, _⟩
    · rw [k1, h1]; exact Int.le_refl _
    · have := whole_bd ok h1
      have := whole_bd ok h2
      omega
  · have hm : o.mayB a b = true := (h.mayB k1 k2).trans k3
    rcases pairV_cases ok with ⟨_, _, h2⟩ | ⟨c, d, _, _, _, _, h5, h6⟩
    · rw [h2 a b (by omega) (by omega)] at hm; cases hm
    · have := h6 a b (by omega) (by omega) hm
      rw [h.whole k1, h.whole k2] at this
      omega
end Go.Proofs.YtjpfdhhiofjpbaaGreatDoor

namespace Go.Proofs.YtjpfdhhiofjpbaaGreatDoor
open Go.RowKit Go.Sort
/-- what the reference hands back: a list of tests, and an error -/
def RefLst (w : World) (er : Int) (L : List Tp) (e : Ending) : Prop := (er = 0 → ∃ A c, e = .returned (.tuple #[.slice A L.length c, .int .i64 er]) ∧ RowAt w A (tstE.cells L)) ∧ (er ≠ 0 → e = .returned (.tuple #[.slice none 0 0, .int .i64 er]))
theorem firstUpTo_none {l : List Tp} {p : List Tp → Bool} {k : Nat} (h0 : firstUpTo l p 0 k = none) (h1 : (listsL l k).find? p = none) : firstUpTo l p 0 (k + 1) = none := by
  rw [firstUpTo_snoc, h0]
  simpa using h1
theorem tests_len {t : Qt} (ok : t.Ok) : t.tests.length ≤ 16 := by
  obtain ⟨m, hm⟩ : ∃ m : Nat, t.wells = (m : Int) := ⟨t.wells.toNat, by have := ok.w0; omega⟩
  have m4 : m ≤ 4 := by have := ok.w1; omega
  unfold Qt.tests
  rw [testsL_len, hm, Int.toNat_natCast]
  have : m * m ≤ 4 * 4 := Nat.mul_le_mul m4 m4
  omega
theorem tests_ok5 {t : Qt} (ok : t.Ok) : t.TestsOk t.tests := fun x hx => by
  have := testsL_mem.1 hx
  have := ok.w0
  omega
end Go.Proofs.YtjpfdhhiofjpbaaGreatDoor

namespace Go.Proofs.YtjpfdhhiofjpbaaGreatDoor
open Go.RowKit Go.Sort
/-- the list that comes back with an error -/
def lstO (er : Int) (L : List Tp) : List Tp := if er = 0 then L else []
theorem RefLst.o {w : World} {er : Int} {L : List Tp} {e : Ending} (h : RefLst w er L e) : ∃ A c, e = .returned (.tuple #[.slice A (lstO er L).length c, .int .i64 er]) ∧ RowAt w A (tstE.cells (lstO er L)) := by
  unfold lstO
  by_cases h0 : er = 0
  · obtain ⟨A, c, e1, h1⟩ := h.1 h0
    rw [if_pos h0]
    exact ⟨A, c, e1, h1⟩
  · rw [if_neg h0]
    exact ⟨none, 0, h.2 h0, .inl rfl⟩
end Go.Proofs.YtjpfdhhiofjpbaaGreatDoor

namespace Go.Proofs.YtjpfdhhiofjpbaaGreatDoor
open Go.RowKit Go.Sort
/-- whether an old well forbids a spot in just one of two worlds -/
def Pt.unlike (t : Pt) (s : Nat) (a b : Int) : Bool := anyB (fun w => t.forb s w a != t.forb s w b) t.m
theorem unlike_comm (t : Pt) (s : Nat) (a b : Int) : t.unlike s a b = t.unlike s b a := anyB_congr fun w _ => bne_comm
theorem unlike_self (t : Pt) (s : Nat) (a : Int) : t.unlike s a a = false := anyB_false.2 fun w _ => by simp
/-- whether some tests decide all that must be for a spot -/
def Pt.decB (t : Pt) (s : Nat) (l : List Tp) : Bool := !anyB (fun i => anyB (fun k => t.unlike s (intL0 t.q.leftL i) (intL0 t.q.leftL k) && !t.q.someB l (intL0 t.q.leftL i) (intL0 t.q.leftL k)) i) t.q.leftL.length
theorem decB_iff {t : Pt} {s : Nat} {l : List Tp} : t.decB s l = true ↔ ∀ a, a ∈ t.q.leftL → ∀ b, b ∈ t.q.leftL → t.unlike s a b = true → t.q.someB l a b = true := by
  unfold Pt.decB
  rw [Bool.not_eq_true', anyB_false]
  constructor
  · intro h a ha b hb hs
    obtain ⟨i, hi, rfl⟩ := mem_intL0 ha
    obtain ⟨k, hk, rfl⟩ := mem_intL0 hb
    rcases Nat.lt_trichotomy i k with h1 | h1 | h1
    · have := anyB_false.1 (h k hk) i h1
      rw [unlike_comm, hs, someB_comm t.q l] at this
      simpa using this
    · subst h1
      rw [unlike_self] at hs
      cases hs
    · have := anyB_false.1 (h i hi) k h1
      rw [hs] at this
      simpa using this
  · intro h i hi
    refine anyB_false.2 fun k hk => ?_
    cases hs : t.unlike s (intL0 t.q.leftL i) (intL0 t.q.leftL k) with
    | false => rfl
    | true => rw [h _ (intL0_mem hi) _ (intL0_mem (by omega)) hs]; rfl
noncomputable def Pt.decErr (t : Pt) (s : Int) : Int := if t.knowErr (t.hasB s) = 0 then (if t.decB s.toNat t.q.tests then 0 else 3) else t.knowErr (t.hasB s)
/-- the tests of Decide -/
def Pt.decL (t : Pt) (s : Int) : List Tp := fewestL t.q.tests fun l => t.decB s.toNat l
theorem inN_zero {t : Pt} {s w : Nat} : t.inN s w = 0 ↔ ∀ a, a ∈ t.q.leftL → t.forb s w a = false := by
  unfold Pt.inN Pt.inTo
  rw [cntB_zero]
  constructor
  · intro h a ha
    obtain ⟨i, hi, rfl⟩ := mem_intL0 ha
    exact h i hi
  · intro h i hi
    exact h _ (intL0_mem hi)
theorem whoB_iff {t : Pt} {s w : Nat} : t.whoB s w = true ↔ ∃ a, a ∈ t.q.leftL ∧ t.forb s w a = true := by
  unfold Pt.whoB
  rw [decide_eq_true_eq]
  constructor
  · intro h
    by_cases e : ∃ a, a ∈ t.q.leftL ∧ t.forb s w a = true
    · exact e
    · have : t.inN s w = 0 := inN_zero.2 fun a ha => by
        cases hf : t.forb s w a
        · rfl
        · exact absurd ⟨a, ha, hf⟩ e
      omega
  · rintro ⟨a, ha, hf⟩
    have : t.inN s w ≠ 0 := fun e => by rw [inN_zero.1 e a ha] at hf; cases hf
    omega
/-! ### one fact more -/
/-! ### the looser law -/
/-! ### the street, seen from the other end -/
/-! ### one spot more -/
def Pt.addSpot (t : Pt) (x : Spot) : Pt := { t with ns := t.ns + 1, spot := fun i => if i < t.ns then t.spot i else x }
theorem addSpot_at (t : Pt) (x : Spot) {s : Nat} (hs : s < t.ns) : (t.addSpot x).spot s = t.spot s := if_pos hs
theorem addSpot_forb (t : Pt) (x : Spot) {s : Nat} (hs : s < t.ns) (w : Nat) (a : Int) : (t.addSpot x).forb s w a = t.forb s w a := by
  unfold Pt.forb
  rw [addSpot_at t x hs]
  rfl
theorem addSpot_in (t : Pt) (x : Spot) {s : Nat} (hs : s < t.ns) (w : Nat) : (t.addSpot x).whoB s w = t.whoB s w := by
  refine Bool.eq_iff_iff.2 ⟨fun h => ?_, fun h => ?_⟩
  · obtain ⟨a, h1, h2⟩ := whoB_iff.1 h
    exact whoB_iff.2 ⟨a, h1, by rw [← addSpot_forb t x hs]; exact h2⟩
  · obtain ⟨a, h1, h2⟩ := whoB_iff.1 h
    exact whoB_iff.2 ⟨a, h1, by rw [addSpot_forb t x hs]; exact h2⟩
theorem addSpot_twin (t : Pt) (x : Spot) : Twin (t.addSpot x) t :=
  ⟨by show t.ns ≤ t.ns + 1; omega, rfl, fun s hs => by rw [addSpot_at t x hs], fun _ _ => rfl, fun s w hs _ => addSpot_in t x hs w, fun a b ha hb => by rw [addSpot_at t x ha, addSpot_at t x hb]; rfl⟩
theorem addSpot_unlike (t : Pt) (x : Spot) {s : Nat} (hs : s < t.ns) (a b : Int) : (t.addSpot x).unlike s a b = t.unlike s a b := anyB_congr fun w _ => by rw [addSpot_forb t x hs, addSpot_forb t x hs]
theorem addSpot_dec (t : Pt) (x : Spot) {s : Nat} (hs : s < t.ns) (l : List Tp) : (t.addSpot x).decB s l = t.decB s l := by
  refine Bool.eq_iff_iff.2 (decB_iff.trans (Iff.trans ?_ decB_iff.symm))
  simp only [addSpot_unlike t x hs]
  exact Iff.rfl
theorem addSpot_decL (t : Pt) (x : Spot) {s : Nat} (hs : s < t.ns) : (t.addSpot x).decL s = t.decL s := fewest_congr fun y _ => by rw [Int.toNat_natCast]; exact addSpot_dec t x hs y
/-! ### the least harm -/
end Go.Proofs.YtjpfdhhiofjpbaaGreatDoor

namespace Go.Proofs.YtjpfdhhiofjpbaaGreatDoor
open Go.RowKit Go.Sort
theorem dist9_any (a b : Int) (w : World) (ha : 0 ≤ a ∧ a ≤ 99) (hb : 0 ≤ b ∧ b ≤ 99) : Calls Tryz.prog 58 #[.int .i64 a, .int .i64 b] w fun e w' => e = .returned (.int .i64 (dst a b)) ∧ Below w.heap.size w w' := by
  have h1 : IntKind.i64.wrap (a - b) = a - b := IntWalk.i64_in _ (by omega)
  have h2 : IntKind.i64.wrap (b - a) = b - a := IntWalk.i64_in _ (by omega)
  obtain ⟨u, hu⟩ : ∃ u, (if a - b < b - a then b - a else a - b) = u := ⟨_, rfl⟩
  have HU := Lib.hid (show dst a b = u by rw [← hu]; unfold dst; split <;> omega)
  clear ha hb
  go_enter Tryz.func58, Tryz.ntmps58
  go_wp2_with fail
  go_ret
  exact ⟨by rw [HU.out]; rfl, Below.refl _ _⟩
set_option maxHeartbeats 4000000 in
set_option maxRecDepth 100000 in
theorem isSpotN9_any (Aw Af Ao Ap As : Option Addr) (cw cf co cp cs : Nat) (t : Pt) (n : Int) (w : World) (hs : t.ns ≤ 9223372036854775807) :
    Calls Tryz.prog 40 #[.agg #[.int .i64 t.q.wells, .slice Aw t.q.nw cw, .slice Af t.q.nf cf, .slice Ao t.no co, .slice Ap t.np cp, .slice As t.ns cs, .int .i64 t.far, .int .i64 t.harm, .int .i64 t.many], .int .i64 n] w fun e w' => e = .returned (.bool (t.hasB n)) ∧ Below w.heap.size w w' := by
  have hw1 : IntKind.i64.wrap ((t.ns : Int) - 1) = (t.ns : Int) - 1 := IntWalk.i64_in _ (by omega)
  have HN := Lib.hid (show inR n 0 ((t.ns : Int) - 1) = t.hasB n from rfl)
  clear hs
  have HD0 := Lib.hid (Below.refl w.heap.size w)
  go_enter Tryz.func40, Tryz.ntmps40
  go_wp2_with fail
  refine (within9_b _ _ _ _ _ HN.out).mono ?_
  rintro e w0 ⟨rfl, rfl⟩
  go_wp2_with fail
  go_ret
  exact ⟨rfl, (bTrans HD0.out (bAlloc (Below.refl _ _) (.cells #[.int .i64 t.q.wells, .slice Aw t.q.nw cw, .slice Af t.q.nf cf, .slice Ao t.no co, .slice Ap t.np cp, .slice As t.ns cs, .int .i64 t.far, .int .i64 t.harm, .int .i64 t.many] 29)))⟩
end Go.Proofs.YtjpfdhhiofjpbaaGreatDoor

namespace Go.Proofs.YtjpfdhhiofjpbaaGreatDoor
open Go.RowKit Go.Sort
theorem left_get {t : Pt} {w : World} {A : Option Addr} (hL : IntsAt w A t.q.leftL.length (intL0 t.q.leftL)) {k : Nat} (hk : k < t.q.leftL.length) : ∃ (b o i : Nat), A = some ⟨b, o, none⟩ ∧ b < w.heap.size ∧ w.cell? ⟨b, o + k, none⟩ = some (.int .i64 (i : Int)) ∧ intL0 t.q.leftL k = (i : Int) ∧ i < t.q.nw := by
  obtain ⟨i, h1, h2, _⟩ := left_at hk
  obtain ⟨b, o, h3, h4, h5⟩ := hL.get hk
  rw [h1] at h5
  exact ⟨b, o, i, h3, h4, h5, h1, h2⟩
set_option maxHeartbeats 4000000 in
set_option maxRecDepth 100000 in
theorem leftOf9_any (Aw Af Ao Ap As : Option Addr) (cw cf co cp cs : Nat) (t : Pt) (w : World) (ok : t.Ok) (hT : PAt w Aw Af Ao Ap As t) :
    Calls Tryz.prog 42 #[.agg #[.int .i64 t.q.wells, .slice Aw t.q.nw cw, .slice Af t.q.nf cf, .slice Ao t.no co, .slice Ap t.np cp, .slice As t.ns cs, .int .i64 t.far, .int .i64 t.harm, .int .i64 t.many]] w fun e w' => (∃ A c, e = .returned (.slice A t.q.leftL.length c) ∧ IntsAt w' A t.q.leftL.length (intL0 t.q.leftL)) ∧ Below w.heap.size w w' := by
  have HD0 := Lib.hid (Below.refl w.heap.size w)
  have HOK := Lib.hid ok
  have HT0 := Lib.hid hT
  clear ok hT
  go_enter Tryz.func42, Tryz.ntmps42
  go_wp2_with fail
  refine (refLeftOf Aw Af cw cf t.q _ HOK.out.q (HT0.out.mono (bAlloc (Below.refl _ _) (.cells #[.int .i64 t.q.wells, .slice Aw t.q.nw cw, .slice Af t.q.nf cf, .slice Ao t.no co, .slice Ap t.np cp, .slice As t.ns cs, .int .i64 t.far, .int .i64 t.harm, .int .i64 t.many] 29))).q).mono ?_
  rintro e w1 ⟨⟨v, rfl, hv⟩, hb⟩
  obtain ⟨A4, c4, rfl, hi4, _⟩ := left_base hv
  have hB1 : Below w.heap.size w w1 := bTrans (bAlloc (Below.refl _ _) (.cells #[.int .i64 t.q.wells, .slice Aw t.q.nw cw, .slice Af t.q.nf cf, .slice Ao t.no co, .slice Ap t.np cp, .slice As t.ns cs, .int .i64 t.far, .int .i64 t.harm, .int .i64 t.many] 29)) hb
  have HD1 := Lib.hid (bTrans HD0.out hB1)
  have HT1 := Lib.hid (HT0.out.mono hB1)
  have HI41 := Lib.hid (hi4)
  have T1 := Lib.hid (show TBox w1 w.heap.size 29 #[.int .i64 t.q.wells, .slice Aw t.q.nw cw, .slice Af t.q.nf cf, .slice Ao t.no co, .slice Ap t.np cp, .slice As t.ns cs, .int .i64 t.far, .int .i64 t.harm, .int .i64 t.many] from by have := ((TBox.new w #[.int .i64 t.q.wells, .slice Aw t.q.nw cw, .slice Af t.q.nf cf, .slice Ao t.no co, .slice Ap t.np cp, .slice As t.ns cs, .int .i64 t.far, .int .i64 t.harm, .int .i64 t.many] 29).mono (Below.refl _ _)).mono hb; simpa using this)
  clear hb hB1 HD0 HT0
  obtain ⟨T_0, T_1, T_2, T_3, T_4, T_5, T_6, T_7, T_8, T_l⟩ := T1.out.c9
  clear hv hi4
  go_wp2_with fail
  go_ret
  exact ⟨⟨A4, c4, rfl, HI41.out⟩, HD1.out⟩
end Go.Proofs.YtjpfdhhiofjpbaaGreatDoor

namespace Go.Proofs.YtjpfdhhiofjpbaaGreatDoor
open Go.RowKit Go.Sort
theorem minBy_lt {f : Nat → Int} {p : Nat → Bool} {n b : Nat} (h : minBy f p n = some b) : b < n ∧ p b = true := by
  rcases minBy_spec f p n with ⟨h1, _⟩ | ⟨c, h1, h2, h3, _⟩
  · rw [h1] at h; cases h
  · rw [h1] at h; obtain rfl := Option.some.inj h; exact ⟨h2, h3⟩
end Go.Proofs.YtjpfdhhiofjpbaaGreatDoor

namespace Go.Proofs.YtjpfdhhiofjpbaaGreatDoor
open Go.RowKit Go.Sort
/-- some Bool, that says that a town is valid -/
def ReadyB (t : Pt) (e : Ending) : Prop := ∃ b, e = .returned (.bool b) ∧ (b = true → t.Ok)
set_option maxHeartbeats 4000000 in
set_option maxRecDepth 100000 in
theorem ready9_any (Aw Af Ao Ap As : Option Addr) (cw cf co cp cs : Nat) (t : Pt) (w : World) (hs : t.Small) (hT : PAt w Aw Af Ao Ap As t) :
    Calls Tryz.prog 39 #[.agg #[.int .i64 t.q.wells, .slice Aw t.q.nw cw, .slice Af t.q.nf cf, .slice Ao t.no co, .slice Ap t.np cp, .slice As t.ns cs, .int .i64 t.far, .int .i64 t.harm, .int .i64 t.many]] w fun e w' => ReadyB t e ∧ Below w.heap.size w w' := by
  have HD0 := Lib.hid (Below.refl w.heap.size w)
  have HSM := Lib.hid hs
  have HT0 := Lib.hid hT
  clear hs hT
  go_enter Tryz.func39, Tryz.ntmps39
  go_wp2_with fail
  refine (far9_any Aw Af Ao Ap As cw cf co cp cs t _ HSM.out (HT0.out.mono (bAlloc (Below.refl _ _) (.cells #[.int .i64 t.q.wells, .slice Aw t.q.nw cw, .slice Af t.q.nf cf, .slice Ao t.no co, .slice Ap t.np cp, .slice As t.ns cs, .int .i64 t.far, .int .i64 t.harm, .int .i64 t.many] 29)))).mono ?_
  rintro e w1 ⟨⟨bf, rfl⟩, hb⟩
  have hB1 : Below w.heap.size w w1 := bTrans (bAlloc (Below.refl _ _) (.cells #[.int .i64 t.q.wells, .slice Aw t.q.nw cw, .slice Af t.q.nf cf, .slice Ao t.no co, .slice Ap t.np cp, .slice As t.ns cs, .int .i64 t.far, .int .i64 t.harm, .int .i64 t.many] 29)) hb
  have HD1 := Lib.hid (bTrans HD0.out hB1)
  have HT1 := Lib.hid (HT0.out.mono hB1)
  have T1 := Lib.hid (show TBox w1 w.heap.size 29 #[.int .i64 t.q.wells, .slice Aw t.q.nw cw, .slice Af t.q.nf cf, .slice Ao t.no co, .slice Ap t.np cp, .slice As t.ns cs, .int .i64 t.far, .int .i64 t.harm, .int .i64 t.many] from by have := ((TBox.new w #[.int .i64 t.q.wells, .slice Aw t.q.nw cw, .slice Af t.q.nf cf, .slice Ao t.no co, .slice Ap t.np cp, .slice As t.ns cs, .int .i64 t.far, .int .i64 t.harm, .int .i64 t.many] 29).mono (Below.refl _ _)).mono hb; simpa using this)
  clear hb hB1 HD0 HT0
  obtain ⟨T_0, T_1, T_2, T_3, T_4, T_5, T_6, T_7, T_8, T_l⟩ := T1.out.c9
  cases bf
  case true =>
    go_wp2_with fail
    go_ret
    exact ⟨⟨_, rfl, fun h => by cases h⟩, HD1.out⟩
  go_wp2_with fail
  refine (check9_any Aw Af Ao Ap As cw cf co cp cs t _ HSM.out HT1.out).mono ?_
  rintro e w2 ⟨rfl, hb⟩
  have hB2 : Below w1.heap.size w1 w2 := bTrans (Below.refl _ _) hb
  have HD2 := Lib.hid (bTrans HD1.out hB2)
  have HT2 := Lib.hid (HT1.out.mono hB2)
  have T2 := Lib.hid (T1.out.mono hB2)
  clear hb hB2 HD1 HT1 T1 T_0 T_1 T_2 T_3 T_4 T_5 T_6 T_7 T_8 T_l
  obtain ⟨T_0, T_1, T_2, T_3, T_4, T_5, T_6, T_7, T_8, T_l⟩ := T2.out.c9
  by_cases ok : t.Ok
  case neg =>
    rw [Pt.err_bad ok]
    clear ok
    go_wp2_with fail
    go_ret
    exact ⟨⟨_, rfl, fun h => by cases h⟩, HD2.out⟩
  rw [Pt.err_ok ok]
  have HOK := Lib.hid ok
  clear ok
  go_wp2_with fail
  go_ret
  exact ⟨⟨_, rfl, fun _ => HOK.out⟩, HD2.out⟩
end Go.Proofs.YtjpfdhhiofjpbaaGreatDoor

