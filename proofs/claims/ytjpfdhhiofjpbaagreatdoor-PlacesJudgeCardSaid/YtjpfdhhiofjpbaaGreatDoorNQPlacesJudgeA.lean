/- Parts joined: what the claim PlacesJudge needs beyond the others. -/
import Derived.WalkKit
import Derived.WalkSpells
import Derived.WalkLawsBesides
import Derived.BigQuiet
import Derived.Lib.Hide
import Derived.Lib.QuietBelow
import Derived.Deep.RegionHeld3
import Derived.OwnWalk
import Derived.Laws.AppendOwn
import Derived.Laws.OwnMore
import Derived.Laws.IdiomCopy
import Derived.Deep.RegionLaw
import Derived.Lib.SliceRun
import Derived.ArgAppend
import Derived.RegionTactic
import Derived.Laws.MakeOwn
import Derived.Test.YtjpfdhhiofjpbaaGreatDoorProg
import Derived.Test.YtjpfdhhiofjpbaaGreatDoorTie
import Derived.ProofKit
import Derived.LaidMore
import Derived.OpenShut
import Derived.Deep.Slices
import Derived.Deep.Fields
import Derived.Stop.Joined
import Derived.Deep.LoopGhost
import Derived.Test.YtjpfdhhiofjpbaaGreatDoorNQA
import Derived.Test.YtjpfdhhiofjpbaaGreatDoorNQB
import Derived.Test.YtjpfdhhiofjpbaaGreatDoorNQC
import Derived.Test.YtjpfdhhiofjpbaaGreatDoorNQD
import Derived.Test.YtjpfdhhiofjpbaaGreatDoorNQE
import Derived.Test.YtjpfdhhiofjpbaaGreatDoorNQF
import Derived.Test.YtjpfdhhiofjpbaaGreatDoorNQG
import Derived.Test.YtjpfdhhiofjpbaaGreatDoorNQH
import Derived.Test.YtjpfdhhiofjpbaaGreatDoorNQI
import Derived.Test.YtjpfdhhiofjpbaaGreatDoorNQJ
import Derived.Test.YtjpfdhhiofjpbaaGreatDoorNQK
import Derived.Test.YtjpfdhhiofjpbaaGreatDoorNQL
import Derived.Test.YtjpfdhhiofjpbaaGreatDoorNQM
import Derived.Test.YtjpfdhhiofjpbaaGreatDoorNQN
import Derived.Test.YtjpfdhhiofjpbaaGreatDoorNQO
import Derived.Test.YtjpfdhhiofjpbaaGreatDoorNQP
import Derived.Test.YtjpfdhhiofjpbaaGreatDoorNQQ
import Derived.Test.YtjpfdhhiofjpbaaGreatDoorNQR
import Derived.Test.YtjpfdhhiofjpbaaGreatDoorNQS
import Derived.Test.YtjpfdhhiofjpbaaGreatDoorNQT
import Derived.Test.YtjpfdhhiofjpbaaGreatDoorNQU
set_option linter.unusedSimpArgs false
set_option linter.unusedVariables false
namespace Go.Proofs.YtjpfdhhiofjpbaaGreatDoor
open Go.RowKit Go.Sort
/-! ### Worlds -/
attribute [go_sem] cell_grow frozen_grow Instr.field asAgg
section
variable {w x y : World}
end
/-! ### Endings -/
/-! ### Plain notions -/
/-! ### How slices read -/
section
variable {P : Program} {ops : Array Oper} {md : Region.Mode}

/-! ### The frame behind some of the operations -/
/-! ### Operations that are calm: one value in every world that is the first one with new blocks; what they leave is that with new blocks -/
attribute [go_sem] Oper.calm Oper.calmAt Oper.calmUpon
/-! ### Whoever looks at a slot, and whoever writes it, wait for each other -/
end
section
variable {P : Program} {ops : Array Oper} {md : Region.Mode}
attribute [go_sem] Oper.heldAt Oper.heldUpon newer_refl depsP
end
section
variable {m : Nat} {g : Nat → Int} {x d n : Nat} {h : Nat → Int}
end
section
variable {P : Program} {ops : Array Oper} {md : Region.Mode}
theorem wpStir_call {W : World} {Q : Act → World → Prop} {k : Nat} {o : Oper} {l : List Oper} {c : Value} {hs : List Stir} {a : Act} {F : List (Nat × (World → Prop))} (hg : o.guard = none)
    (h1 : ∀ w', Below W.heap.size W w' → depsP md ops k F w' → Oper.stirAt P o a w' Newer (fun _ v => v = c))
    (h2 : wpStir P md ops W Q (k + 1) l hs (a.put o.dst c) F) : wpStir P md ops W Q k (o :: l) (.const c :: hs) a F := by
  refine wpStir_const ?_ h2
  unfold Region.wanted
  rw [hg, if_pos rfl]
  exact fun p => h1 _ (below_regrown _ _ _)
attribute [go_sem] Oper.stirAt Oper.stirUpon
end
/-! ### Bounds -/
/-! ### Spans -/
section
variable {P : Program} {ops : Array Oper} {md : Region.Mode}
end
/-! ### Rows of structs -/
theorem catL_congr {f g : Nat → List Value} : ∀ n, (∀ i, i < n → f i = g i) → catL f n = catL g n
  | 0, _ => rfl
  | n + 1, h => by simp only [catL]; rw [catL_congr n (fun i hi => h i (by omega)), h n (by omega)]
/-! ### A row at hand -/
end Go.Proofs.YtjpfdhhiofjpbaaGreatDoor

namespace Go.Proofs.YtjpfdhhiofjpbaaGreatDoor
open Go.RowKit Go.Sort
/-- a fall in a world -/
def Qt.fallAt (t : Qt) (i : Nat) (p q : Int) : Int := (t.world i).fall p.toNat q.toNat
set_option maxHeartbeats 2000000 in
theorem fall5_any (Aw Af : Option Addr) (cw cf : Nat) (t : Qt) (i p q : Nat) (w : World) (ok : t.Ok) (hi : i < t.nw) (hp : (p : Int) < t.wells) (hq : (q : Int) < t.wells) (hT : QAt w Aw Af t) :
    Calls Tryz.prog 65 #[.agg #[.int .i64 t.wells, .slice Aw t.nw cw, .slice Af t.nf cf], .int .i64 i, .int .i64 p, .int .i64 q] w fun e w' => e = .returned (.int .i64 (t.fallAt i p q)) ∧ Below w.heap.size w w' := by
  obtain ⟨b, o, b', o', c', b'', o'', c'', n, m, v, rfl, a2, a3, a4, a5, a6, a7, hv, v0, v1, hn, hm⟩ := ok.at hT hi (p := p) (q := q) (by omega) hp (by omega) hq
  rw [Int.toNat_natCast] at a5
  rw [Int.toNat_natCast] at a7
  have HV := Lib.hid (show t.fallAt i p q = v from hv.symm)
  have HB := Lib.hid (bAlloc (Below.refl w.heap.size w) (.cells #[.int .i64 t.wells, .slice (some ⟨b, o, none⟩) t.nw cw, .slice Af t.nf cf] 25))
  have p1 : (p : Int) < (n : Int) := by omega
  have p0 : (0 : Int) ≤ (p : Int) := by omega
  have q1 : (q : Int) < (m : Int) := by omega
  have q0 : (0 : Int) ≤ (q : Int) := by omega
  have i1 : (i : Int) < (t.nw : Int) := by omega
  have i0 : (0 : Int) ≤ (i : Int) := by omega
  clear hv hn hm hi hp hq ok hT
  go_enter Tryz.func65, Tryz.ntmps65
  go_wp2_with fail
  go_ret
  exact ⟨by rw [HV.out]; rfl, HB.out⟩
end Go.Proofs.YtjpfdhhiofjpbaaGreatDoor

namespace Go.Proofs.YtjpfdhhiofjpbaaGreatDoor
open Go.RowKit Go.Sort
theorem isWell5_any (Aw Af : Option Addr) (cw cf : Nat) (t : Qt) (n : Int) (w : World) :
    Calls Tryz.prog 116 #[.agg #[.int .i64 t.wells, .slice Aw t.nw cw, .slice Af t.nf cf], .int .i64 n] w fun e w' => e = .returned (.bool (t.wellB n)) ∧ Below w.heap.size w w' := by
  obtain ⟨m, hm⟩ : ∃ m, IntKind.i64.wrap (t.wells - 1) = m := ⟨_, rfl⟩
  have H := Lib.hid (show inR n 0 m = t.wellB n by unfold Qt.wellB; rw [hm])
  go_enter Tryz.func116, Tryz.ntmps116
  go_wp2_with fail
  refine (within5_b _ _ _ _ _ H.out).mono ?_
  rintro e w' ⟨rfl, rfl⟩
  go_wp2_with fail
  go_ret
  exact ⟨rfl, bAlloc (Below.refl _ _) _⟩
end Go.Proofs.YtjpfdhhiofjpbaaGreatDoor

namespace Go.Proofs.YtjpfdhhiofjpbaaGreatDoor
/-- a test: two wells -/
abbrev Tp := Nat × Nat
/-- all tests of m wells, in order -/
def testsL (m : Nat) : List Tp := (List.range m).flatMap fun p => (List.range m).map fun q => (p, q)
theorem testsL_mem {m : Nat} {x : Tp} : x ∈ testsL m ↔ x.1 < m ∧ x.2 < m := by
  unfold testsL
  obtain ⟨a, b⟩ := x
  simp only [List.mem_flatMap, List.mem_map, List.mem_range, Prod.mk.injEq]
  constructor
  · rintro ⟨p, hp, q, hq, rfl, rfl⟩
    exact ⟨hp, hq⟩
  · rintro ⟨h1, h2⟩
    exact ⟨a, h1, b, h2, rfl, rfl⟩
theorem flat_len {m : Nat} {f : Nat → List Tp} (h : ∀ p, (f p).length = m) : ∀ k, ((List.range k).flatMap f).length = k * m
  | 0 => by simp
  | k + 1 => by rw [List.range_succ, List.flatMap_append, List.length_append, flat_len h k, Nat.succ_mul]; simp [h]
theorem testsL_len (m : Nat) : (testsL m).length = m * m := flat_len (fun p => by simp) m
/-- all lists of k of some tests, the first one first -/
def listsL : List Tp → Nat → List (List Tp)
  | _, 0 => [[]]
  | [], _ + 1 => []
  | x :: l, k + 1 => (listsL l k).map (x :: ·) ++ listsL l (k + 1)
theorem listsL_zero (l : List Tp) : listsL l 0 = [[]] := by cases l <;> rfl
theorem listsL_mem {x : List Tp} : ∀ {l : List Tp} {k : Nat}, x ∈ listsL l k ↔ List.Sublist x l ∧ x.length = k
  | l, 0 => by
    rw [listsL_zero, List.mem_singleton]
    constructor
    · rintro rfl
      exact ⟨List.nil_sublist _, rfl⟩
    · rintro ⟨_, h⟩
      exact List.eq_nil_of_length_eq_zero h
  | [], k + 1 => by
    constructor
    · intro h
      cases h
    · rintro ⟨h1, h2⟩
      rw [List.sublist_nil.1 h1] at h2
      cases h2
  | y :: l, k + 1 => by
    have i1 := fun x => @listsL_mem x l k
    have i2 := @listsL_mem x l (k + 1)
    unfold listsL
    rw [List.mem_append, List.mem_map, i2]
    constructor
    · rintro (⟨z, hz, rfl⟩ | ⟨h1, h2⟩)
      · obtain ⟨a, b⟩ := (i1 z).1 hz
        exact ⟨a.cons_cons y, by simp [b]⟩
      · exact ⟨h1.cons y, h2⟩
    · rintro ⟨h1, h2⟩
      cases h1 with
      | cons _ h => exact .inr ⟨h, h2⟩
      | cons_cons _ h => exact .inl ⟨_, (i1 _).2 ⟨h, by simpa using h2⟩, rfl⟩
theorem listsL_all : ∀ l : List Tp, listsL l l.length = [l]
  | [] => rfl
  | x :: l => by
    show (listsL l l.length).map (x :: ·) ++ listsL l (l.length + 1) = _
    have h0 : listsL l (l.length + 1) = [] := List.eq_nil_iff_forall_not_mem.2 fun y hy => by
      obtain ⟨h1, h2⟩ := listsL_mem.1 hy
      have := h1.length_le
      omega
    rw [listsL_all l, h0]
    rfl
/-- the first list of a, a + 1 .. of some tests (n rounds) of which something is so -/
def firstUpTo (l : List Tp) (p : List Tp → Bool) : Nat → Nat → Option (List Tp)
  | _, 0 => none
  | a, n + 1 => match (listsL l a).find? p with
    | some x => some x
    | none => firstUpTo l p (a + 1) n
/-- the first of the shortest lists of some tests of which something is so; all of them, if of no shorter one -/
def fewestL (l : List Tp) (p : List Tp → Bool) : List Tp := (firstUpTo l p 0 l.length).getD l
theorem firstUpTo_snoc (l : List Tp) (p : List Tp → Bool) : ∀ n a, firstUpTo l p a (n + 1) = match firstUpTo l p a n with
    | some x => some x
    | none => (listsL l (a + n)).find? p
  | 0, a => by
    simp only [firstUpTo, Nat.add_zero]
    cases (listsL l a).find? p <;> rfl
  | n + 1, a => by
    have ih := firstUpTo_snoc l p n (a + 1)
    rw [show firstUpTo l p a (n + 1 + 1) = (match (listsL l a).find? p with | some x => some x | none => firstUpTo l p (a + 1) (n + 1)) from rfl, ih,
      show firstUpTo l p a (n + 1) = (match (listsL l a).find? p with | some x => some x | none => firstUpTo l p (a + 1) n) from rfl]
    cases (listsL l a).find? p with
    | some x => rfl
    | none => simp only [show a + 1 + n = a + (n + 1) by omega]
theorem fewest_nil (l : List Tp) (p : List Tp → Bool) (h0 : p [] = true) : fewestL l p = [] := by
  cases l with
  | nil => rfl
  | cons x l =>
    unfold fewestL
    show ((match (listsL (x :: l) 0).find? p with | some x => some x | none => firstUpTo (x :: l) p (0 + 1) l.length) : Option _).getD _ = _
    simp [listsL, h0]
theorem firstUpTo_spec (l : List Tp) (p : List Tp → Bool) : ∀ n a, (∀ x, firstUpTo l p a n = some x → List.Sublist x l ∧ p x = true ∧ a ≤ x.length ∧ x.length < a + n ∧ ∀ y, List.Sublist y l → p y = true → a ≤ y.length → x.length ≤ y.length) ∧
    (firstUpTo l p a n = none → ∀ y, List.Sublist y l → p y = true → a ≤ y.length → a + n ≤ y.length)
  | 0, a => ⟨(fun x h => by cases h), fun _ y _ _ h => by omega⟩
  | n + 1, a => by
    obtain ⟨i1, i2⟩ := firstUpTo_spec l p n (a + 1)
    rw [show firstUpTo l p a (n + 1) = (match (listsL l a).find? p with | some x => some x | none => firstUpTo l p (a + 1) n) from rfl]
    cases hf : (listsL l a).find? p with
    | some z =>
      refine ⟨fun x h => ?_, fun h => by cases h⟩
      obtain rfl : z = x := Option.some.inj h
      obtain ⟨h1, h2⟩ := listsL_mem.1 (List.mem_of_find?_eq_some hf)
      exact ⟨h1, List.find?_some hf, by omega, by omega, fun y _ _ hy => by omega⟩
    | none =>
      have hno : ∀ y, List.Sublist y l → p y = true → a ≤ y.length → a + 1 ≤ y.length := fun y h1 h2 h3 => by
        rcases Nat.eq_or_lt_of_le h3 with h4 | h4
        · have := List.find?_eq_none.1 hf y (listsL_mem.2 ⟨h1, h4.symm⟩)
          exact absurd h2 this
        · exact h4
      refine ⟨fun x h => ?_, fun h y h1 h2 h3 => ?_⟩
      · obtain ⟨a1, a2, a3, a4, a5⟩ := i1 x h
        exact ⟨a1, a2, by omega, by omega, fun y h1 h2 h3 => a5 y h1 h2 (hno y h1 h2 h3)⟩
      · have := i2 h y h1 h2 (hno y h1 h2 h3)
        omega
theorem fewest_spec (l : List Tp) (p : List Tp → Bool) (h1 : p l = true) : List.Sublist (fewestL l p) l ∧ p (fewestL l p) = true ∧ ∀ y, List.Sublist y l → p y = true → (fewestL l p).length ≤ y.length := by
  obtain ⟨a, b⟩ := firstUpTo_spec l p l.length 0
  unfold fewestL
  cases hf : firstUpTo l p 0 l.length with
  | some x =>
    obtain ⟨c1, c2, _, _, c5⟩ := a x hf
    exact ⟨c1, c2, fun y h3 h4 => c5 y h3 h4 (Nat.zero_le _)⟩
  | none => exact ⟨List.Sublist.refl _, h1, fun y h3 h4 => by have := b hf y h3 h4 (Nat.zero_le _); simp; omega⟩
end Go.Proofs.YtjpfdhhiofjpbaaGreatDoor

namespace Go.Proofs.YtjpfdhhiofjpbaaGreatDoor
open Go.RowKit Go.Sort
theorem intL0_mem {L : List Int} {k : Nat} (h : k < L.length) : intL0 L k ∈ L := by
  unfold intL0
  rw [List.getElem?_eq_getElem h]
  exact List.getElem_mem h
theorem mem_intL0 {L : List Int} {x : Int} (h : x ∈ L) : ∃ k, k < L.length ∧ intL0 L k = x := by
  obtain ⟨k, hk, he⟩ := List.getElem_of_mem h
  exact ⟨k, hk, by unfold intL0; rw [List.getElem?_eq_getElem hk]; exact he⟩
/-- what a test shows in a world -/
def Qt.F (t : Qt) (i : Int) (x : Tp) : Int := (t.world i.toNat).fall x.1 x.2
def Qt.tests (t : Qt) : List Tp := testsL t.wells.toNat
def Qt.apart (t : Qt) (x : Tp) (a b : Int) : Bool := t.F a x != t.F b x
def Qt.someB (t : Qt) (l : List Tp) (a b : Int) : Bool := l.any fun x => t.apart x a b
theorem apart_comm (t : Qt) (x : Tp) (a b : Int) : t.apart x a b = t.apart x b a := by
  unfold Qt.apart
  by_cases h : t.F a x = t.F b x
  · simp [h]
  · rw [bne_iff_ne.2 h, bne_iff_ne.2 (Ne.symm h)]
theorem someB_comm (t : Qt) (l : List Tp) (a b : Int) : t.someB l a b = t.someB l b a := by
  unfold Qt.someB
  congr 1
  funext x
  exact apart_comm t x a b
theorem someB_iff {t : Qt} {l : List Tp} {a b : Int} : t.someB l a b = true ↔ ∃ x, x ∈ l ∧ t.F a x ≠ t.F b x := by simp [Qt.someB, Qt.apart]
theorem someB_sub {t : Qt} {l l' : List Tp} {a b : Int} (h : ∀ x, x ∈ l → x ∈ l') (hs : t.someB l a b = true) : t.someB l' a b = true := by
  obtain ⟨x, h1, h2⟩ := someB_iff.1 hs
  exact someB_iff.2 ⟨x, h x h1, h2⟩
/-! ### How many tests are enough -/
/-- the worlds of some in which a test shows a fall -/
def Qt.shown (t : Qt) (x : Tp) (L : List Int) (f : Int) : List Int := L.filter fun w => t.F w x == f
end Go.Proofs.YtjpfdhhiofjpbaaGreatDoor

namespace Go.Proofs.YtjpfdhhiofjpbaaGreatDoor
open Go.RowKit Go.Sort
/-! ### What is known -/
theorem cntB_zero {p : Nat → Bool} : ∀ {n : Nat}, cntB p n = 0 ↔ ∀ i, i < n → p i = false
  | 0 => by simp [cntB]
  | n + 1 => by
    have ih := cntB_zero (p := p) (n := n)
    unfold cntB
    split
    · rename_i h
      exact ⟨fun e => by omega, fun e => by rw [e n (by omega)] at h; cases h⟩
    · rename_i h
      rw [ih]
      refine ⟨fun e i hi => ?_, fun e i hi => e i (by omega)⟩
      rcases Nat.lt_or_ge i n with h1 | h1
      · exact e i h1
      · obtain rfl : i = n := by omega
        simpa using h
theorem cntB_all {p : Nat → Bool} : ∀ {n : Nat}, cntB p n = n ↔ ∀ i, i < n → p i = true
  | 0 => by simp [cntB]
  | n + 1 => by
    have ih := cntB_all (p := p) (n := n)
    have hl := cntB_le p n
    unfold cntB
    split
    · rename_i h
      constructor
      · intro e i hi
        rcases Nat.lt_or_ge i n with h1 | h1
        · exact ih.1 (by omega) i h1
        · obtain rfl : i = n := by omega
          exact h
      · intro e
        have := ih.2 fun i hi => e i (by omega)
        omega
    · rename_i h
      exact ⟨fun e => by omega, fun e => absurd (e n (by omega)) h⟩
/-! ### Draws -/
end Go.Proofs.YtjpfdhhiofjpbaaGreatDoor

namespace Go.Proofs.YtjpfdhhiofjpbaaGreatDoor
open Go.RowKit Go.Sort
theorem Elem.cells_len {α : Type} {E : Elem α} (g : E.Good) : ∀ l : List α, (E.cells l).length = l.length * E.size
  | [] => by simp [Elem.cells]
  | x :: l => by
    have ih := Elem.cells_len g l
    unfold Elem.cells at ih ⊢
    rw [List.flatMap_cons, List.length_append, g.len, ih, List.length_cons, Nat.succ_mul, Nat.add_comm]
theorem Elem.cells_get {α : Type} {E : Elem α} (g : E.Good) : ∀ {l : List α} {j : Nat} {x : α} (i : Nat), l[j]? = some x → i < E.size → (E.cells l)[j * E.size + i]? = (E.enc x)[i]?
  | [], j, x, i, h, _ => by simp at h
  | y :: l, 0, x, i, h, hi => by
    obtain rfl : y = x := by simpa using h
    unfold Elem.cells
    rw [List.flatMap_cons, Nat.zero_mul, Nat.zero_add, List.getElem?_append_left (by rw [g.len]; exact hi)]
  | y :: l, j + 1, x, i, h, hi => by
    have ih := Elem.cells_get g (l := l) (j := j) (x := x) i (by simpa using h) hi
    unfold Elem.cells at ih ⊢
    rw [List.flatMap_cons, List.getElem?_append_right (by rw [g.len, Nat.succ_mul]; omega), g.len, Nat.succ_mul, show j * E.size + E.size + i - E.size = j * E.size + i by omega]
    exact ih
section
variable {α : Type} {E : Elem α} {w w' : World} {base : Nat} {v : Value} {l : List α}
theorem OwnE.nil (E : Elem α) (w : World) (base : Nat) : OwnE E w base (.slice none 0 0) [] := World.ownsRow_nil _ _ _ _
/-- a slice that reads as a list -/
def SliceE (E : Elem α) (w : World) (v : Value) (l : List α) : Prop := ∃ A c, v = .slice A l.length c ∧ RowAt w A (E.cells l)
theorem OwnE.read (h : OwnE E w base v l) : SliceE E w v l := by
  rcases Nat.eq_zero_or_pos l.length with h0 | h0
  · obtain rfl := List.eq_nil_of_length_eq_zero h0
    rcases h.2 with ⟨rfl, _⟩ | ⟨g, cap, cur, rfl, _⟩
    · exact ⟨_, _, rfl, .inl rfl⟩
    · exact ⟨_, _, rfl, .inl rfl⟩
  · obtain ⟨A, c, e, hr⟩ := AtHand.row (N := base) (.inr ⟨h0, h⟩)
    exact ⟨A, c, e, hr⟩
theorem RowAt.elem (g : E.Good) {A : Option Addr} (h : RowAt w A (E.cells l)) {j : Nat} {x : α} (hj : l[j]? = some x) : ∃ b o, A = some ⟨b, o, none⟩ ∧ b < w.heap.size ∧ ∀ i u, (E.enc x)[i]? = some u → w.cell? ⟨b, o + (j * E.size + i), none⟩ = some u := by
  have hget := fun i (hi : i < E.size) => Elem.cells_get g (l := l) (j := j) (x := x) i hj hi
  rcases h with h | ⟨b, o, rfl, hlt, hc⟩
  · have h1 := hget 0 g.pos
    rw [h] at h1
    have : (E.enc x).length = E.size := g.len x
    have h2 : (E.enc x)[0]? = some ((E.enc x)[0]'(by rw [this]; exact g.pos)) := List.getElem?_eq_getElem _
    rw [h2] at h1
    simp at h1
  · refine ⟨b, o, rfl, hlt, fun i u hu => hc _ u ?_⟩
    have hi : i < (E.enc x).length := by
      rcases Nat.lt_or_ge i (E.enc x).length with h | h
      · exact h
      · rw [List.getElem?_eq_none h] at hu; cases hu
    rw [hget i (by rw [← g.len x]; exact hi)]
    exact hu
/-- 'append(out, x)' -/
theorem wpList_snocE (g : E.Good) (w : World) {ops : Array Oper} {rest : List Oper} {o : Oper} {a : Act} {Q : Exit → Act → World → Prop} (hg : o.guard = none) (s x : Operand) (hop : o.op = Op.call { callee := Callee.builtin Builtin.append, args := #[s, x], argTypes := #[E.sl, E.sl] })
    (base : Nat) (v : Value) (l : List α) (y : α) (hs : a.eval s = v) (hown : OwnE E w base v l) (b : Nat) (hx : a.eval x = .slice (some ⟨b, 0, none⟩) 1 1) (hc : ∀ i u, (E.enc y)[i]? = some u → w.cell? ⟨b, i, none⟩ = some u) (hlen : l.length ≤ 100000) (hbase : base ≤ w.heap.size)
    (h : ∀ v' w', OwnE E w' base v' (l ++ [y]) → (∀ b0 W, b0 ≤ base → Below b0 W w → Below b0 W w') → w.grownBy w' v.ownBlock → v' ≠ .slice none 0 0 → wpList Tryz.prog ops Q rest (a.put o.dst v') w') : wpList Tryz.prog ops Q (o :: rest) a w := by
  obtain ⟨i0, hi, iz0, iz1, iz2⟩ := info_parts g.info
  refine wpList_append_own w hg s x E.sl hop base E.ty i0 E.z E.size E.bytes g.und hi iz0 iz1 iz2 g.zs g.pos v l.length (E.cells l) hs hown ⟨b, 0, none⟩ 1 1 (E.enc y) hx (by rw [g.len, Nat.one_mul]) (fun j u hj => ?_) (fun u hu => g.one y u hu) (by unfold maxLen; omega) (by have := g.by_; exact Nat.le_trans (Nat.mul_le_mul (show l.length + 1 ≤ 100001 by omega) this) (by decide)) hbase fun v' w' h1 h2 h3 => ?_
  · have := hc j u hj
    rwa [show (⟨b, 0, none⟩ : Addr).add j = ⟨b, j, none⟩ from by unfold Addr.add; split <;> simp_all]
  · refine h v' w' ?_ (fun b0 W hb hB => hB.grown h2 (Nat.le_trans hb hbase) fun k hk => Nat.le_trans hb (hown.lt k hk).1) h2 fun e => ?_
    · show w'.ownsRow base E.ty E.size v' (l ++ [y]).length (E.cells (l ++ [y]))
      rw [List.length_append, show E.cells (l ++ [y]) = E.cells l ++ E.enc y from by simp [Elem.cells]]
      exact h1
    · have := h3.1 e
      omega
end
/-! ### Tests, pairs of worlds -/
def tstE : Elem Tp := { enc := fun x => [.int .i64 x.1, .int .i64 x.2], size := 2, ty := 79, sl := 71, z := .agg #[.int .i64 0, .int .i64 0], bytes := 16 }
theorem tstG : tstE.Good :=
  ⟨by kernel_rfl, Tryz.underlying71, by decide, by decide, fun _ => rfl, fun x u hu => by
    rcases (by simpa [tstE] using hu : u = .int .i64 x.1 ∨ u = .int .i64 x.2) with rfl | rfl <;> rfl, by decide⟩
theorem SliceE.tst {w : World} {A : Option Addr} {l : List Tp} (h : RowAt w A (tstE.cells l)) {j : Nat} {x : Tp} (hj : l[j]? = some x) : ∃ b o, A = some ⟨b, o, none⟩ ∧ b < w.heap.size ∧ w.cell? ⟨b, o + j * 2, none⟩ = some (.int .i64 x.1) ∧ w.cell? ⟨b, o + j * 2 + 1, none⟩ = some (.int .i64 x.2) := by
  obtain ⟨b, o, h1, h2, h3⟩ := RowAt.elem tstG h hj
  exact ⟨b, o, h1, h2, h3 0 _ rfl, h3 1 _ rfl⟩
end Go.Proofs.YtjpfdhhiofjpbaaGreatDoor

namespace Go.Proofs.YtjpfdhhiofjpbaaGreatDoor
open Go.RowKit Go.Sort
theorem fallAt_F (t : Qt) (i p q : Nat) : t.fallAt i p q = t.F (i : Int) (p, q) := by
  unfold Qt.fallAt Qt.F
  rw [Int.toNat_natCast, Int.toNat_natCast, Int.toNat_natCast]
end Go.Proofs.YtjpfdhhiofjpbaaGreatDoor

namespace Go.Proofs.YtjpfdhhiofjpbaaGreatDoor
open Go.RowKit Go.Sort
def Qt.testB (t : Qt) (p q : Int) : Bool := t.wellB p && t.wellB q
set_option maxHeartbeats 2000000 in
theorem isTest5_any (Aw Af : Option Addr) (cw cf : Nat) (t : Qt) (p q : Int) (w : World) :
    Calls Tryz.prog 63 #[.agg #[.int .i64 t.wells, .slice Aw t.nw cw, .slice Af t.nf cf], .agg #[.int .i64 p, .int .i64 q]] w fun e w' => e = .returned (.bool (t.testB p q)) ∧ Below w.heap.size w w' := by
  unfold Qt.testB
  obtain ⟨b1, h1⟩ : ∃ b, t.wellB p = b := ⟨_, rfl⟩
  obtain ⟨b2, h2⟩ : ∃ b, t.wellB q = b := ⟨_, rfl⟩
  have HC1 := Lib.hid (fun w => h1 ▸ isWell5_any Aw Af cw cf t p w : ∀ w : World, Calls Tryz.prog 116 #[.agg #[.int .i64 t.wells, .slice Aw t.nw cw, .slice Af t.nf cf], .int .i64 p] w fun e w' => e = .returned (.bool b1) ∧ Below w.heap.size w w')
  have HC2 := Lib.hid (fun w => h2 ▸ isWell5_any Aw Af cw cf t q w : ∀ w : World, Calls Tryz.prog 116 #[.agg #[.int .i64 t.wells, .slice Aw t.nw cw, .slice Af t.nf cf], .int .i64 q] w fun e w' => e = .returned (.bool b2) ∧ Below w.heap.size w w')
  rw [h1, h2]
  clear h1 h2
  have HB := Lib.hid (bAlloc (bAlloc (Below.refl w.heap.size w) (.cells #[.int .i64 t.wells, .slice Aw t.nw cw, .slice Af t.nf cf] 25)) (.cells #[.int .i64 p, .int .i64 q] 79))
  go_enter Tryz.func63, Tryz.ntmps63
  go_wp2_with fail
  refine (HC1.out _).mono ?_
  rintro e w1 ⟨rfl, hb1⟩
  obtain ⟨bc1, bf1⟩ := bcell hb1
  have hz1 := hb1.size
  simp only [World.size_alloc] at hz1
  have hy1 : w.heap.size < w1.heap.size := by omega
  have hy2 : w.heap.size + 1 < w1.heap.size := by omega
  have HB1 := Lib.hid (bTrans HB.out hb1)
  clear hb1
  rcases two_ways b1 b2 with rfl | ⟨rfl, rfl⟩ | ⟨rfl, rfl⟩
  · go_wp2_with fail
    go_ret
    exact ⟨ret_bool (by simp), HB1.out⟩
  all_goals
    go_wp2_with fail
    refine (HC2.out _).mono ?_
    rintro e w2 ⟨rfl, hb2⟩
    have HB2 := Lib.hid (bTrans HB1.out hb2)
    clear hb2
    go_wp2_with fail
    go_ret
    exact ⟨ret_bool (by simp), HB2.out⟩
end Go.Proofs.YtjpfdhhiofjpbaaGreatDoor

namespace Go.Proofs.YtjpfdhhiofjpbaaGreatDoor
open Go.RowKit Go.Sort
/-- tests of a town -/
def Qt.TestsOk (t : Qt) (l : List Tp) : Prop := ∀ x, x ∈ l → (x.1 : Int) < t.wells ∧ (x.2 : Int) < t.wells
def tget (l : List Tp) (i : Nat) : Tp := l[i]?.getD (0, 0)
theorem tget_mem {l : List Tp} {i : Nat} (h : i < l.length) : tget l i ∈ l := by
  unfold tget
  rw [List.getElem?_eq_getElem h]
  exact List.getElem_mem h
theorem tget_some {l : List Tp} {i : Nat} (h : i < l.length) : l[i]? = some (tget l i) := by
  unfold tget
  rw [List.getElem?_eq_getElem h]
  rfl
theorem any_tget (l : List Tp) (p : Tp → Bool) : anyB (fun i => p (tget l i)) l.length = l.any p := by
  refine Bool.eq_iff_iff.2 ?_
  rw [anyB_true, List.any_eq_true]
  constructor
  · rintro ⟨i, hi, h⟩
    exact ⟨_, tget_mem hi, h⟩
  · rintro ⟨x, hx, h⟩
    obtain ⟨i, hi, rfl⟩ := List.getElem_of_mem hx
    exact ⟨i, hi, by unfold tget; rw [List.getElem?_eq_getElem hi]; exact h⟩
end Go.Proofs.YtjpfdhhiofjpbaaGreatDoor

namespace Go.Proofs.YtjpfdhhiofjpbaaGreatDoor
open Go.RowKit Go.Sort
/-- 'append(l[:len(l):len(l)], x)': always new memory -/
theorem stir_full {α : Type} {E : Elem α} (g : E.Good) {o : Oper} {a : Act} (w : World) (s x : Operand) (hop : o.op = Op.call { callee := Callee.builtin Builtin.append, args := #[s, x], argTypes := #[E.sl, E.sl] })
    (A : Option Addr) (l : List α) (y : α) (hs : a.eval s = .slice A l.length l.length) (hA : A = none → l = []) (hr : RowAt w A (E.cells l)) (b : Nat) (hx : a.eval x = .slice (some ⟨b, 0, none⟩) 1 1) (hc : ∀ i u, (E.enc y)[i]? = some u → w.cell? ⟨b, i, none⟩ = some u) (hlen : l.length ≤ 100000) (N : Nat) (hN : N ≤ w.heap.size) :
    Oper.stirAt Tryz.prog o a w Newer (fun w' v => ShapeOf (l.length + 1) v ∧ OwnE E w' N v (l ++ [y])) := by
  obtain ⟨i0, hi, iz0, iz1, iz2⟩ := info_parts g.info
  have hby : (l.length + 1) * E.bytes ≤ 140737488355328 := by have := g.by_; exact Nat.le_trans (Nat.mul_le_mul (show l.length + 1 ≤ 100001 by omega) this) (by decide)
  have h63 : l.length + 1 ≤ maxLen := by unfold maxLen; omega
  have hnews : ∀ j u, (E.enc y)[j]? = some u → w.cell? ((⟨b, 0, none⟩ : Addr).add j) = some u := fun j u h => by
    rw [show (⟨b, 0, none⟩ : Addr).add j = ⟨b, j, none⟩ from by unfold Addr.add; split <;> simp_all]; exact hc j u h
  have hl1 : (E.enc y).length = 1 * E.size := by rw [g.len, Nat.one_mul]
  have fin : ∀ v' w', (Builtin.append_ #[E.sl, E.sl] o.type #[.slice A l.length l.length, .slice (some ⟨b, 0, none⟩) 1 1]).run Tryz.prog w = .ok v' w' → Below w.heap.size w w' → w'.ownsRow N E.ty E.size v' (l.length + 1) (E.cells l ++ E.enc y) → Oper.stirAt Tryz.prog o a w Newer (fun w' v => ShapeOf (l.length + 1) v ∧ OwnE E w' N v (l ++ [y])) := fun v' w' hrun hb hown => by
    unfold Oper.stirAt
    simp only [execOp, hop, resolve, invoke, builtin, List.map_toArray, List.map_cons, List.map_nil, hs, hx, hrun, Result.andThen, Sem.run_bind, Sem.run_pure, Oper.stirUpon]
    obtain ⟨g', cap, hg⟩ := owns_form hown (by omega)
    refine ⟨hb, ⟨g', cap, hg⟩, ?_⟩
    show w'.ownsRow N E.ty E.size v' (l ++ [y]).length (E.cells (l ++ [y]))
    rw [List.length_append, show E.cells (l ++ [y]) = E.cells l ++ E.enc y from by simp [Elem.cells]]
    exact hown
  cases A with
  | none =>
    obtain rfl := hA rfl
    obtain ⟨v', w', hr', h2, h3, _⟩ := run_append_own (P := Tryz.prog) w N E.sl o.type E.ty i0 E.z E.size E.bytes g.und hi iz0 iz1 iz2 g.zs g.pos (.slice none 0 0) 0 [] (World.ownsRow_nil _ _ _ _) ⟨b, 0, none⟩ 1 1 (E.enc y) hl1 hnews (g.one y) (by simpa using h63) (by simpa using hby) hN
    exact fin v' w' hr' (below_grown h3) (by simpa [Elem.cells] using h2)
  | some ad =>
    have holds : ∀ j u, (E.cells l)[j]? = some u → w.cell? (ad.add j) = some u := fun j u h => by
      rcases hr with hr | ⟨b', o', e, hlt, hc'⟩
      · rw [hr] at h; simp at h
      · obtain rfl : ad = ⟨b', o', none⟩ := Option.some.inj e
        rw [show (⟨b', o', none⟩ : Addr).add j = ⟨b', o' + j, none⟩ from by unfold Addr.add; split <;> simp_all]
        exact hc' j u h
    obtain ⟨v', w', hrun, hown, hg⟩ := run_append_arg_grows (P := Tryz.prog) w E.sl o.type E.ty i0 E.z E.size E.bytes g.und hi iz0 iz1 iz2 g.zs g.pos ad l.length l.length (E.cells l) (Elem.cells_len g l) holds ⟨b, 0, none⟩ 1 1 (E.enc y) hl1 hnews (by omega) h63 hby
    exact fin v' w' hrun (below_grown hg) (owns_lower hown hN)
/-- a slice of tests that one may read and go on with -/
def LstAt (w : World) (A : Option Addr) (c : Nat) (l : List Tp) : Prop :=
  (l = [] ∧ A = none ∧ c = 0) ∨ (l ≠ [] ∧ (∃ g, A = some ⟨g, 0, none⟩) ∧ RowAt w A (tstE.cells l) ∧ l.length ≤ c ∧ c ≤ 9223372036854775807)
theorem LstAt.mono {w w' : World} {A : Option Addr} {c : Nat} {l : List Tp} (h : LstAt w A c l) (hb : Below w.heap.size w w') : LstAt w' A c l :=
  h.imp id fun ⟨h1, h2, h3, h4⟩ => ⟨h1, h2, h3.mono hb, h4⟩
theorem LstAt.row {w : World} {A : Option Addr} {c : Nat} {l : List Tp} (h : LstAt w A c l) : RowAt w A (tstE.cells l) := by
  rcases h with ⟨rfl, _⟩ | ⟨_, _, h, _⟩
  · exact .inl rfl
  · exact h
theorem LstAt.cap {w : World} {A : Option Addr} {c : Nat} {l : List Tp} (h : LstAt w A c l) : l.length ≤ c ∧ c ≤ 9223372036854775807 := by
  rcases h with ⟨rfl, _, rfl⟩ | ⟨_, _, _, h⟩
  · exact ⟨Nat.le_refl _, by omega⟩
  · exact h
theorem LstAt.none {w : World} {A : Option Addr} {c : Nat} {l : List Tp} (h : LstAt w A c l) : A = none → l = [] := by
  rcases h with ⟨rfl, _⟩ | ⟨_, ⟨g, rfl⟩, _⟩
  · exact fun _ => rfl
  · intro h; cases h
theorem OwnE.lst {w : World} {base : Nat} {v : Value} {l : List Tp} (h : OwnE tstE w base v l) (h0 : l ≠ []) : ∃ g c, v = .slice (some ⟨g, 0, none⟩) l.length c ∧ LstAt w (some ⟨g, 0, none⟩) c l := by
  obtain ⟨A, c, e, hr⟩ := h.read
  have hp : 0 < l.length := List.length_pos_iff.2 h0
  rcases h.2 with ⟨rfl, h1⟩ | ⟨g, cap, cur, rfl, _, _, h3, h4, _⟩
  · omega
  · injection e with e1 _ e2
    subst e1 e2
    exact ⟨g, _, rfl, .inr ⟨h0, ⟨g, rfl⟩, hr, h3, by unfold maxLen at h4; omega⟩⟩
/-- the first list behind others -/
theorem find_step {Z : List Tp} {i : Nat} {x : Tp} {P : List Tp → Bool} {k : Nat} (h : Z[i]? = some x) : (listsL (Z.drop i) (k + 1)).find? P = match (listsL (Z.drop (i + 1)) k).find? (fun y => P (x :: y)) with
    | some y => some (x :: y)
    | none => (listsL (Z.drop (i + 1)) (k + 1)).find? P := by
  have e : Z.drop i = x :: Z.drop (i + 1) := by
    obtain ⟨hi, rfl⟩ := List.getElem?_eq_some_iff.1 h
    exact List.drop_eq_getElem_cons hi
  rw [e]
  show ((listsL (Z.drop (i + 1)) k).map (x :: ·) ++ listsL (Z.drop (i + 1)) (k + 1)).find? P = _
  rw [List.find?_append, List.find?_map]
  show (((listsL (Z.drop (i + 1)) k).find? (fun y => P (x :: y))).map (x :: ·)).or _ = _
  cases (listsL (Z.drop (i + 1)) k).find? (fun y => P (x :: y)) <;> rfl
theorem find_end {Z : List Tp} {P : List Tp → Bool} {k i : Nat} (h : Z.length ≤ i) : (listsL (Z.drop i) (k + 1)).find? P = none := by
  rw [List.drop_eq_nil_of_le h]
  rfl
end Go.Proofs.YtjpfdhhiofjpbaaGreatDoor

namespace Go.Proofs.YtjpfdhhiofjpbaaGreatDoor
open Go.RowKit Go.Sort
def oneS (v : Value) : Prop := ∃ b, v = .slice (some ⟨b, 0, none⟩) 1 1
def oneR (x : Tp) (w : World) (v : Value) : Prop := ∀ b, v = .slice (some ⟨b, 0, none⟩) 1 1 → b < w.heap.size ∧ ∀ i u, (tstE.enc x)[i]? = some u → w.cell? ⟨b, i, none⟩ = some u
theorem oneG (x : Tp) : (Stir.held oneS (oneR x)).good := ⟨⟨_, 0, rfl⟩, fun _ _ _ hb h b e => ⟨Nat.lt_of_lt_of_le (h b e).1 hb.size, fun i u hu => (hb.cell (p := ⟨b, i, none⟩) (h b e).1).trans ((h b e).2 i u hu)⟩⟩
theorem ownG (n N : Nat) (l : List Tp) : (Stir.held (ShapeOf n) (fun w v => OwnE tstE w N v l)).good := ⟨⟨_, 0, 0, rfl⟩, fun _ _ _ hb h => OwnE.mono h hb⟩
theorem oneR_new (x : Tp) (w : World) : oneR x (w.alloc (.cells #[.int .i64 x.1, .int .i64 x.2] 79)) (.slice (some ⟨w.heap.size, 0, none⟩) 1 1) := fun b e => by
  obtain rfl : w.heap.size = b := by simpa using e
  refine ⟨by simp, fun i u hu => ?_⟩
  match i, hu with
  | 0, hu =>
    obtain rfl : Value.int .i64 x.1 = u := by simpa [tstE] using hu
    simp [go_sem]
  | 1, hu =>
    obtain rfl : Value.int .i64 x.2 = u := by simpa [tstE] using hu
    simp [go_sem]
end Go.Proofs.YtjpfdhhiofjpbaaGreatDoor

namespace Go.Proofs.YtjpfdhhiofjpbaaGreatDoor
open Go.RowKit Go.Sort
theorem firstUpTo_keep {Z : List Tp} {p : List Tp → Bool} {x : List Tp} {k : Nat} (h : firstUpTo Z p 0 k = some x) : ∀ m, firstUpTo Z p 0 (k + m) = some x
  | 0 => h
  | m + 1 => by rw [← Nat.add_assoc, firstUpTo_snoc, firstUpTo_keep h m]
theorem first_found {Z : List Tp} {p : List Tp → Bool} {x : List Tp} {k : Nat} (h0 : firstUpTo Z p 0 k = none) (h1 : (listsL Z k).find? p = some x) (hk : k ≤ Z.length) : fewestL Z p = x := by
  have h2 : firstUpTo Z p 0 (k + 1) = some x := by
    rw [firstUpTo_snoc, h0, Nat.zero_add]
    exact h1
  unfold fewestL
  rcases Nat.eq_or_lt_of_le hk with e | e
  · subst e
    rw [h0]
    rw [listsL_all, List.find?_cons] at h1
    split at h1
    · exact Option.some.inj h1
    · simp at h1
  · obtain ⟨m, hm⟩ : ∃ m, Z.length = k + 1 + m := ⟨Z.length - k - 1, by omega⟩
    rw [hm, firstUpTo_keep h2 m]
    rfl
end Go.Proofs.YtjpfdhhiofjpbaaGreatDoor

namespace Go.Proofs.YtjpfdhhiofjpbaaGreatDoor
open Go.RowKit Go.Sort Go.Shelf
attribute [local go_sem] Oper.semAt_some
/-- the tests ahead of one -/
def testsTo (m p q : Nat) : List Tp := ((List.range p).flatMap fun p => (List.range m).map fun q => (p, q)) ++ (List.range q).map fun q => (p, q)
theorem testsTo_snoc (m p q : Nat) : testsTo m p (q + 1) = testsTo m p q ++ [(p, q)] := by
  unfold testsTo
  rw [List.range_succ, List.map_append, List.append_assoc]
  rfl
theorem testsTo_row (m p : Nat) : testsTo m p m = testsTo m (p + 1) 0 := by
  unfold testsTo
  rw [List.range_succ, List.flatMap_append]
  simp
theorem testsTo_all (m : Nat) : testsTo m m 0 = testsL m := by
  unfold testsTo testsL
  simp
theorem testsTo_len (m p q : Nat) : (testsTo m p q).length = p * m + q := by
  unfold testsTo
  rw [List.length_append, flat_len (m := m) (fun p => by simp)]
  simp
end Go.Proofs.YtjpfdhhiofjpbaaGreatDoor

namespace Go.Proofs.YtjpfdhhiofjpbaaGreatDoor
open Go.RowKit Go.Sort Go.Shelf
def ShapeL (n : Nat) (v : Value) : Prop := ∃ A c, v = .slice A n c
end Go.Proofs.YtjpfdhhiofjpbaaGreatDoor

namespace Go.Proofs.YtjpfdhhiofjpbaaGreatDoor
open Go.RowKit Go.Sort Go.ChangeShapes Go.WideShapes Go.ChangeAt Go.Deep
section
variable {H : Type} {enc : TypeId × Value → H} {P : Program}
end
section
variable {H : Type} {enc : TypeId × Value → H} {P : Program} {w : World} {base : Nat} {sp : Nat → Bool} {held : Bool}
/-! ### What fits into memory -/
end
theorem int_wf {n : Int} (h : (Lit.int .i64 n).wf = true) : -9223372036854775808 ≤ n ∧ n ≤ 9223372036854775807 := by
  simp only [Lit.wf, Bool.and_eq_true, decide_eq_true_eq] at h
  exact h
section
variable {H : Type} {enc : TypeId × Value → H} {P : Program} {w : World} {base b0 : Nat} {r : Reach} {sp : Nat → Bool} {held : Bool}
def InI (n : Int) : Prop := -9223372036854775808 ≤ n ∧ n ≤ 9223372036854775807
theorem struct3_in {t ti : TypeId} {f0 f1 f2 : Field} {v : Value} {d : DataW H} {p : List MemPlace} (ht : P.underlying t = some (.struct #[f0, f1, f2])) (hone : oneCellFields P #[f0, f1, f2] = true && (f0.type == ti && f1.type == ti && f2.type == ti) && P.cellsOf t == 3)
    (hi : P.underlying ti = some (.int .i64)) (hv : Value.okWide P w r b0 t v) (h : DataW.Trod enc P w base sp held t v d p) : ∃ a b c, v = .agg #[.int .i64 a, .int .i64 b, .int .i64 c] ∧ InI a ∧ InI b ∧ InI c := by
  simp only [Bool.and_eq_true, beq_iff_eq, decide_eq_true_eq] at hone
  obtain ⟨⟨ho, ⟨e0, e1⟩, e2⟩, hC⟩ := hone
  obtain ⟨cs, rfl, hsz⟩ := okWide_struct ht hv
  obtain ⟨l⟩ := cs
  obtain ⟨fuel, hf⟩ := h
  obtain ⟨xs, n, _, hx, hlen, hxl, hg⟩ := DataW.trod_struct ht hf
  obtain ⟨o0, k0⟩ := hone_of ho 0 f0 rfl
  obtain ⟨o1, k1⟩ := hone_of ho 1 f1 rfl
  obtain ⟨o2, k2⟩ := hone_of ho 2 f2 rfl
  match l, hsz.trans hC, xs, hxl with
  | [c0, c1, c2], _, [y0, y1, y2], _ =>
    have g0 := hg 0 f0 rfl
    have g1 := hg 1 f1 rfl
    have g2 := hg 2 f2 rfl
    rw [o0, k0, e0] at g0
    rw [o1, k1, e1] at g1
    rw [o2, k2, e2] at g2
    simp only [Value.cells, List.drop_zero, List.take_succ_cons, List.take_zero, List.drop_succ_cons, List.getElem?_cons_zero, List.getElem?_cons_succ] at g0 g1 g2
    obtain ⟨a, h0, _, w0⟩ := DataW.trod_int hi g0
    obtain ⟨b, h1, _, w1⟩ := DataW.trod_int hi g1
    obtain ⟨c, h2, _, w2⟩ := DataW.trod_int hi g2
    injection h0 with h0
    injection h1 with h1
    injection h2 with h2
    subst h0 h1 h2
    exact ⟨a, b, c, rfl, int_wf w0, int_wf w1, int_wf w2⟩
end

/-! ### The table of math/bits that is listed -/
end Go.Proofs.YtjpfdhhiofjpbaaGreatDoor

namespace Go.Proofs.YtjpfdhhiofjpbaaGreatDoor
open Go.RowKit Go.Sort
theorem CopyAt9.mono {w w' : World} {base : Nat} {vW vF vO vP vS : Value} {t : Pt} (h : CopyAt9 w base vW vF vO vP vS t) (hb : Below w.heap.size w w') : CopyAt9 w' base vW vF vO vP vS t := by
  obtain ⟨h1, h2, h3, us, h4, h5⟩ := h
  exact ⟨h1.mono hb, owns_below h2 hb, owns_below h3 hb, us, owns_below h4 hb, h5.mono hb⟩
theorem CopyAt9.lower {w : World} {base base' : Nat} {vW vF vO vP vS : Value} {t : Pt} (h : CopyAt9 w base vW vF vO vP vS t) (hb : base' ≤ base) : CopyAt9 w base' vW vF vO vP vS t := by
  obtain ⟨h1, h2, h3, us, h4, h5⟩ := h
  exact ⟨h1.lower hb, owns_lower h2 hb, owns_lower h3 hb, us, owns_lower h4 hb, h5⟩
end Go.Proofs.YtjpfdhhiofjpbaaGreatDoor

namespace Go.Proofs.YtjpfdhhiofjpbaaGreatDoor
open Go.RowKit Go.Sort
section
variable {w : World} {b : Nat} {t : TypeId}
theorem TBox.c3 {x y z : Value} (h : TBox w b t #[x, y, z]) : w.cell? ⟨b, 0, none⟩ = some x ∧ w.cell? ⟨b, 1, none⟩ = some y ∧ w.cell? ⟨b, 2, none⟩ = some z ∧ b < w.heap.size := ⟨h.cell 0, h.cell 1, h.cell 2, h.lt⟩
theorem TBox.c5 {x y z u v : Value} (h : TBox w b t #[x, y, z, u, v]) : w.cell? ⟨b, 0, none⟩ = some x ∧ w.cell? ⟨b, 1, none⟩ = some y ∧ w.cell? ⟨b, 2, none⟩ = some z ∧ w.cell? ⟨b, 3, none⟩ = some u ∧ w.cell? ⟨b, 4, none⟩ = some v ∧ b < w.heap.size := ⟨h.cell 0, h.cell 1, h.cell 2, h.cell 3, h.cell 4, h.lt⟩
end
theorem wpList_skip {P : Program} {ops : Array Oper} {Q : Exit → Act → World → Prop} {rest : List Oper} {o : Oper} {a : Act} {w w'' : World} (hg : o.guard = none) (hd : o.dst = none) (hrun : (execOp a.eval o).run P w = .ok .skip w'') (h : wpList P ops Q rest a w'') : wpList P ops Q (o :: rest) a w := by
  simp only [wpList]
  have hw : Region.wanted o (yielded ops a.tmps) = true := by unfold Region.wanted; rw [hg]
  rw [if_pos hw]
  refine .inl ?_
  unfold Oper.wp
  rw [hrun]
  simp only [Oper.upon]
  rw [hd]
  exact h
end Go.Proofs.YtjpfdhhiofjpbaaGreatDoor

namespace Go.Proofs.YtjpfdhhiofjpbaaGreatDoor
open Go.RowKit Go.Sort
/-! ### One fact more -/
def Qt.add (t : Qt) (f : Fact) : Qt := ⟨t.wells, t.nw, t.world, t.nf + 1, fun i => if i < t.nf then t.fact i else f⟩
theorem leftB_add (t : Qt) (f : Fact) (i : Nat) : (t.add f).leftB i = (t.leftB i && (t.world i).agrees f) := by
  unfold Qt.leftB
  show (!(anyB (fun j => !(t.world i).agrees (if j < t.nf then t.fact j else f)) t.nf || !(t.world i).agrees (if t.nf < t.nf then t.fact t.nf else f))) = _
  rw [if_neg (Nat.lt_irrefl _), anyB_congr (q := fun j => !(t.world i).agrees (t.fact j)) fun j hj => by rw [if_pos hj]]
  simp
theorem leftTo_add (t : Qt) (f : Fact) : ∀ n, (t.add f).leftTo n = (t.leftTo n).filter fun a => (t.world a.toNat).agrees f
  | 0 => rfl
  | n + 1 => by
    have ih := leftTo_add t f n
    unfold Qt.leftTo
    rw [leftB_add, ih]
    cases t.leftB n
    · simp
    · cases h : (t.world n).agrees f <;> simp [h]
theorem leftL_add (t : Qt) (f : Fact) : (t.add f).leftL = t.leftL.filter fun a => (t.world a.toNat).agrees f := leftTo_add t f t.nw
/-- what a test has shown, as a fact -/
def shownF (x : Tp) (f : Int) : Fact := ⟨x.1, 1, x.2, f, f⟩
theorem agrees_shown (t : Qt) (x : Tp) (f : Int) (a : Int) : (t.world a.toNat).agrees (shownF x f) = (t.F a x == f) := by
  unfold Wd.agrees shownF Qt.F
  simp only [Int.toNat_natCast, Int.mul_one]
  unfold inR
  refine Bool.eq_iff_iff.2 ?_
  simp only [Bool.and_eq_true, decide_eq_true_eq, beq_iff_eq]
  omega
theorem leftL_shown (t : Qt) (x : Tp) (f : Int) : (t.add (shownF x f)).leftL = t.shown x t.leftL f := by
  rw [leftL_add]
  unfold Qt.shown
  congr 1
  funext a
  exact agrees_shown t x f a
/-! ### One world more -/
/-! ### Another order -/
/-! ### Fewer worlds: spans, and what is known -/
end Go.Proofs.YtjpfdhhiofjpbaaGreatDoor

namespace Go.Proofs.YtjpfdhhiofjpbaaGreatDoor
open Go.RowKit Go.Sort
/-! ### Tests in order -/
def lexLt (x y : Tp) : Prop := x.1 < y.1 ∨ (x.1 = y.1 ∧ x.2 < y.2)
theorem range_pair (n : Nat) : (List.range n).Pairwise (· < ·) := by
  induction n with
  | zero => simp
  | succ n ih =>
    rw [List.range_succ, List.pairwise_append]
    exact ⟨ih, by simp, fun a ha b hb => by simp at ha hb; omega⟩
theorem testsL_pair (m : Nat) : (testsL m).Pairwise lexLt := by
  have key : ∀ k, ((List.range k).flatMap fun p => (List.range m).map fun q => (p, q)).Pairwise lexLt := fun k => by
    induction k with
    | zero => simp
    | succ k ih =>
      rw [List.range_succ, List.flatMap_append, List.pairwise_append]
      refine ⟨ih, ?_, fun a ha b hb => ?_⟩
      · simp only [List.flatMap_cons, List.flatMap_nil, List.append_nil]
        rw [List.pairwise_map]
        exact (range_pair m).imp fun h => .inr ⟨rfl, h⟩
      · simp only [List.flatMap_cons, List.flatMap_nil, List.append_nil, List.mem_map] at hb
        obtain ⟨q, _, rfl⟩ := hb
        obtain ⟨p, hp, ha⟩ := List.mem_flatMap.1 ha
        obtain ⟨q', _, rfl⟩ := List.mem_map.1 ha
        exact .inl (by simpa using hp)
  exact key m
theorem tests_pair (t : Qt) : t.tests.Pairwise lexLt := testsL_pair _
/-- tests of a town, in order -/
theorem sub_tests {t : Qt} {l : List Tp} (h : List.Sublist l t.tests) : (∀ x, x ∈ l → x ∈ t.tests) ∧ l.length ≤ t.wells.toNat * t.wells.toNat ∧ l.Pairwise lexLt :=
  ⟨fun x hx => h.subset hx, by have := h.length_le; unfold Qt.tests at this; rw [testsL_len] at this; exact this, (tests_pair t).sublist h⟩
/-! ### The fewest tests -/
/-! ### The next test -/
/-! ### The tests that decide -/
/-- with what some tests show in a world, as facts -/
def Qt.addAll (t : Qt) (a : Int) (l : List Tp) : Qt := l.foldl (fun s x => s.add (shownF x (t.F a x))) t
theorem addAll_same (t : Qt) (a : Int) : ∀ (l : List Tp) (s : Qt), (l.foldl (fun s x => s.add (shownF x (t.F a x))) s).wells = s.wells ∧ (l.foldl (fun s x => s.add (shownF x (t.F a x))) s).world = s.world ∧ (l.foldl (fun s x => s.add (shownF x (t.F a x))) s).nw = s.nw ∧ (l.foldl (fun s x => s.add (shownF x (t.F a x))) s).nf = s.nf + l.length
  | [], s => ⟨rfl, rfl, rfl, rfl⟩
  | x :: l, s => by
    obtain ⟨h1, h2, h3, h4⟩ := addAll_same t a l (s.add (shownF x (t.F a x)))
    exact ⟨h1, h2, h3, by
      simp only [List.foldl_cons, List.length_cons]
      rw [h4]
      show s.nf + 1 + l.length = _
      omega⟩
theorem F_same {t t' : Qt} (h : t.world = t'.world) (a : Int) (x : Tp) : t.F a x = t'.F a x := by unfold Qt.F; rw [h]
theorem addAll_left (t : Qt) (a : Int) : ∀ (l : List Tp) (s : Qt), s.world = t.world → (l.foldl (fun s x => s.add (shownF x (t.F a x))) s).leftL = s.leftL.filter fun b => l.all fun x => t.F b x == t.F a x
  | [], s, _ => by
    show s.leftL = s.leftL.filter fun b => [].all fun x => t.F b x == t.F a x
    exact (List.filter_eq_self.2 fun _ _ => rfl).symm
  | x :: l, s, h => by
    rw [List.foldl_cons, addAll_left t a l (s.add (shownF x (t.F a x))) h, leftL_shown]
    unfold Qt.shown
    rw [List.filter_filter]
    congr 1
    funext b
    rw [F_same h, List.all_cons, Bool.and_comm]
end Go.Proofs.YtjpfdhhiofjpbaaGreatDoor

namespace Go.Proofs.YtjpfdhhiofjpbaaGreatDoor
open Go.RowKit Go.Sort
theorem factL_snoc (t : Qt) (f : Fact) : factL (t.add f).fact (t.nf + 1) = factL t.fact t.nf ++ [.int .i64 f.from_, .int .i64 f.many, .int .i64 f.to_, .int .i64 f.low, .int .i64 f.high] := by
  unfold factL
  show catL _ t.nf ++ _ = _
  have e1 : (t.add f).fact t.nf = f := if_neg (Nat.lt_irrefl _)
  congr 1
  · exact catL_congr t.nf fun i hi => by rw [show (t.add f).fact i = t.fact i from if_pos hi]
  · simp only [e1]
set_option maxHeartbeats 4000000 in
set_option maxRecDepth 100000 in
theorem told5_any (Aw Af : Option Addr) (cw cf : Nat) (t : Qt) (f : Fact) (w : World) (hf : t.Fits) (hT : QAt w Aw Af t) :
    Calls Tryz.prog 109 #[.agg #[.int .i64 t.wells, .slice Aw t.nw cw, .slice Af t.nf cf], .agg #[.int .i64 f.from_, .int .i64 f.many, .int .i64 f.to_, .int .i64 f.low, .int .i64 f.high]] w fun e w' => CopyOut w' w.heap.size (t.add f) e ∧ Below w.heap.size w w' := by
  have hb2 := bAlloc (bAlloc (bAlloc (Below.refl w.heap.size w) (.cells #[.int .i64 t.wells, .slice Aw t.nw cw, .slice Af t.nf cf] 25)) (.cells #[.int .i64 f.from_, .int .i64 f.many, .int .i64 f.to_, .int .i64 f.low, .int .i64 f.high] 64)) (.cells #[.int .i64 0, .slice none 0 0, .slice none 0 0] 25)
  have HT := Lib.hid (hT.mono hb2)
  have HB := Lib.hid hb2
  have HF := Lib.hid hf
  have HTR := Lib.hid (TBox.new ((w.alloc (.cells #[.int .i64 t.wells, .slice Aw t.nw cw, .slice Af t.nf cf] 25)).alloc (.cells #[.int .i64 f.from_, .int .i64 f.many, .int .i64 f.to_, .int .i64 f.low, .int .i64 f.high] 64)) #[.int .i64 0, .slice none 0 0, .slice none 0 0] 25)
  clear hT hb2 hf
  obtain ⟨i0, hi, iz0, iz1, iz2⟩ := info_parts infoFact
  go_enter Tryz.func109, Tryz.ntmps109
  go_wp2_with fail
  refine (copy5_any _ _ _ _ t _ HF.out HT.out).mono ?_
  rintro e w1 ⟨⟨vW, vF, rfl, hc⟩, hb1⟩
  obtain ⟨A1, c1, A2, c2, rfl, rfl, _⟩ := hc.qat
  have HC := Lib.hid hc
  have HB1 := Lib.hid hb1
  obtain ⟨bc1, bf1⟩ := bcell hb1
  have hz1 := hb1.size
  simp only [World.size_alloc] at hz1
  have hy1 : w.heap.size < w1.heap.size := by omega
  have hy2 : w.heap.size + 1 < w1.heap.size := by omega
  have hy3 : w.heap.size + 1 + 1 < w1.heap.size := by omega
  have HX1 := Lib.hid (TBox.new w1 #[.int .i64 t.wells, .slice A1 t.nw c1, .slice A2 t.nf c2] 25)
  have HN := Lib.hid (show (t.nf + 1) * 40 ≤ 140737488355328 by have := HF.out.2.1; omega)
  have hbase := HB1.out.size
  simp only [World.size_alloc] at hbase
  clear hc hb1
  have HO2 := Lib.hid (show ((w1.alloc (.cells #[.int .i64 t.wells, .slice A1 t.nw c1, .slice A2 t.nf c2] 25)).alloc (.cells #[.int .i64 f.from_, .int .i64 f.many, .int .i64 f.to_, .int .i64 f.low, .int .i64 f.high] 64)).ownsRow (w.heap.size + 1 + 1 + 1) 64 5 (.slice A2 t.nf c2) t.nf (factL t.fact t.nf) by
    have := (HC.out.facts.alloc (.cells #[.int .i64 t.wells, .slice A1 t.nw c1, .slice A2 t.nf c2] 25)).alloc (.cells #[.int .i64 f.from_, .int .i64 f.many, .int .i64 f.to_, .int .i64 f.low, .int .i64 f.high] 64)
    simpa using this)
  have HB2 := Lib.hid (show Below (w.heap.size + 1 + 1 + 1) (((w.alloc (.cells #[.int .i64 t.wells, .slice Aw t.nw cw, .slice Af t.nf cf] 25)).alloc (.cells #[.int .i64 f.from_, .int .i64 f.many, .int .i64 f.to_, .int .i64 f.low, .int .i64 f.high] 64)).alloc (.cells #[.int .i64 0, .slice none 0 0, .slice none 0 0] 25)) ((w1.alloc (.cells #[.int .i64 t.wells, .slice A1 t.nw c1, .slice A2 t.nf c2] 25)).alloc (.cells #[.int .i64 f.from_, .int .i64 f.many, .int .i64 f.to_, .int .i64 f.low, .int .i64 f.high] 64)) by
    have := bAlloc (bAlloc HB1.out (.cells #[.int .i64 t.wells, .slice A1 t.nw c1, .slice A2 t.nf c2] 25)) (.cells #[.int .i64 f.from_, .int .i64 f.many, .int .i64 f.to_, .int .i64 f.low, .int .i64 f.high] 64)
    simpa using this)
  go_wp2_with (at_builtin; refine wpList_append_own _ rfl (Operand.tmp 9) (Operand.tmp 11) 23 rfl (w.heap.size + 1 + 1 + 1) 64 i0 (.agg #[.int .i64 0, .int .i64 0, .int .i64 0, .int .i64 0, .int .i64 0]) 5 40 Tryz.underlying23 hi iz0 iz1 iz2 rfl (by decide) _ t.nf (factL t.fact t.nf) rfl HO2.out ⟨w1.heap.size + 1, 0, none⟩ 1 1 [.int .i64 f.from_, .int .i64 f.many, .int .i64 f.to_, .int .i64 f.low, .int .i64 f.high] rfl rfl ?c1 ?c2 ?c3 HN.out ?c4 ?_)
  case c1 =>
    intro j u hj
    have hc := cell_of_row _ (w1.heap.size + 1) j _ _ _ (show ((w1.alloc (.cells #[.int .i64 t.wells, .slice A1 t.nw c1, .slice A2 t.nf c2] 25)).alloc (.cells #[.int .i64 f.from_, .int .i64 f.many, .int .i64 f.to_, .int .i64 f.low, .int .i64 f.high] 64)).heap[w1.heap.size + 1]? = some (Obj.cells #[.int .i64 f.from_, .int .i64 f.many, .int .i64 f.to_, .int .i64 f.low, .int .i64 f.high] 64 (0, 0)) by have := heap_alloc_new (w1.alloc (.cells #[.int .i64 t.wells, .slice A1 t.nw c1, .slice A2 t.nf c2] 25)) (.cells #[.int .i64 f.from_, .int .i64 f.many, .int .i64 f.to_, .int .i64 f.low, .int .i64 f.high] 64); simpa using this)
    rw [show (⟨w1.heap.size + 1, 0, none⟩ : Addr).add j = ⟨w1.heap.size + 1, j, none⟩ from by unfold Addr.add; split <;> simp_all, hc]
    simpa using hj
  case c2 =>
    intro u hu
    simp only [List.mem_cons, List.not_mem_nil, or_false] at hu
    rcases hu with rfl | rfl | rfl | rfl | rfl <;> rfl
  case c3 => unfold maxLen; have := HN.out; omega
  case c4 => simp <;> omega
  intro v' w4 hown4 hg4 _
  obtain ⟨A4, c4, rfl, _⟩ := RowK.own hown4
  have hnb : some w1.heap.size ≠ (Value.slice A2 t.nf c2).ownBlock := fun e => by have := HC.out.facts.lt _ e.symm; omega
  have HX4 := Lib.hid ((HX1.out.mono (bAlloc (Below.refl _ _) (.cells #[.int .i64 f.from_, .int .i64 f.many, .int .i64 f.to_, .int .i64 f.low, .int .i64 f.high] 64))).grown hg4 hnb)
  have hB4 : Below (w.heap.size + 1 + 1 + 1) (((w.alloc (.cells #[.int .i64 t.wells, .slice Aw t.nw cw, .slice Af t.nf cf] 25)).alloc (.cells #[.int .i64 f.from_, .int .i64 f.many, .int .i64 f.to_, .int .i64 f.low, .int .i64 f.high] 64)).alloc (.cells #[.int .i64 0, .slice none 0 0, .slice none 0 0] 25)) w4 := HB2.out.grown hg4 (by simp <;> omega) (fun k hk => (HO2.out.lt k hk).1)
  have HB4 := Lib.hid hB4
  have hTR : TBox w4 (w.heap.size + 1 + 1) 25 #[.int .i64 0, .slice none 0 0, .slice none 0 0] := (hB4.block (w.heap.size + 1 + 1) (by omega)).trans (by have := HTR.out; simpa [TBox] using this)
  have HTR4 := Lib.hid hTR
  have hk4 : Kept [3, 26, 128] ((w1.alloc (.cells #[.int .i64 t.wells, .slice A1 t.nw c1, .slice A2 t.nf c2] 25)).alloc (.cells #[.int .i64 f.from_, .int .i64 f.many, .int .i64 f.to_, .int .i64 f.low, .int .i64 f.high] 64)) w4 := Kept.of_own hg4 HO2.out (by decide)
  have HK4 := Lib.hid hk4
  have HG4 := Lib.hid hg4
  have HO4 := Lib.hid hown4
  have hlt4 : w1.heap.size < w4.heap.size := HX4.out.lt
  have r0 : w4.cell? ⟨w1.heap.size, 0, none⟩ = some (.int .i64 t.wells) := HX4.out.cell 0
  have r1 : w4.cell? ⟨w1.heap.size, 1, none⟩ = some (.slice A1 t.nw c1) := HX4.out.cell 1
  have r2 : w4.cell? ⟨w1.heap.size, 2, none⟩ = some (.slice A2 t.nf c2) := HX4.out.cell 2
  have r3 := HX4.out.frozen 2
  have s0 : w4.cell? ⟨w.heap.size + 1 + 1, 0, none⟩ = some (.int .i64 0) := hTR.cell 0
  have s1 : w4.cell? ⟨w.heap.size + 1 + 1, 1, none⟩ = some (.slice none 0 0) := hTR.cell 1
  have s2 : w4.cell? ⟨w.heap.size + 1 + 1, 2, none⟩ = some (.slice none 0 0) := hTR.cell 2
  have t0 := hTR.frozen 0
  have t1 := hTR.frozen 1
  have t2 := hTR.frozen 2
  have hy4 : w.heap.size + 1 + 1 < w4.heap.size := hTR.lt
  clear hTR hown4 hg4 hnb hB4 hk4 bc1 bf1
  go_wp2_with fail
  have hne : w1.heap.size ≠ w.heap.size + 1 + 1 := by omega
  have R5 := HTR4.out.other hne 2 (.slice A4 (t.nf + 1) c4)
  have R6 := R5.set 0 (.int .i64 t.wells)
  have R7 := R6.set 1 (.slice A1 t.nw c1)
  have hkS := (((Kept.set (l := [3, 26, 128]) HX4.out (by decide) 2 (.slice A4 (t.nf + 1) c4)).trans (Kept.set R5 (by decide) 0 (.int .i64 t.wells))).trans (Kept.set R6 (by decide) 1 (.slice A1 t.nw c1))).trans (Kept.set R7 (by decide) 2 (.slice A4 (t.nf + 1) c4))
  obtain ⟨us, hu1, hu2⟩ := HC.out.worlds
  have hk0 : Kept [3, 26, 128] w1 _ := ((Kept.of_below (bAlloc (bAlloc (Below.refl w1.heap.size w1) (.cells #[.int .i64 t.wells, .slice A1 t.nw c1, .slice A2 t.nf c2] 25)) (.cells #[.int .i64 f.from_, .int .i64 f.many, .int .i64 f.to_, .int .i64 f.low, .int .i64 f.high] 64))).trans HK4.out).trans hkS
  refine bodyPost_ret (v := .agg #[.int .i64 t.wells, .slice A1 t.nw c1, .slice A4 (t.nf + 1) c4]) (by simp [results, Tryz.results109, go_sem, *]) rfl ⟨⟨_, _, rfl, ⟨us, ?_, hu2.kept hk0 (by simp) (by simp)⟩, ?_⟩, ?_⟩
  · exact owns_lower (owns_kept hu1 hk0 (by simp)) (by simp <;> omega)
  · show World.ownsRow _ w.heap.size 64 5 (.slice A4 (t.nf + 1) c4) (t.nf + 1) (factL (t.add f).fact (t.nf + 1))
    rw [factL_snoc]
    exact owns_lower (owns_setT (owns_setT (owns_setT (owns_setT HO4.out HX4.out (by decide) 2 _) R5 (by decide) 0 _) R6 (by decide) 1 _) R7 (by decide) 2 _) (by omega)
  · have h0 : Below w.heap.size w w4 := bTrans HB.out (by have := HB4.out; simpa using this)
    exact Below.setCell (p := ⟨w.heap.size + 1 + 1, 2, none⟩) (Below.setCell (p := ⟨w.heap.size + 1 + 1, 1, none⟩) (Below.setCell (p := ⟨w.heap.size + 1 + 1, 0, none⟩) (Below.setCell (p := ⟨w1.heap.size, 2, none⟩) h0 (by show w.heap.size ≤ w1.heap.size; omega) _) (by show w.heap.size ≤ w.heap.size + 1 + 1; omega) _) (by show w.heap.size ≤ w.heap.size + 1 + 1; omega) _) (by show w.heap.size ≤ w.heap.size + 1 + 1; omega) _
theorem shownAs5_any (p q : Nat) (f : Int) (w : World) :
    Calls Tryz.prog 64 #[.agg #[.int .i64 p, .int .i64 q], .int .i64 f] w fun e w' => e = .returned (.agg #[.int .i64 p, .int .i64 1, .int .i64 q, .int .i64 f, .int .i64 f]) ∧ Below w.heap.size w w' := by
  go_enter Tryz.func64, Tryz.ntmps64
  go_wp2_with fail
  refine bodyPost_ret (v := .agg #[.int .i64 p, .int .i64 1, .int .i64 q, .int .i64 f, .int .i64 f]) (by simp [results, Tryz.results64, go_sem, *]) rfl ⟨rfl, ?_⟩
  exact bAlloc (bAlloc (Below.refl _ _) _) _
end Go.Proofs.YtjpfdhhiofjpbaaGreatDoor

namespace Go.Proofs.YtjpfdhhiofjpbaaGreatDoor
open Go.RowKit Go.Sort
theorem Pt.m_no {t : Pt} (ok : t.Ok) : t.m = t.no := by have := ok.no; unfold Pt.m; omega
theorem Pt.m_wells {t : Pt} (ok : t.Ok) : (t.m : Int) = t.q.wells := by have := ok.q.w0; unfold Pt.m; omega
/-! ### towns in which less is forbidden -/
section
variable {o t : Pt} (h : Looser o t)
include h
end
/-! ### towns that are alike -/
section
variable {o t : Pt} (h : Twin o t)
include h
end
/-! ### pairs -/
end Go.Proofs.YtjpfdhhiofjpbaaGreatDoor

namespace Go.Proofs.YtjpfdhhiofjpbaaGreatDoor
open Go.RowKit Go.Sort
theorem wellB_in {t : Qt} (ok : t.Ok) {p : Nat} (hp : (p : Int) < t.wells) : t.wellB (p : Int) = true := by rw [wellB_ok ok]; exact inR_t (by omega)
end Go.Proofs.YtjpfdhhiofjpbaaGreatDoor

namespace Go.Proofs.YtjpfdhhiofjpbaaGreatDoor
open Go.RowKit Go.Sort
set_option maxHeartbeats 2000000 in
set_option maxRecDepth 100000 in
theorem in1_any (A : Option Addr) (n c : Nat) (f : Nat → Int) (x : Int) (w : World) (hn : n ≤ 9223372036854775807) (hI : IntsAt w A n f) :
    Calls Tryz.prog 41 #[.slice A n c, .int .i64 x] w fun e w' => e = .returned (.bool (anyB (fun i => f i == x) n)) ∧ Below w.heap.size w w' := by
  have HI := Lib.hid hI
  clear hI
  go_enter Tryz.func41, Tryz.ntmps41
  go_wp2_with fail
  go_loopw [5] (fun s wr => ∃ k : Nat, k ≤ n ∧ s = .int .i64 k ∧ anyB (fun i => f i == x) k = false ∧ w = wr) (fun s _ => n - (intOf s).toNat)
  case atStart => exact ⟨0, Nat.zero_le _, rfl, rfl, rfl⟩
  case round =>
    obtain ⟨k, hk, rfl, hno, rfl⟩ := hrel
    have HNO := Lib.hid hno
    clear hno
    by_cases hlt : k < n
    · obtain ⟨b, o, rfl, hb, c0⟩ := HI.out.get hlt
      have k1 : (k : Int) < (n : Int) := by omega
      have k0 : (0 : Int) ≤ (k : Int) := by omega
      obtain ⟨v, hv⟩ : ∃ v, f k = v := ⟨_, rfl⟩
      rw [hv] at c0
      by_cases hx : v = x
      · have HH := Lib.hid (show anyB (fun i => f i == x) n = true from anyB_hit hlt (by simp [hv, hx]))
        have hx1 : (v == x) = true := by simp [hx]
        clear hv hx
        go_wp2_with fail
        go_ret
        exact ⟨ret_bool (by rw [HH.out]), Below.refl _ _⟩
      · have HH := Lib.hid (show anyB (fun i => f i == x) (k + 1) = false from anyB_step HNO.out (by simp [hv, hx]))
        have hx1 : (v == x) = false := by simp [hx]
        clear hv hx
        go_wp2_with fail
        go_roundw
        case rel =>
          first
          | exact ⟨k + 1, by omega, by go_num, HH.out, trivial⟩
          | ((repeat apply Exists.intro)
             refine ⟨⟨k + 1, by omega, ?_, HH.out, trivial⟩, rfl⟩
             go_num)
        case measure => simp [intOf]; omega
    · obtain rfl : k = n := by omega
      have k1 : ¬ (k : Int) < (k : Int) := by omega
      go_wp2_with fail
      go_ret
      exact ⟨ret_bool (by rw [HNO.out]), Below.refl _ _⟩
end Go.Proofs.YtjpfdhhiofjpbaaGreatDoor

namespace Go.Proofs.YtjpfdhhiofjpbaaGreatDoor
open Go.RowKit Go.Sort
/-- what the reference hands back: a list of tests, and an error -/
def RefLst (w : World) (er : Int) (L : List Tp) (e : Ending) : Prop := (er = 0 → ∃ A c, e = .returned (.tuple #[.slice A L.length c, .int .i64 er]) ∧ RowAt w A (tstE.cells L)) ∧ (er ≠ 0 → e = .returned (.tuple #[.slice none 0 0, .int .i64 er]))
theorem firstUpTo_none {l : List Tp} {p : List Tp → Bool} {k : Nat} (h0 : firstUpTo l p 0 k = none) (h1 : (listsL l k).find? p = none) : firstUpTo l p 0 (k + 1) = none := by
  rw [firstUpTo_snoc, h0]
  simpa using h1
theorem tests_len {t : Qt} (ok : t.Ok) : t.tests.length ≤ 16 := by
  obtain ⟨m, hm⟩ : ∃ m : Nat, t.wells = (m : Int) := ⟨t.wells.toNat, by have := ok.w0; omega⟩
  have m4 : m ≤ 4 := by have := ok.w1; omega
  unfold Qt.tests
  rw [testsL_len, hm, Int.toNat_natCast]
  have : m * m ≤ 4 * 4 := Nat.mul_le_mul m4 m4
  omega
theorem tests_ok5 {t : Qt} (ok : t.Ok) : t.TestsOk t.tests := fun x hx => by
  have := testsL_mem.1 hx
  have := ok.w0
  omega
end Go.Proofs.YtjpfdhhiofjpbaaGreatDoor

namespace Go.Proofs.YtjpfdhhiofjpbaaGreatDoor
open Go.RowKit Go.Sort
/-- the list that comes back with an error -/
def lstO (er : Int) (L : List Tp) : List Tp := if er = 0 then L else []
theorem RefLst.o {w : World} {er : Int} {L : List Tp} {e : Ending} (h : RefLst w er L e) : ∃ A c, e = .returned (.tuple #[.slice A (lstO er L).length c, .int .i64 er]) ∧ RowAt w A (tstE.cells (lstO er L)) := by
  unfold lstO
  by_cases h0 : er = 0
  · obtain ⟨A, c, e1, h1⟩ := h.1 h0
    rw [if_pos h0]
    exact ⟨A, c, e1, h1⟩
  · rw [if_neg h0]
    exact ⟨none, 0, h.2 h0, .inl rfl⟩
end Go.Proofs.YtjpfdhhiofjpbaaGreatDoor

namespace Go.Proofs.YtjpfdhhiofjpbaaGreatDoor
open Go.RowKit Go.Sort
theorem addAll_nw (t : Qt) (a : Int) (l : List Tp) : (t.addAll a l).wells = t.wells ∧ (t.addAll a l).world = t.world ∧ (t.addAll a l).nw = t.nw ∧ (t.addAll a l).nf = t.nf + l.length := addAll_same t a l t
theorem addAll_succ {t : Qt} {a : Int} {L : List Tp} {k : Nat} {x : Tp} (hx : L[k]? = some x) : t.addAll a (L.take (k + 1)) = (t.addAll a (L.take k)).add (shownF x (t.F a x)) := by
  unfold Qt.addAll
  rw [List.take_add_one, hx, Option.toList_some, List.foldl_append]
  rfl
theorem addAll_fits {t : Qt} (hf : t.Fits) {a : Int} {l : List Tp} (h2 : t.nf ≤ 2) (hl : l.length ≤ 100) : (t.addAll a l).Fits := by
  obtain ⟨h1, h3, h4, h5⟩ := addAll_nw t a l
  refine ⟨by rw [h4]; exact hf.1, by rw [h5]; omega, fun i hi => ?_⟩
  rw [h3]
  exact hf.2.2 i (by rw [← h4]; exact hi)
end Go.Proofs.YtjpfdhhiofjpbaaGreatDoor

namespace Go.Proofs.YtjpfdhhiofjpbaaGreatDoor
open Go.RowKit Go.Sort
/-- whether an old well forbids a spot in just one of two worlds -/
def Pt.unlike (t : Pt) (s : Nat) (a b : Int) : Bool := anyB (fun w => t.forb s w a != t.forb s w b) t.m
theorem unlike_comm (t : Pt) (s : Nat) (a b : Int) : t.unlike s a b = t.unlike s b a := anyB_congr fun w _ => bne_comm
theorem unlike_self (t : Pt) (s : Nat) (a : Int) : t.unlike s a a = false := anyB_false.2 fun w _ => by simp
/-- whether some tests decide all that must be for a spot -/
def Pt.decB (t : Pt) (s : Nat) (l : List Tp) : Bool := !anyB (fun i => anyB (fun k => t.unlike s (intL0 t.q.leftL i) (intL0 t.q.leftL k) && !t.q.someB l (intL0 t.q.leftL i) (intL0 t.q.leftL k)) i) t.q.leftL.length
theorem decB_iff {t : Pt} {s : Nat} {l : List Tp} : t.decB s l = true ↔ ∀ a, a ∈ t.q.leftL → ∀ b, b ∈ t.q.leftL → t.unlike s a b = true → t.q.someB l a b = true := by
  unfold Pt.decB
  rw [Bool.not_eq_true', anyB_false]
  constructor
  · intro h a ha b hb hs
    obtain ⟨i, hi, rfl⟩ := mem_intL0 ha
    obtain ⟨k, hk, rfl⟩ := mem_intL0 hb
    rcases Nat.lt_trichotomy i k with h1 | h1 | h1
    · have := anyB_false.1 (h k hk) i h1
      rw [unlike_comm, hs, someB_comm t.q l] at this
      simpa using this
    · subst h1
      rw [unlike_self] at hs
      cases hs
    · have := anyB_false.1 (h i hi) k h1
      rw [hs] at this
      simpa using this
  · intro h i hi
    refine anyB_false.2 fun k hk => ?_
    cases hs : t.unlike s (intL0 t.q.leftL i) (intL0 t.q.leftL k) with
    | false => rfl
    | true => rw [h _ (intL0_mem hi) _ (intL0_mem (by omega)) hs]; rfl
noncomputable def Pt.decErr (t : Pt) (s : Int) : Int := if t.knowErr (t.hasB s) = 0 then (if t.decB s.toNat t.q.tests then 0 else 3) else t.knowErr (t.hasB s)
/-- the tests of Decide -/
def Pt.decL (t : Pt) (s : Int) : List Tp := fewestL t.q.tests fun l => t.decB s.toNat l
/-- whether Forbids is Perhaps of some old well -/
def Pt.doubt (t : Pt) (s : Nat) : Bool := anyB (fun w => decide (knownK (t.inN s w) t.q.leftL.length = 3)) t.m
theorem inN_zero {t : Pt} {s w : Nat} : t.inN s w = 0 ↔ ∀ a, a ∈ t.q.leftL → t.forb s w a = false := by
  unfold Pt.inN Pt.inTo
  rw [cntB_zero]
  constructor
  · intro h a ha
    obtain ⟨i, hi, rfl⟩ := mem_intL0 ha
    exact h i hi
  · intro h i hi
    exact h _ (intL0_mem hi)
theorem inN_all {t : Pt} {s w : Nat} : t.inN s w = t.q.leftL.length ↔ ∀ a, a ∈ t.q.leftL → t.forb s w a = true := by
  unfold Pt.inN Pt.inTo
  rw [cntB_all]
  constructor
  · intro h a ha
    obtain ⟨i, hi, rfl⟩ := mem_intL0 ha
    exact h i hi
  · intro h i hi
    exact h _ (intL0_mem hi)
theorem knownK_three {so all : Nat} : knownK (so : Int) (all : Int) = 3 ↔ so ≠ 0 ∧ so ≠ all := by
  unfold knownK
  constructor
  · intro h
    refine ⟨fun e => ?_, fun e => ?_⟩
    · rw [if_pos (by omega)] at h; cases h
    · by_cases h0 : (so : Int) = 0
      · rw [if_pos h0] at h; cases h
      · rw [if_neg h0, if_pos (by omega)] at h; cases h
  · rintro ⟨h1, h2⟩
    rw [if_neg (by omega), if_neg (by omega)]
theorem knownK_in (so all : Int) : 1 ≤ knownK so all ∧ knownK so all ≤ 3 := by
  unfold knownK
  split
  · omega
  · split <;> omega
/-- no doubt: no two worlds that are left are unlike -/
theorem doubt_iff {t : Pt} {s : Nat} : t.doubt s = false ↔ ∀ a, a ∈ t.q.leftL → ∀ b, b ∈ t.q.leftL → t.unlike s a b = false := by
  unfold Pt.doubt
  rw [anyB_false]
  constructor
  · intro h a ha b hb
    refine anyB_false.2 fun w hw => ?_
    have h1 := h w hw
    simp only [decide_eq_false_iff_not, knownK_three] at h1
    by_cases e : t.inN s w = 0
    · rw [inN_zero.1 e a ha, inN_zero.1 e b hb]; rfl
    · have e2 : t.inN s w = t.q.leftL.length := by omega
      rw [inN_all.1 e2 a ha, inN_all.1 e2 b hb]; rfl
  · intro h w hw
    simp only [decide_eq_false_iff_not, knownK_three]
    rintro ⟨h1, h2⟩
    refine h1 (inN_zero.2 fun a ha => ?_)
    cases hf : t.forb s w a
    · rfl
    · refine absurd (inN_all.2 fun b hb => ?_) h2
      have := anyB_false.1 (h a ha b hb) w hw
      rw [hf] at this
      cases hb : t.forb s w b
      · rw [hb] at this; cases this
      · rfl
theorem decB_nil {t : Pt} {s : Nat} : t.decB s [] = !t.doubt s := by
  refine Bool.eq_iff_iff.2 ?_
  rw [decB_iff, Bool.not_eq_true', doubt_iff]
  constructor
  · intro h a ha b hb
    cases hu : t.unlike s a b
    · rfl
    · have := h a ha b hb hu
      simp [Qt.someB] at this
  · intro h a ha b hb hu
    rw [h a ha b hb] at hu
    cases hu
theorem decB_sub {t : Pt} {s : Nat} {l l' : List Tp} (h : ∀ x, x ∈ l → x ∈ l') (hd : t.decB s l = true) : t.decB s l' = true := decB_iff.2 fun a ha b hb hu => someB_sub h (decB_iff.1 hd a ha b hb hu)
theorem dec_spec {t : Pt} {s : Nat} (h : t.decB s t.q.tests = true) : List.Sublist (t.decL s) t.q.tests ∧ t.decB s (t.decL s) = true := by
  have := fewest_spec t.q.tests (fun l => t.decB s l) h
  unfold Pt.decL
  rw [Int.toNat_natCast]
  exact ⟨this.1, this.2.1⟩
/-- no tests just if there is no doubt -/
theorem dec_none {t : Pt} {s : Nat} : (t.decB s t.q.tests = true ∧ t.decL s = []) ↔ t.doubt s = false := by
  constructor
  · rintro ⟨h1, h2⟩
    have := (dec_spec h1).2
    rw [h2, decB_nil] at this
    simpa using this
  · intro h
    have h0 : t.decB s [] = true := by rw [decB_nil, h]; rfl
    refine ⟨decB_sub (by simp) h0, ?_⟩
    unfold Pt.decL
    rw [Int.toNat_natCast]
    exact fewest_nil _ _ h0
/-! ### one fact more -/
def Pt.told (t : Pt) (f : Fact) : Pt := { t with q := t.q.add f }
/-! ### the looser law -/
/-! ### the street, seen from the other end -/
/-! ### one spot more -/
/-! ### the least harm -/
end Go.Proofs.YtjpfdhhiofjpbaaGreatDoor

namespace Go.Proofs.YtjpfdhhiofjpbaaGreatDoor
open Go.RowKit Go.Sort
set_option maxHeartbeats 4000000 in
set_option maxRecDepth 100000 in
theorem isSpotN9_any (Aw Af Ao Ap As : Option Addr) (cw cf co cp cs : Nat) (t : Pt) (n : Int) (w : World) (hs : t.ns ≤ 9223372036854775807) :
    Calls Tryz.prog 40 #[.agg #[.int .i64 t.q.wells, .slice Aw t.q.nw cw, .slice Af t.q.nf cf, .slice Ao t.no co, .slice Ap t.np cp, .slice As t.ns cs, .int .i64 t.far, .int .i64 t.harm, .int .i64 t.many], .int .i64 n] w fun e w' => e = .returned (.bool (t.hasB n)) ∧ Below w.heap.size w w' := by
  have hw1 : IntKind.i64.wrap ((t.ns : Int) - 1) = (t.ns : Int) - 1 := IntWalk.i64_in _ (by omega)
  have HN := Lib.hid (show inR n 0 ((t.ns : Int) - 1) = t.hasB n from rfl)
  clear hs
  have HD0 := Lib.hid (Below.refl w.heap.size w)
  go_enter Tryz.func40, Tryz.ntmps40
  go_wp2_with fail
  refine (within9_b _ _ _ _ _ HN.out).mono ?_
  rintro e w0 ⟨rfl, rfl⟩
  go_wp2_with fail
  go_ret
  exact ⟨rfl, (bTrans HD0.out (bAlloc (Below.refl _ _) (.cells #[.int .i64 t.q.wells, .slice Aw t.q.nw cw, .slice Af t.q.nf cf, .slice Ao t.no co, .slice Ap t.np cp, .slice As t.ns cs, .int .i64 t.far, .int .i64 t.harm, .int .i64 t.many] 29)))⟩
end Go.Proofs.YtjpfdhhiofjpbaaGreatDoor

namespace Go.Proofs.YtjpfdhhiofjpbaaGreatDoor
open Go.RowKit Go.Sort
theorem left_get {t : Pt} {w : World} {A : Option Addr} (hL : IntsAt w A t.q.leftL.length (intL0 t.q.leftL)) {k : Nat} (hk : k < t.q.leftL.length) : ∃ (b o i : Nat), A = some ⟨b, o, none⟩ ∧ b < w.heap.size ∧ w.cell? ⟨b, o + k, none⟩ = some (.int .i64 (i : Int)) ∧ intL0 t.q.leftL k = (i : Int) ∧ i < t.q.nw := by
  obtain ⟨i, h1, h2, _⟩ := left_at hk
  obtain ⟨b, o, h3, h4, h5⟩ := hL.get hk
  rw [h1] at h5
  exact ⟨b, o, i, h3, h4, h5, h1, h2⟩
set_option maxHeartbeats 4000000 in
set_option maxRecDepth 100000 in
theorem leftOf9_any (Aw Af Ao Ap As : Option Addr) (cw cf co cp cs : Nat) (t : Pt) (w : World) (ok : t.Ok) (hT : PAt w Aw Af Ao Ap As t) :
    Calls Tryz.prog 42 #[.agg #[.int .i64 t.q.wells, .slice Aw t.q.nw cw, .slice Af t.q.nf cf, .slice Ao t.no co, .slice Ap t.np cp, .slice As t.ns cs, .int .i64 t.far, .int .i64 t.harm, .int .i64 t.many]] w fun e w' => (∃ A c, e = .returned (.slice A t.q.leftL.length c) ∧ IntsAt w' A t.q.leftL.length (intL0 t.q.leftL)) ∧ Below w.heap.size w w' := by
  have HD0 := Lib.hid (Below.refl w.heap.size w)
  have HOK := Lib.hid ok
  have HT0 := Lib.hid hT
  clear ok hT
  go_enter Tryz.func42, Tryz.ntmps42
  go_wp2_with fail
  refine (refLeftOf Aw Af cw cf t.q _ HOK.out.q (HT0.out.mono (bAlloc (Below.refl _ _) (.cells #[.int .i64 t.q.wells, .slice Aw t.q.nw cw, .slice Af t.q.nf cf, .slice Ao t.no co, .slice Ap t.np cp, .slice As t.ns cs, .int .i64 t.far, .int .i64 t.harm, .int .i64 t.many] 29))).q).mono ?_
  rintro e w1 ⟨⟨v, rfl, hv⟩, hb⟩
  obtain ⟨A4, c4, rfl, hi4, _⟩ := left_base hv
  have hB1 : Below w.heap.size w w1 := bTrans (bAlloc (Below.refl _ _) (.cells #[.int .i64 t.q.wells, .slice Aw t.q.nw cw, .slice Af t.q.nf cf, .slice Ao t.no co, .slice Ap t.np cp, .slice As t.ns cs, .int .i64 t.far, .int .i64 t.harm, .int .i64 t.many] 29)) hb
  have HD1 := Lib.hid (bTrans HD0.out hB1)
  have HT1 := Lib.hid (HT0.out.mono hB1)
  have HI41 := Lib.hid (hi4)
  have T1 := Lib.hid (show TBox w1 w.heap.size 29 #[.int .i64 t.q.wells, .slice Aw t.q.nw cw, .slice Af t.q.nf cf, .slice Ao t.no co, .slice Ap t.np cp, .slice As t.ns cs, .int .i64 t.far, .int .i64 t.harm, .int .i64 t.many] from by have := ((TBox.new w #[.int .i64 t.q.wells, .slice Aw t.q.nw cw, .slice Af t.q.nf cf, .slice Ao t.no co, .slice Ap t.np cp, .slice As t.ns cs, .int .i64 t.far, .int .i64 t.harm, .int .i64 t.many] 29).mono (Below.refl _ _)).mono hb; simpa using this)
  clear hb hB1 HD0 HT0
  obtain ⟨T_0, T_1, T_2, T_3, T_4, T_5, T_6, T_7, T_8, T_l⟩ := T1.out.c9
  clear hv hi4
  go_wp2_with fail
  go_ret
  exact ⟨⟨A4, c4, rfl, HI41.out⟩, HD1.out⟩
end Go.Proofs.YtjpfdhhiofjpbaaGreatDoor

namespace Go.Proofs.YtjpfdhhiofjpbaaGreatDoor
open Go.RowKit Go.Sort
theorem isKnown9_any (n : Int) (w : World) : Calls Tryz.prog 43 #[.int .i64 n] w fun e w' => e = .returned (.bool (n == 0 || n == 3)) ∧ Below w.heap.size w w' := by
  cases h : (n == 0)
  · cases h3 : (n == 3)
    all_goals
      go_enter Tryz.func43, Tryz.ntmps43
      go_wp2_with fail
      go_ret
      exact ⟨rfl, Below.refl _ _⟩
  · go_enter Tryz.func43, Tryz.ntmps43
    go_wp2_with fail
    go_ret
    exact ⟨rfl, Below.refl _ _⟩
end Go.Proofs.YtjpfdhhiofjpbaaGreatDoor

namespace Go.Proofs.YtjpfdhhiofjpbaaGreatDoor
open Go.RowKit Go.Sort
/-- some Bool, that says that a town is valid -/
def ReadyB (t : Pt) (e : Ending) : Prop := ∃ b, e = .returned (.bool b) ∧ (b = true → t.Ok)
set_option maxHeartbeats 4000000 in
set_option maxRecDepth 100000 in
theorem ready9_any (Aw Af Ao Ap As : Option Addr) (cw cf co cp cs : Nat) (t : Pt) (w : World) (hs : t.Small) (hT : PAt w Aw Af Ao Ap As t) :
    Calls Tryz.prog 39 #[.agg #[.int .i64 t.q.wells, .slice Aw t.q.nw cw, .slice Af t.q.nf cf, .slice Ao t.no co, .slice Ap t.np cp, .slice As t.ns cs, .int .i64 t.far, .int .i64 t.harm, .int .i64 t.many]] w fun e w' => ReadyB t e ∧ Below w.heap.size w w' := by
  have HD0 := Lib.hid (Below.refl w.heap.size w)
  have HSM := Lib.hid hs
  have HT0 := Lib.hid hT
  clear hs hT
  go_enter Tryz.func39, Tryz.ntmps39
  go_wp2_with fail
  refine (far9_any Aw Af Ao Ap As cw cf co cp cs t _ HSM.out (HT0.out.mono (bAlloc (Below.refl _ _) (.cells #[.int .i64 t.q.wells, .slice Aw t.q.nw cw, .slice Af t.q.nf cf, .slice Ao t.no co, .slice Ap t.np cp, .slice As t.ns cs, .int .i64 t.far, .int .i64 t.harm, .int .i64 t.many] 29)))).mono ?_
  rintro e w1 ⟨⟨bf, rfl⟩, hb⟩
  have hB1 : Below w.heap.size w w1 := bTrans (bAlloc (Below.refl _ _) (.cells #[.int .i64 t.q.wells, .slice Aw t.q.nw cw, .slice Af t.q.nf cf, .slice Ao t.no co, .slice Ap t.np cp, .slice As t.ns cs, .int .i64 t.far, .int .i64 t.harm, .int .i64 t.many] 29)) hb
  have HD1 := Lib.hid (bTrans HD0.out hB1)
  have HT1 := Lib.hid (HT0.out.mono hB1)
  have T1 := Lib.hid (show TBox w1 w.heap.size 29 #[.int .i64 t.q.wells, .slice Aw t.q.nw cw, .slice Af t.q.nf cf, .slice Ao t.no co, .slice Ap t.np cp, .slice As t.ns cs, .int .i64 t.far, .int .i64 t.harm, .int .i64 t.many] from by have := ((TBox.new w #[.int .i64 t.q.wells, .slice Aw t.q.nw cw, .slice Af t.q.nf cf, .slice Ao t.no co, .slice Ap t.np cp, .slice As t.ns cs, .int .i64 t.far, .int .i64 t.harm, .int .i64 t.many] 29).mono (Below.refl _ _)).mono hb; simpa using this)
  clear hb hB1 HD0 HT0
  obtain ⟨T_0, T_1, T_2, T_3, T_4, T_5, T_6, T_7, T_8, T_l⟩ := T1.out.c9
  cases bf
  case true =>
    go_wp2_with fail
    go_ret
    exact ⟨⟨_, rfl, fun h => by cases h⟩, HD1.out⟩
  go_wp2_with fail
  refine (check9_any Aw Af Ao Ap As cw cf co cp cs t _ HSM.out HT1.out).mono ?_
  rintro e w2 ⟨rfl, hb⟩
  have hB2 : Below w1.heap.size w1 w2 := bTrans (Below.refl _ _) hb
  have HD2 := Lib.hid (bTrans HD1.out hB2)
  have HT2 := Lib.hid (HT1.out.mono hB2)
  have T2 := Lib.hid (T1.out.mono hB2)
  clear hb hB2 HD1 HT1 T1 T_0 T_1 T_2 T_3 T_4 T_5 T_6 T_7 T_8 T_l
  obtain ⟨T_0, T_1, T_2, T_3, T_4, T_5, T_6, T_7, T_8, T_l⟩ := T2.out.c9
  by_cases ok : t.Ok
  case neg =>
    rw [Pt.err_bad ok]
    clear ok
    go_wp2_with fail
    go_ret
    exact ⟨⟨_, rfl, fun h => by cases h⟩, HD2.out⟩
  rw [Pt.err_ok ok]
  have HOK := Lib.hid ok
  clear ok
  go_wp2_with fail
  go_ret
  exact ⟨⟨_, rfl, fun _ => HOK.out⟩, HD2.out⟩
end Go.Proofs.YtjpfdhhiofjpbaaGreatDoor

namespace Go.Proofs.YtjpfdhhiofjpbaaGreatDoor
open Go.RowKit Go.Sort
theorem hasB_in {t : Pt} {s : Nat} (h : s < t.ns) : t.hasB (s : Int) = true := hasB_iff.2 (by omega)
set_option maxHeartbeats 4000000 in
set_option maxRecDepth 100000 in
theorem perhaps9_any (Aw Af Ao Ap As : Option Addr) (cw cf co cp cs : Nat) (t : Pt) (i : Nat) (w : World) (hs : t.Small) (hT : PAt w Aw Af Ao Ap As t) (hB : TabAt w) (hN : NoneAt w) (ok : t.Ok) (hne : t.q.leftL ≠ []) (hi : i < t.ns) :
    Calls Tryz.prog 62 #[.agg #[.int .i64 t.q.wells, .slice Aw t.q.nw cw, .slice Af t.q.nf cf, .slice Ao t.no co, .slice Ap t.np cp, .slice As t.ns cs, .int .i64 t.far, .int .i64 t.harm, .int .i64 t.many], .int .i64 (i : Int)] w fun e w' => e = .returned (.tuple #[.bool (t.doubt i), .bool true]) ∧ Below w.heap.size w w' := by
  have hno4 : t.no ≤ 4 := by have := ok.no; have := ok.q.w1; omega
  have HDT := Lib.hid (show t.doubt i = anyB (fun v => decide (knownK (t.inN i v) t.q.leftL.length = 3)) t.no by unfold Pt.doubt; rw [Pt.m_no ok])
  obtain ⟨p, hp⟩ : ∃ p : Nat → Bool, (fun v => decide (knownK (t.inN i v) t.q.leftL.length = 3)) = p := ⟨_, rfl⟩
  rw [hp] at HDT
  have HP := Lib.hid (show ∀ v, p v = decide (knownK (t.inN i v) t.q.leftL.length = 3) from fun v => by rw [← hp])
  clear hp
  have HD0 := Lib.hid (Below.refl w.heap.size w)
  have HSM := Lib.hid hs
  have HT0 := Lib.hid hT
  have HTB0 := Lib.hid hB
  have HNA0 := Lib.hid hN
  have HOK := Lib.hid ok
  have HNE := Lib.hid hne
  have HI := Lib.hid hi
  clear hs hT hB hN ok hne hi
  go_enter Tryz.func62, Tryz.ntmps62
  go_wp2_with fail
  go_loopw [6, 7] (fun s6 s7 wr => ∃ k : Nat, k ≤ t.no ∧ s6 = .bool (anyB p k) ∧ s7 = .int .i64 (k : Int) ∧ Below (w.alloc (.cells #[.int .i64 t.q.wells, .slice Aw t.q.nw cw, .slice Af t.q.nf cf, .slice Ao t.no co, .slice Ap t.np cp, .slice As t.ns cs, .int .i64 t.far, .int .i64 t.harm, .int .i64 t.many] 29)).heap.size (w.alloc (.cells #[.int .i64 t.q.wells, .slice Aw t.q.nw cw, .slice Af t.q.nf cf, .slice Ao t.no co, .slice Ap t.np cp, .slice As t.ns cs, .int .i64 t.far, .int .i64 t.harm, .int .i64 t.many] 29)) wr) (fun _ s7 _ => t.no - (intOf s7).toNat)
  case atStart => exact ⟨0, Nat.zero_le _, rfl, rfl, Below.refl _ _⟩
  case round =>
    obtain ⟨k, hk_k, rfl, rfl, hb⟩ := hrel
    have HBk := Lib.hid hb
    have hB1 : Below w.heap.size w wr := bTrans (bAlloc (Below.refl _ _) (.cells #[.int .i64 t.q.wells, .slice Aw t.q.nw cw, .slice Af t.q.nf cf, .slice Ao t.no co, .slice Ap t.np cp, .slice As t.ns cs, .int .i64 t.far, .int .i64 t.harm, .int .i64 t.many] 29)) hb
    have HD1 := Lib.hid (bTrans HD0.out hB1)
    have HT1 := Lib.hid (HT0.out.mono hB1)
    have HTB1 := Lib.hid (HTB0.out.mono hB1)
    have HNA1 := Lib.hid (HNA0.out.mono hB1)
    have HU_k1 := Lib.hid ((show Upto (w.alloc (.cells #[.int .i64 t.q.wells, .slice Aw t.q.nw cw, .slice Af t.q.nf cf, .slice Ao t.no co, .slice Ap t.np cp, .slice As t.ns cs, .int .i64 t.far, .int .i64 t.harm, .int .i64 t.many] 29)) wr from HBk.out))
    have T1 := Lib.hid (show TBox wr w.heap.size 29 #[.int .i64 t.q.wells, .slice Aw t.q.nw cw, .slice Af t.q.nf cf, .slice Ao t.no co, .slice Ap t.np cp, .slice As t.ns cs, .int .i64 t.far, .int .i64 t.harm, .int .i64 t.many] from by have := ((TBox.new w #[.int .i64 t.q.wells, .slice Aw t.q.nw cw, .slice Af t.q.nf cf, .slice Ao t.no co, .slice Ap t.np cp, .slice As t.ns cs, .int .i64 t.far, .int .i64 t.harm, .int .i64 t.many] 29).mono (Below.refl _ _)).mono hb; simpa using this)
    clear hb hB1
    obtain ⟨T_0, T_1, T_2, T_3, T_4, T_5, T_6, T_7, T_8, T_l⟩ := T1.out.c9
    by_cases hlt_k : k < t.no
    case pos =>
      have h1_k : (k : Int) < (t.no : Int) := by omega
      have h0_k : (0 : Int) ≤ (k : Int) := by omega
      have HV := Lib.hid (show t.oldB (k : Int) = true from by rw [show t.oldB (k : Int) = t.q.wellB (k : Int) from rfl]; exact wellB_in HOK.out.q (by have := HOK.out.no; omega))
      have hkk := knownK_in (t.inN i k) t.q.leftL.length
      have HFO := Lib.hid (show t.forbidsOut (i : Int) (k : Int) = (knownK (t.inN i k) t.q.leftL.length, 0) by unfold Pt.forbidsOut; rw [hasB_in HI.out, HV.out, show (true && true) = true from rfl, Pt.knowErr_ok HOK.out HNE.out, if_pos rfl, Int.toNat_natCast, Int.toNat_natCast])
      have HPK := Lib.hid (HP.out k)
      obtain ⟨kk, hk⟩ : ∃ y, knownK (t.inN i k : Int) (t.q.leftL.length : Int) = y := ⟨_, rfl⟩
      rw [hk] at hkk HFO HPK
      have HIN := Lib.hid (show inR kk 1 3 = true from inR_t hkk)
      obtain ⟨d, hd⟩ : ∃ d, anyB p k = d := ⟨_, rfl⟩
      rw [hd]
      have HD3 := Lib.hid hd
      clear hk hd hkk
      go_wp2_with fail
      refine ((by have := forbidsOutP_any Aw Af Ao Ap As cw cf co cp cs t (i : Int) (k : Int) wr HSM.out HT1.out HTB1.out; rw [HFO.out] at this; exact this : Calls Tryz.prog 28 #[.agg #[.int .i64 t.q.wells, .slice Aw t.q.nw cw, .slice Af t.q.nf cf, .slice Ao t.no co, .slice Ap t.np cp, .slice As t.ns cs, .int .i64 t.far, .int .i64 t.harm, .int .i64 t.many], .int .i64 (i : Int), .int .i64 (k : Int)] wr fun e w' => e = .returned (.tuple #[.int .i64 kk, .int .i64 0]) ∧ Below wr.heap.size wr w')).mono ?_
      rintro e w2 ⟨rfl, hb⟩
      have hB2 : Below wr.heap.size wr w2 := bTrans (Below.refl _ _) hb
      have HD2 := Lib.hid (bTrans HD1.out hB2)
      have HT2 := Lib.hid (HT1.out.mono hB2)
      have HTB2 := Lib.hid (HTB1.out.mono hB2)
      have HNA2 := Lib.hid (HNA1.out.mono hB2)
      have HU_k2 := Lib.hid (HU_k1.out.mono hB2)
      have T2 := Lib.hid (T1.out.mono hB2)
      clear hb hB2 HD1 HT1 HTB1 HNA1 HU_k1 T1 T_0 T_1 T_2 T_3 T_4 T_5 T_6 T_7 T_8 T_l
      obtain ⟨T_0, T_1, T_2, T_3, T_4, T_5, T_6, T_7, T_8, T_l⟩ := T2.out.c9
      go_wp2_with fail
      refine (within_b kk 1 3 true _ HIN.out).mono ?_
      rintro e w0 ⟨rfl, rfl⟩
      obtain ⟨e3, he3⟩ : ∃ b, decide (kk = 3) = b := ⟨_, rfl⟩
      have he3b : (kk == 3) = e3 := by rw [← he3]; rfl
      have HNX := Lib.hid (show anyB p (k + 1) = (d || e3) by show (anyB p k || p k) = _; rw [HD3.out, HPK.out, he3])
      clear he3
      cases d
      · skip
        go_wp2_with fail
        go_roundw
        case rel =>
          first
          | exact ⟨k + 1, by omega, by rw [HNX.out] <;> rfl, by go_num, HU_k2.out⟩
          | ((repeat apply Exists.intro)
             refine ⟨⟨k + 1, by omega, by rw [HNX.out] <;> rfl, ?_, HU_k2.out⟩, rfl⟩
             go_num)
        case measure => simp [intOf]; omega
      · skip
        go_wp2_with fail
        go_roundw
        case rel =>
          first
          | exact ⟨k + 1, by omega, by rw [HNX.out] <;> rfl, by go_num, HU_k2.out⟩
          | ((repeat apply Exists.intro)
             refine ⟨⟨k + 1, by omega, by rw [HNX.out] <;> rfl, ?_, HU_k2.out⟩, rfl⟩
             go_num)
        case measure => simp [intOf]; omega
    have he_k : k = t.no := by omega
    have hk9 : ¬ (k : Int) < (t.no : Int) := by omega
    have hk8 : ¬ k < t.no := by omega
    have HR := Lib.hid (show t.doubt i = anyB p k by rw [HDT.out, he_k])
    clear he_k
    go_wp2_with fail
    go_ret2
    exact ⟨by rw [HR.out] <;> rfl, HD1.out⟩
end Go.Proofs.YtjpfdhhiofjpbaaGreatDoor

namespace Go.Proofs.YtjpfdhhiofjpbaaGreatDoor
open Go.RowKit Go.Sort
theorem mem_anyB (L : List Int) (x : Int) : anyB (fun i => intL0 L i == x) L.length = decide (x ∈ L) := by
  refine Bool.eq_iff_iff.2 ?_
  rw [anyB_true, decide_eq_true_eq]
  constructor
  · rintro ⟨i, hi, h⟩
    rw [← eq_of_beq h]
    exact intL0_mem hi
  · intro h
    obtain ⟨k, hk, e⟩ := mem_intL0 h
    exact ⟨k, hk, by rw [e]; exact beq_self_eq_true _⟩
end Go.Proofs.YtjpfdhhiofjpbaaGreatDoor

namespace Go.Proofs.YtjpfdhhiofjpbaaGreatDoor
open Go.RowKit Go.Sort
set_option maxHeartbeats 4000000 in
set_option maxRecDepth 100000 in
theorem unlikeP_any (C : Nat) (Aw Af Ao Ap As : Option Addr) (cw cf co cp cs : Nat) (t : Pt) (Al : Option Addr) (cl : Nat) (i a b : Nat) (w : World) (hst : StreetAt w C Aw Af Ao Ap As cw cf co cp cs t Al cl) (ok : t.Ok) (hi : i < t.ns) (ha : a < t.q.nw) (hb : b < t.q.nw) :
    Calls Tryz.prog 159 #[.pointer (some ⟨C, 0, none⟩), .int .i64 i, .int .i64 a, .int .i64 b] w fun e w' => e = .returned (.bool (t.unlike i (a : Int) (b : Int))) ∧ Below w.heap.size w w' := by
  have HD0 := Lib.hid (Below.refl w.heap.size w)
  have HST0 := Lib.hid hst
  have HOK := Lib.hid ok
  have HI := Lib.hid hi
  have HA := Lib.hid ha
  have HB := Lib.hid hb
  clear hst ok hi ha hb
  go_enter Tryz.func159, Tryz.ntmps159
  have HMW := Lib.hid (Pt.m_wells HOK.out)
  have hm4 : t.m ≤ 4 := by have := HOK.out.q.w1; have := HMW.out; omega
  obtain ⟨c0, c1, c2, c3, c4, c5, c6, c7, c8, c9, hCl⟩ := HST0.out.box.c10
  go_wp2_with fail
  clear c0 c1 c2 c3 c4 c5 c6 c7 c8 c9 hCl
  go_loopw [16] (fun s16 wr => ∃ k : Nat, k ≤ t.m ∧ s16 = .int .i64 (k : Int) ∧ (∀ v : Nat, v < k → t.forb i v (a : Int) = t.forb i v (b : Int)) ∧ Below w.heap.size w wr) (fun s16 _ => t.m - (intOf s16).toNat)
  case atStart => exact ⟨0, Nat.zero_le _, rfl, fun v h => absurd h (Nat.not_lt_zero _), Below.refl _ _⟩
  case round =>
    obtain ⟨k, hk_k, rfl, hno, hb⟩ := hrel
    have HBk := Lib.hid hb
    have HNO := Lib.hid hno
    clear hno
    have hB1 : Below w.heap.size w wr := bTrans (Below.refl _ _) hb
    have HD1 := Lib.hid (bTrans HD0.out hB1)
    have HST1 := Lib.hid (HST0.out.mono hB1)
    have HU_k1 := Lib.hid ((show Upto w wr from HBk.out))
    clear hb hB1
    by_cases hlt_k : k < t.m
    case pos =>
      have h1_k : (k : Int) < (t.m : Int) := by omega
      have h0_k : (0 : Int) ≤ (k : Int) := by omega
      have hb_k : k < 100 := by omega
      have hkw : (k : Int) < t.q.wells := by have := HMW.out; omega
      have HKW := Lib.hid hkw
      have HKM := Lib.hid hlt_k
      obtain ⟨fa, hfa⟩ : ∃ f, t.forb i k (a : Int) = f := ⟨_, rfl⟩
      obtain ⟨fb, hfb⟩ : ∃ f, t.forb i k (b : Int) = f := ⟨_, rfl⟩
      have HFA := Lib.hid hfa
      have HFB := Lib.hid hfb
      clear hfa hfb
      go_wp2_with fail
      refine (HFA.out ▸ forbidsP_any C Aw Af Ao Ap As cw cf co cp cs t Al cl i k a _ HST1.out HOK.out HI.out HKW.out HA.out).mono ?_
      rintro e w2 ⟨rfl, hb⟩
      have hB2 : Below wr.heap.size wr w2 := bTrans (Below.refl _ _) hb
      have HD2 := Lib.hid (bTrans HD1.out hB2)
      have HST2 := Lib.hid (HST1.out.mono hB2)
      have HU_k2 := Lib.hid (HU_k1.out.mono hB2)
      clear hb hB2 HD1 HST1 HU_k1
      go_wp2_with fail
      refine (HFB.out ▸ forbidsP_any C Aw Af Ao Ap As cw cf co cp cs t Al cl i k b _ HST2.out HOK.out HI.out HKW.out HB.out).mono ?_
      rintro e w3 ⟨rfl, hb⟩
      have hB3 : Below w2.heap.size w2 w3 := bTrans (Below.refl _ _) hb
      have HD3 := Lib.hid (bTrans HD2.out hB3)
      have HST3 := Lib.hid (HST2.out.mono hB3)
      have HU_k3 := Lib.hid (HU_k2.out.mono hB3)
      clear hb hB3 HD2 HST2 HU_k2
      cases fa <;> cases fb
      · skip
        have HN2 := Lib.hid (show ∀ v : Nat, v < k + 1 → t.forb i v (a : Int) = t.forb i v (b : Int) from fun v hv => by
          rcases Nat.lt_or_ge v k with h1 | h1
          · exact HNO.out v h1
          · obtain rfl : v = k := by omega
            rw [HFA.out, HFB.out])
        go_wp2_with fail
        go_roundw
        case rel =>
          first
          | exact ⟨k + 1, by omega, by go_num, HN2.out, HU_k3.out⟩
          | ((repeat apply Exists.intro)
             refine ⟨⟨k + 1, by omega, ?_, HN2.out, HU_k3.out⟩, rfl⟩
             go_num)
        case measure => simp [intOf]; omega
      · skip
        have HR := Lib.hid (show t.unlike i (a : Int) (b : Int) = true from anyB_true.2 ⟨k, HKM.out, by rw [HFA.out, HFB.out]; rfl⟩)
        go_wp2_with fail
        go_ret
        exact ⟨by rw [HR.out] <;> rfl, HD3.out⟩
      · skip
        have HR := Lib.hid (show t.unlike i (a : Int) (b : Int) = true from anyB_true.2 ⟨k, HKM.out, by rw [HFA.out, HFB.out]; rfl⟩)
        go_wp2_with fail
        go_ret
        exact ⟨by rw [HR.out] <;> rfl, HD3.out⟩
      · skip
        have HN2 := Lib.hid (show ∀ v : Nat, v < k + 1 → t.forb i v (a : Int) = t.forb i v (b : Int) from fun v hv => by
          rcases Nat.lt_or_ge v k with h1 | h1
          · exact HNO.out v h1
          · obtain rfl : v = k := by omega
            rw [HFA.out, HFB.out])
        go_wp2_with fail
        go_roundw
        case rel =>
          first
          | exact ⟨k + 1, by omega, by go_num, HN2.out, HU_k3.out⟩
          | ((repeat apply Exists.intro)
             refine ⟨⟨k + 1, by omega, ?_, HN2.out, HU_k3.out⟩, rfl⟩
             go_num)
        case measure => simp [intOf]; omega
    have he_k : k = t.m := by omega
    have hkw : ¬ (k : Int) < t.q.wells := by have := HMW.out; omega
    have HR := Lib.hid (show t.unlike i (a : Int) (b : Int) = false from anyB_false.2 fun v hv => by rw [HNO.out v (by omega)]; simp)
    clear he_k
    go_wp2_with fail
    go_ret
    exact ⟨by rw [HR.out] <;> rfl, HD1.out⟩
set_option maxHeartbeats 4000000 in
set_option maxRecDepth 100000 in
theorem tellsP_any (C : Nat) (Aw Af Ao Ap As : Option Addr) (cw cf co cp cs : Nat) (t : Pt) (Al : Option Addr) (cl : Nat) (p q a b : Nat) (w : World) (hst : StreetAt w C Aw Af Ao Ap As cw cf co cp cs t Al cl) (ok : t.Ok) (hp : (p : Int) < t.q.wells) (hq : (q : Int) < t.q.wells) (ha : a < t.q.nw) (hb : b < t.q.nw) :
    Calls Tryz.prog 160 #[.pointer (some ⟨C, 0, none⟩), .agg #[.int .i64 p, .int .i64 q], .int .i64 a, .int .i64 b] w fun e w' => e = .returned (.bool (t.q.apart (p, q) (a : Int) (b : Int))) ∧ Below w.heap.size w w' := by
  obtain ⟨va, hva⟩ : ∃ v, t.q.F (a : Int) (p, q) = v := ⟨_, rfl⟩
  obtain ⟨vb, hvb⟩ : ∃ v, t.q.F (b : Int) (p, q) = v := ⟨_, rfl⟩
  have HE := Lib.hid (show t.q.apart (p, q) (a : Int) (b : Int) = (va != vb) by unfold Qt.apart; rw [hva, hvb])
  have hva : (t.q.world a).fall p q = va := by rw [← hva]; unfold Qt.F; rw [Int.toNat_natCast]
  have hvb : (t.q.world b).fall p q = vb := by rw [← hvb]; unfold Qt.F; rw [Int.toNat_natCast]
  obtain ⟨bw, ow, rfl, hbw, hcw⟩ : ∃ b o, Aw = some ⟨b, o, none⟩ ∧ b < w.heap.size ∧ ∀ i, i < t.q.nw → ∃ A' c', w.cell? ⟨b, o + i, none⟩ = some (.slice A' (t.q.world i).n c') ∧ RowsAt w A' (t.q.world i) ∧ (t.q.world i).n ≤ 9223372036854775807 := by
    rcases hst.p.q.worlds with h | h
    · omega
    · exact h
  obtain ⟨A1, c1, ca0, hra, _⟩ := hcw a ha
  obtain ⟨A2, c2, cb0, hrb, _⟩ := hcw b hb
  have oka := ok.q.world a ha
  have okb := ok.q.world b hb
  have pna : p < (t.q.world a).n := by have := oka.n; omega
  have pnb : p < (t.q.world b).n := by have := okb.n; omega
  have qna : q < (t.q.world a).len p := by have := oka.len p pna; omega
  have qnb : q < (t.q.world b).len p := by have := okb.len p pnb; omega
  obtain ⟨b1, o1, b2, o2, cc2, rfl, hb1, ca1, hb2, ca2⟩ := hra.get pna qna
  obtain ⟨d1, e1, d2, e2, dd2, rfl, hd1, cb1, hd2, cb2⟩ := hrb.get pnb qnb
  rw [hva] at ca2
  rw [hvb] at cb2
  obtain ⟨c0, x1, x2, x3, x4, x5, x6, x7, x8, x9, hCl⟩ := hst.box.c10
  obtain ⟨na, hna⟩ : ∃ n, (t.q.world a).n = n := ⟨_, rfl⟩
  obtain ⟨nb, hnb⟩ : ∃ n, (t.q.world b).n = n := ⟨_, rfl⟩
  obtain ⟨la, hla⟩ : ∃ n, (t.q.world a).len p = n := ⟨_, rfl⟩
  obtain ⟨lb, hlb⟩ : ∃ n, (t.q.world b).len p = n := ⟨_, rfl⟩
  rw [hna] at ca0 pna
  rw [hnb] at cb0 pnb
  rw [hla] at ca1 qna
  rw [hlb] at cb1 qnb
  have i1 : (a : Int) < (t.q.nw : Int) := by omega
  have i2 : (b : Int) < (t.q.nw : Int) := by omega
  have i3 : (p : Int) < (na : Int) := by omega
  have i4 : (p : Int) < (nb : Int) := by omega
  have i5 : (q : Int) < (la : Int) := by omega
  have i6 : (q : Int) < (lb : Int) := by omega
  clear hcw hra hrb oka okb hva hvb hna hnb hla hlb
  have HD0 := Lib.hid (Below.refl w.heap.size w)
  have HST0 := Lib.hid hst
  have HOK := Lib.hid ok
  have HP := Lib.hid hp
  have HQ := Lib.hid hq
  have HA := Lib.hid ha
  have HB := Lib.hid hb
  clear hst ok hp hq ha hb
  go_enter Tryz.func160, Tryz.ntmps160
  go_wp2_with fail
  refine wp_region_quiet_below (by kernel_rfl) (by kernel_rfl) ?_
  repeat (go_big_quiet_step ((fail)))
  refine wpQuiet_nil ?_
  intro w9 hw9
  have hb9 := below_of_regrown hw9
  have HB9 := Lib.hid hb9
  clear hw9 hb9
  go_wp2_with fail
  go_ret
  exact ⟨by rw [HE.out]; first | rfl | exact ret_bool (by by_cases h : va = vb <;> simp [h]), bTrans (bAlloc (Below.refl w.heap.size w) _) HB9.out⟩
end Go.Proofs.YtjpfdhhiofjpbaaGreatDoor

namespace Go.Proofs.YtjpfdhhiofjpbaaGreatDoor
open Go.RowKit Go.Sort
/-- two worlds that are left are told apart if they must be -/
def Pt.goodQ (t : Pt) (i : Nat) (l : List Tp) (x y : Nat) : Prop := t.unlike i (intL0 t.q.leftL x) (intL0 t.q.leftL y) = true → t.q.someB l (intL0 t.q.leftL x) (intL0 t.q.leftL y) = true
theorem decB_good {t : Pt} {i : Nat} {l : List Tp} {n : Nat} (hn : t.q.leftL.length = n) (h : ∀ x y, x < n → y < x → t.goodQ i l x y) : t.decB i l = true := by
  unfold Pt.decB
  rw [Bool.not_eq_true', anyB_false, hn]
  refine fun x hx => anyB_false.2 fun y hy => ?_
  have h1 := h x y hx hy
  unfold Pt.goodQ at h1
  cases hu : t.unlike i (intL0 t.q.leftL x) (intL0 t.q.leftL y)
  · rfl
  · rw [h1 hu]; rfl
theorem decB_bad {t : Pt} {i : Nat} {l : List Tp} {x y : Nat} (hx : x < t.q.leftL.length) (hy : y < x) (h1 : t.unlike i (intL0 t.q.leftL x) (intL0 t.q.leftL y) = true) (h2 : t.q.someB l (intL0 t.q.leftL x) (intL0 t.q.leftL y) = false) : t.decB i l = false := by
  unfold Pt.decB
  rw [Bool.not_eq_false', anyB_true]
  exact ⟨x, hx, anyB_true.2 ⟨y, hy, by rw [h1, h2]; rfl⟩⟩
theorem someB_none {t : Qt} {l : List Tp} {a b : Int} (h : ∀ z, z < l.length → t.apart (tget l z) a b = false) : t.someB l a b = false := by
  unfold Qt.someB
  rw [← any_tget, anyB_false]
  exact h
theorem someB_hit {t : Qt} {l : List Tp} {a b : Int} {z : Nat} (hz : z < l.length) (h : t.apart (tget l z) a b = true) : t.someB l a b = true := by
  unfold Qt.someB
  rw [← any_tget, anyB_true]
  exact ⟨z, hz, h⟩
set_option maxHeartbeats 16000000 in
set_option maxRecDepth 100000 in
theorem decideP_any (C : Nat) (Aw Af Ao Ap As : Option Addr) (cw cf co cp cs : Nat) (t : Pt) (Al : Option Addr) (cl i : Nat) (A : Option Addr) (c : Nat) (l : List Tp) (w : World) (hst : StreetAt w C Aw Af Ao Ap As cw cf co cp cs t Al cl) (ok : t.Ok) (hi : i < t.ns) (hl : t.q.TestsOk l) (hA : RowAt w A (tstE.cells l)) (hlen : l.length ≤ 100000) :
    Calls Tryz.prog 111 #[.pointer (some ⟨C, 0, none⟩), .int .i64 i, .slice A l.length c] w fun e w' => e = .returned (.bool (t.decB i l)) ∧ Below w.heap.size w w' := by
  have HST := Lib.hid hst
  have HOK := Lib.hid ok
  have HI := Lib.hid hi
  have HLO := Lib.hid hl
  have HAA := Lib.hid hA
  have hl6 := left_len ok.q
  have hcap := hst.sep.2
  have hbx := hst.box
  obtain ⟨n, hn⟩ : ∃ n, t.q.leftL.length = n := ⟨_, rfl⟩
  obtain ⟨m, hm⟩ : ∃ m, l.length = m := ⟨_, rfl⟩
  have HN := Lib.hid hn
  have HM := Lib.hid hm
  rw [hn] at hl6 hcap hbx
  rw [hm] at hlen ⊢
  obtain ⟨B, hB⟩ : ∃ B, t.decB i l = B := ⟨_, rfl⟩
  have HBB := Lib.hid hB
  rw [hB]
  obtain ⟨c0, c1, c2, c3, c4, c5, c6, c7, c8, c9, hCl⟩ := hbx.c10
  clear hst ok hi hl hA hn hm hB hbx
  go_enter Tryz.func111, Tryz.ntmps111
  go_wp2_with fail
  clear c0 c1 c2 c3 c4 c5 c6 c7 c8 c9 hCl
  go_loopg [18] n (fun g s18 wr => ∃ j : Nat, j + g = n ∧ s18 = .int .i64 (j : Int) ∧ (∀ x y, x < j → y < x → t.goodQ i l x y) ∧ Below w.heap.size w wr)
  case atStart => exact ⟨0, by omega, rfl, fun x y h => absurd h (Nat.not_lt_zero _), Below.refl _ _⟩
  case round =>
    obtain ⟨j, hjg, rfl, hgd, hbel⟩ := hrel
    have HGD := Lib.hid hgd
    have HL := Lib.hid hbel
    have hbx := (HST.out.mono hbel).box
    rw [HN.out] at hbx
    obtain ⟨c0, c1, c2, c3, c4, c5, c6, c7, c8, c9, hCl⟩ := hbx.c10
    clear hbel hgd hbx
    cases gk with
    | zero =>
      have h1 : ¬ (j : Int) < (n : Int) := by omega
      have HR := Lib.hid (show B = true by rw [← HBB.out]; exact decB_good HN.out fun x y hx hy => HGD.out x y (by omega) hy)
      go_wp2_with fail
      go_ret
      exact ⟨by rw [HR.out] <;> rfl, HL.out⟩
    | succ g =>
      have h1 : (j : Int) < (n : Int) := by omega
      have hjn : j < n := by omega
      obtain ⟨bl, ol, a, hA4, hbl, cl0, ha, haw⟩ := left_get (t := t) (HST.out.mono HL.out).left (k := j) (by rw [HN.out]; exact hjn)
      subst hA4
      have HAJ := Lib.hid ha
      have HAW := Lib.hid haw
      have j0 : (0 : Int) ≤ (j : Int) := by omega
      have jc : (j : Int) ≤ (cl : Int) := by omega
      clear ha haw
      go_wp2_with fail
      go_step3
      go_wp2_with fail
      go_step3
      go_wp2_with fail
      clear cl0 hbl c0 c1 c2 c3 c4 c5 c6 c7 c8 c9 hCl
      go_loopg [30] j (fun g2 s30 wx => ∃ k : Nat, k + g2 = j ∧ s30 = .int .i64 (k : Int) ∧ (∀ y, y < k → t.goodQ i l j y) ∧ Below w.heap.size w wx)
      case atStart => exact ⟨0, by omega, rfl, fun y h => absurd h (Nat.not_lt_zero _), HL.out⟩
      case round =>
        obtain ⟨k, hkg, rfl, hgk, hbel⟩ := hrel
        have HGK := Lib.hid hgk
        have HX := Lib.hid hbel
        clear hbel hgk
        cases gk with
        | zero =>
          have h2 : ¬ (k : Int) < (j : Int) := by omega
          have HG2 := Lib.hid (show ∀ x y, x < j + 1 → y < x → t.goodQ i l x y from fun x y hx hy => by
            rcases Nat.lt_or_ge x j with h | h
            · exact HGD.out x y h hy
            · obtain rfl : x = j := by omega
              exact HGK.out y (by omega))
          go_wp2_with fail
          go_roundg g
          case measure => omega
          case rel =>
            first
            | exact ⟨j + 1, by omega, by go_num, HG2.out, HX.out⟩
            | ((repeat apply Exists.intro)
               refine ⟨⟨j + 1, by omega, ?_, HG2.out, HX.out⟩, rfl⟩
               go_num)
        | succ g2 =>
          have h2 : (k : Int) < (j : Int) := by omega
          have hkj : k < j := by omega
          obtain ⟨bl', ol', b, hA5, hbl, cl0, hb, hbw⟩ := left_get (t := t) (HST.out.mono HX.out).left (k := k) (by rw [HN.out]; omega)
          simp only [Option.some.injEq, Addr.mk.injEq, and_true] at hA5
          obtain ⟨rfl, rfl⟩ := hA5
          have HBK := Lib.hid hb
          have HBW := Lib.hid hbw
          obtain ⟨u, hu⟩ : ∃ u, t.unlike i (a : Int) (b : Int) = u := ⟨_, rfl⟩
          have HU := Lib.hid hu
          clear hb hbw hu
          go_wp2_with fail
          refine (HU.out ▸ unlikeP_any C Aw Af Ao Ap As cw cf co cp cs t _ cl i a b _ (HST.out.mono HX.out) HOK.out HI.out HAW.out HBW.out).mono ?_
          rintro e w4 ⟨rfl, hb4⟩
          have HX4 := Lib.hid (bTrans HX.out hb4)
          clear hb4 cl0 hbl
          cases u
          · have HG2 := Lib.hid (show ∀ y, y < k + 1 → t.goodQ i l j y from fun y hy => by
              rcases Nat.lt_or_ge y k with h | h
              · exact HGK.out y h
              · obtain rfl : y = k := by omega
                unfold Pt.goodQ
                rw [HAJ.out, HBK.out, HU.out]
                intro h; cases h)
            go_wp2_with fail
            go_roundg g2
            case measure => omega
            case rel =>
              first
              | exact ⟨k + 1, by omega, by go_num, HG2.out, HX4.out⟩
              | ((repeat apply Exists.intro)
                 refine ⟨⟨k + 1, by omega, ?_, HG2.out, HX4.out⟩, rfl⟩
                 go_num)
          · go_wp2_with fail
            go_loopg [42] m (fun g3 s42 wy => ∃ z : Nat, z + g3 = m ∧ s42 = .int .i64 (z : Int) ∧ (∀ y, y < z → t.q.apart (tget l y) (a : Int) (b : Int) = false) ∧ Below w.heap.size w wy)
            case atStart => exact ⟨0, by omega, rfl, fun y h => absurd h (Nat.not_lt_zero _), HX4.out⟩
            case round =>
              obtain ⟨z, hzg, rfl, hgz, hbel⟩ := hrel
              have HGZ := Lib.hid hgz
              have HZ := Lib.hid hbel
              clear hbel hgz
              cases gk with
              | zero =>
                have h3 : ¬ (z : Int) < (m : Int) := by omega
                have HR := Lib.hid (show B = false by
                  rw [← HBB.out]
                  exact decB_bad (x := j) (y := k) (by rw [HN.out]; exact hjn) hkj (by rw [HAJ.out, HBK.out]; exact HU.out) (by rw [HAJ.out, HBK.out]; exact someB_none fun y hy => HGZ.out y (by rw [HM.out] at hy; omega)))
                go_wp2_with fail
                go_ret
                exact ⟨by rw [HR.out] <;> rfl, HZ.out⟩
              | succ g3 =>
                have h3 : (z : Int) < (m : Int) := by omega
                have hzm : z < m := by omega
                have hget := tget_some (l := l) (i := z) (by rw [HM.out]; exact hzm)
                have HTO := Lib.hid (HLO.out _ (tget_mem (l := l) (i := z) (by rw [HM.out]; exact hzm)))
                obtain ⟨x, hx⟩ : ∃ x, tget l z = x := ⟨_, rfl⟩
                rw [hx] at hget HTO
                have HXE := Lib.hid hx
                obtain ⟨bs, os, hAs, hbs, d0, d1⟩ := SliceE.tst (HAA.out.mono HZ.out) hget
                subst hAs
                obtain ⟨p, q⟩ := x
                obtain ⟨v, hv⟩ : ∃ v, t.q.apart (p, q) (a : Int) (b : Int) = v := ⟨_, rfl⟩
                have HV := Lib.hid hv
                clear hx hget hv
                go_wp2_with fail
                refine (HV.out ▸ tellsP_any C Aw Af Ao Ap As cw cf co cp cs t _ cl p q a b _ ((HST.out.mono HZ.out).mono (bAlloc (Below.refl _ _) _)) HOK.out HTO.out.1 HTO.out.2 HAW.out HBW.out).mono ?_
                rintro e w5 ⟨rfl, hb5⟩
                have HZ5 := Lib.hid (bTrans HZ.out (bTrans (bAlloc (Below.refl _ _) _) hb5))
                clear hb5 d0 d1 hbs
                cases v
                · have HG3 := Lib.hid (show ∀ y, y < z + 1 → t.q.apart (tget l y) (a : Int) (b : Int) = false from fun y hy => by
                    rcases Nat.lt_or_ge y z with h | h
                    · exact HGZ.out y h
                    · obtain rfl : y = z := by omega
                      rw [HXE.out]; exact HV.out)
                  go_wp2_with fail
                  go_roundg g3
                  case measure => omega
                  case rel =>
                    first
                    | exact ⟨z + 1, by omega, by go_num, HG3.out, HZ5.out⟩
                    | ((repeat apply Exists.intro)
                       refine ⟨⟨z + 1, by omega, ?_, HG3.out, HZ5.out⟩, rfl⟩
                       go_num)
                · have HG2 := Lib.hid (show ∀ y, y < k + 1 → t.goodQ i l j y from fun y hy => by
                    rcases Nat.lt_or_ge y k with h | h
                    · exact HGK.out y h
                    · obtain rfl : y = k := by omega
                      unfold Pt.goodQ
                      rw [HAJ.out, HBK.out]
                      exact fun _ => someB_hit (z := z) (by rw [HM.out]; exact hzm) (by rw [HXE.out]; exact HV.out))
                  go_wp2_with fail
                  go_roundg g2
                  case measure => omega
                  case rel =>
                    first
                    | exact ⟨k + 1, by omega, by go_num, HG2.out, HZ5.out⟩
                    | ((repeat apply Exists.intro)
                       refine ⟨⟨k + 1, by omega, ?_, HG2.out, HZ5.out⟩, rfl⟩
                       go_num)
end Go.Proofs.YtjpfdhhiofjpbaaGreatDoor

