/- Parts joined: what the claim PlacesDecide needs beyond the others. -/
import Derived.WalkKit
import Derived.WalkSpells
import Derived.WalkLawsBesides
import Derived.BigQuiet
import Derived.Lib.Hide
import Derived.Lib.QuietBelow
import Derived.Deep.RegionHeld3
import Derived.OwnWalk
import Derived.Laws.AppendOwn
import Derived.Laws.OwnMore
import Derived.Laws.IdiomCopy
import Derived.Deep.RegionLaw
import Derived.Lib.SliceRun
import Derived.ArgAppend
import Derived.RegionTactic
import Derived.Laws.MakeOwn
import Derived.Test.YtjpfdhhiofjpbaaGreatDoorProg
import Derived.Test.YtjpfdhhiofjpbaaGreatDoorTie
import Derived.ProofKit
import Derived.LaidMore
import Derived.OpenShut
import Derived.Deep.Slices
import Derived.Deep.Fields
import Derived.Stop.Joined
import Derived.Test.YtjpfdhhiofjpbaaGreatDoorNQA
import Derived.Test.YtjpfdhhiofjpbaaGreatDoorNQB
import Derived.Test.YtjpfdhhiofjpbaaGreatDoorNQC
import Derived.Test.YtjpfdhhiofjpbaaGreatDoorNQD
import Derived.Test.YtjpfdhhiofjpbaaGreatDoorNQE
import Derived.Test.YtjpfdhhiofjpbaaGreatDoorNQF
import Derived.Test.YtjpfdhhiofjpbaaGreatDoorNQG
import Derived.Test.YtjpfdhhiofjpbaaGreatDoorNQH
import Derived.Test.YtjpfdhhiofjpbaaGreatDoorNQI
import Derived.Test.YtjpfdhhiofjpbaaGreatDoorNQJ
import Derived.Test.YtjpfdhhiofjpbaaGreatDoorNQK
import Derived.Test.YtjpfdhhiofjpbaaGreatDoorNQL
import Derived.Test.YtjpfdhhiofjpbaaGreatDoorNQM
import Derived.Test.YtjpfdhhiofjpbaaGreatDoorNQN
import Derived.Test.YtjpfdhhiofjpbaaGreatDoorNQO
import Derived.Test.YtjpfdhhiofjpbaaGreatDoorNQP
import Derived.Test.YtjpfdhhiofjpbaaGreatDoorNQQ
import Derived.Test.YtjpfdhhiofjpbaaGreatDoorNQR
import Derived.Test.YtjpfdhhiofjpbaaGreatDoorNQS
import Derived.Test.YtjpfdhhiofjpbaaGreatDoorNQT
import Derived.Test.YtjpfdhhiofjpbaaGreatDoorNQU
set_option linter.unusedSimpArgs false
set_option linter.unusedVariables false
namespace Go.Proofs.YtjpfdhhiofjpbaaGreatDoor
open Go.RowKit Go.Sort
/-! ### Worlds -/
attribute [go_sem] cell_grow frozen_grow Instr.field asAgg
section
variable {w x y : World}
end
/-! ### Endings -/
/-! ### Plain notions -/
/-! ### How slices read -/
section
variable {P : Program} {ops : Array Oper} {md : Region.Mode}

/-! ### The frame behind some of the operations -/
/-! ### Operations that are calm: one value in every world that is the first one with new blocks; what they leave is that with new blocks -/
attribute [go_sem] Oper.calm Oper.calmAt Oper.calmUpon
/-! ### Whoever looks at a slot, and whoever writes it, wait for each other -/
end
section
variable {P : Program} {ops : Array Oper} {md : Region.Mode}
attribute [go_sem] Oper.heldAt Oper.heldUpon newer_refl depsP
end
section
variable {m : Nat} {g : Nat → Int} {x d n : Nat} {h : Nat → Int}
end
section
variable {P : Program} {ops : Array Oper} {md : Region.Mode}
theorem wpStir_call {W : World} {Q : Act → World → Prop} {k : Nat} {o : Oper} {l : List Oper} {c : Value} {hs : List Stir} {a : Act} {F : List (Nat × (World → Prop))} (hg : o.guard = none)
    (h1 : ∀ w', Below W.heap.size W w' → depsP md ops k F w' → Oper.stirAt P o a w' Newer (fun _ v => v = c))
    (h2 : wpStir P md ops W Q (k + 1) l hs (a.put o.dst c) F) : wpStir P md ops W Q k (o :: l) (.const c :: hs) a F := by
  refine wpStir_const ?_ h2
  unfold Region.wanted
  rw [hg, if_pos rfl]
  exact fun p => h1 _ (below_regrown _ _ _)
attribute [go_sem] Oper.stirAt Oper.stirUpon
end
/-! ### Bounds -/
/-! ### Spans -/
section
variable {P : Program} {ops : Array Oper} {md : Region.Mode}
end
/-! ### Rows of structs -/
/-! ### A row at hand -/
theorem cell_of_heap {w w' : World} {b : Nat} (h : w'.heap[b]? = w.heap[b]?) (o : Nat) : w'.cell? ⟨b, o, none⟩ = w.cell? ⟨b, o, none⟩ := World.cell?_of_block (a := ⟨b, o, none⟩) h
end Go.Proofs.YtjpfdhhiofjpbaaGreatDoor

namespace Go.Proofs.YtjpfdhhiofjpbaaGreatDoor
open Go.RowKit Go.Sort
/-- a fall in a world -/
def Qt.fallAt (t : Qt) (i : Nat) (p q : Int) : Int := (t.world i).fall p.toNat q.toNat
set_option maxHeartbeats 2000000 in
theorem fall5_any (Aw Af : Option Addr) (cw cf : Nat) (t : Qt) (i p q : Nat) (w : World) (ok : t.Ok) (hi : i < t.nw) (hp : (p : Int) < t.wells) (hq : (q : Int) < t.wells) (hT : QAt w Aw Af t) :
    Calls Tryz.prog 65 #[.agg #[.int .i64 t.wells, .slice Aw t.nw cw, .slice Af t.nf cf], .int .i64 i, .int .i64 p, .int .i64 q] w fun e w' => e = .returned (.int .i64 (t.fallAt i p q)) ∧ Below w.heap.size w w' := by
  obtain ⟨b, o, b', o', c', b'', o'', c'', n, m, v, rfl, a2, a3, a4, a5, a6, a7, hv, v0, v1, hn, hm⟩ := ok.at hT hi (p := p) (q := q) (by omega) hp (by omega) hq
  rw [Int.toNat_natCast] at a5
  rw [Int.toNat_natCast] at a7
  have HV := Lib.hid (show t.fallAt i p q = v from hv.symm)
  have HB := Lib.hid (bAlloc (Below.refl w.heap.size w) (.cells #[.int .i64 t.wells, .slice (some ⟨b, o, none⟩) t.nw cw, .slice Af t.nf cf] 25))
  have p1 : (p : Int) < (n : Int) := by omega
  have p0 : (0 : Int) ≤ (p : Int) := by omega
  have q1 : (q : Int) < (m : Int) := by omega
  have q0 : (0 : Int) ≤ (q : Int) := by omega
  have i1 : (i : Int) < (t.nw : Int) := by omega
  have i0 : (0 : Int) ≤ (i : Int) := by omega
  clear hv hn hm hi hp hq ok hT
  go_enter Tryz.func65, Tryz.ntmps65
  go_wp2_with fail
  go_ret
  exact ⟨by rw [HV.out]; rfl, HB.out⟩
end Go.Proofs.YtjpfdhhiofjpbaaGreatDoor

namespace Go.Proofs.YtjpfdhhiofjpbaaGreatDoor
/-- a test: two wells -/
abbrev Tp := Nat × Nat
/-- all tests of m wells, in order -/
def testsL (m : Nat) : List Tp := (List.range m).flatMap fun p => (List.range m).map fun q => (p, q)
theorem testsL_mem {m : Nat} {x : Tp} : x ∈ testsL m ↔ x.1 < m ∧ x.2 < m := by
  unfold testsL
  obtain ⟨a, b⟩ := x
  simp only [List.mem_flatMap, List.mem_map, List.mem_range, Prod.mk.injEq]
  constructor
  · rintro ⟨p, hp, q, hq, rfl, rfl⟩
    exact ⟨hp, hq⟩
  · rintro ⟨h1, h2⟩
    exact ⟨a, h1, b, h2, rfl, rfl⟩
theorem flat_len {m : Nat} {f : Nat → List Tp} (h : ∀ p, (f p).length = m) : ∀ k, ((List.range k).flatMap f).length = k * m
  | 0 => by simp
  | k + 1 => by rw [List.range_succ, List.flatMap_append, List.length_append, flat_len h k, Nat.succ_mul]; simp [h]
theorem testsL_len (m : Nat) : (testsL m).length = m * m := flat_len (fun p => by simp) m
/-- all lists of k of some tests, the first one first -/
def listsL : List Tp → Nat → List (List Tp)
  | _, 0 => [[]]
  | [], _ + 1 => []
  | x :: l, k + 1 => (listsL l k).map (x :: ·) ++ listsL l (k + 1)
theorem listsL_zero (l : List Tp) : listsL l 0 = [[]] := by cases l <;> rfl
theorem listsL_mem {x : List Tp} : ∀ {l : List Tp} {k : Nat}, x ∈ listsL l k ↔ List.Sublist x l ∧ x.length = k
  | l, 0 => by
    rw [listsL_zero, List.mem_singleton]
    constructor
    · rintro rfl
      exact ⟨List.nil_sublist _, rfl⟩
    · rintro ⟨_, h⟩
      exact List.eq_nil_of_length_eq_zero h
  | [], k + 1 => by
    constructor
    · intro h
      cases h
    · rintro ⟨h1, h2⟩
      rw [List.sublist_nil.1 h1] at h2
      cases h2
  | y :: l, k + 1 => by
    have i1 := fun x => @listsL_mem x l k
    have i2 := @listsL_mem x l (k + 1)
    unfold listsL
    rw [List.mem_append, List.mem_map, i2]
    constructor
    · rintro (⟨z, hz, rfl⟩ | ⟨h1, h2⟩)
      · obtain ⟨a, b⟩ := (i1 z).1 hz
        exact ⟨a.cons_cons y, by simp [b]⟩
      · exact ⟨h1.cons y, h2⟩
    · rintro ⟨h1, h2⟩
      cases h1 with
      | cons _ h => exact .inr ⟨h, h2⟩
      | cons_cons _ h => exact .inl ⟨_, (i1 _).2 ⟨h, by simpa using h2⟩, rfl⟩
theorem listsL_all : ∀ l : List Tp, listsL l l.length = [l]
  | [] => rfl
  | x :: l => by
    show (listsL l l.length).map (x :: ·) ++ listsL l (l.length + 1) = _
    have h0 : listsL l (l.length + 1) = [] := List.eq_nil_iff_forall_not_mem.2 fun y hy => by
      obtain ⟨h1, h2⟩ := listsL_mem.1 hy
      have := h1.length_le
      omega
    rw [listsL_all l, h0]
    rfl
/-- the first list of a, a + 1 .. of some tests (n rounds) of which something is so -/
def firstUpTo (l : List Tp) (p : List Tp → Bool) : Nat → Nat → Option (List Tp)
  | _, 0 => none
  | a, n + 1 => match (listsL l a).find? p with
    | some x => some x
    | none => firstUpTo l p (a + 1) n
/-- the first of the shortest lists of some tests of which something is so; all of them, if of no shorter one -/
def fewestL (l : List Tp) (p : List Tp → Bool) : List Tp := (firstUpTo l p 0 l.length).getD l
theorem firstUpTo_snoc (l : List Tp) (p : List Tp → Bool) : ∀ n a, firstUpTo l p a (n + 1) = match firstUpTo l p a n with
    | some x => some x
    | none => (listsL l (a + n)).find? p
  | 0, a => by
    simp only [firstUpTo, Nat.add_zero]
    cases (listsL l a).find? p <;> rfl
  | n + 1, a => by
    have ih := firstUpTo_snoc l p n (a + 1)
    rw [show firstUpTo l p a (n + 1 + 1) = (match (listsL l a).find? p with | some x => some x | none => firstUpTo l p (a + 1) (n + 1)) from rfl, ih,
      show firstUpTo l p a (n + 1) = (match (listsL l a).find? p with | some x => some x | none => firstUpTo l p (a + 1) n) from rfl]
    cases (listsL l a).find? p with
    | some x => rfl
    | none => simp only [show a + 1 + n = a + (n + 1) by omega]
theorem firstUpTo_spec (l : List Tp) (p : List Tp → Bool) : ∀ n a, (∀ x, firstUpTo l p a n = some x → List.Sublist x l ∧ p x = true ∧ a ≤ x.length ∧ x.length < a + n ∧ ∀ y, List.Sublist y l → p y = true → a ≤ y.length → x.length ≤ y.length) ∧
    (firstUpTo l p a n = none → ∀ y, List.Sublist y l → p y = true → a ≤ y.length → a + n ≤ y.length)
  | 0, a => ⟨(fun x h => by cases h), fun _ y _ _ h => by omega⟩
  | n + 1, a => by
    obtain ⟨i1, i2⟩ := firstUpTo_spec l p n (a + 1)
    rw [show firstUpTo l p a (n + 1) = (match (listsL l a).find? p with | some x => some x | none => firstUpTo l p (a + 1) n) from rfl]
    cases hf : (listsL l a).find? p with
    | some z =>
      refine ⟨fun x h => ?_, fun h => by cases h⟩
      obtain rfl : z = x := Option.some.inj h
      obtain ⟨h1, h2⟩ := listsL_mem.1 (List.mem_of_find?_eq_some hf)
      exact ⟨h1, List.find?_some hf, by omega, by omega, fun y _ _ hy => by omega⟩
    | none =>
      have hno : ∀ y, List.Sublist y l → p y = true → a ≤ y.length → a + 1 ≤ y.length := fun y h1 h2 h3 => by
        rcases Nat.eq_or_lt_of_le h3 with h4 | h4
        · have := List.find?_eq_none.1 hf y (listsL_mem.2 ⟨h1, h4.symm⟩)
          exact absurd h2 this
        · exact h4
      refine ⟨fun x h => ?_, fun h y h1 h2 h3 => ?_⟩
      · obtain ⟨a1, a2, a3, a4, a5⟩ := i1 x h
        exact ⟨a1, a2, by omega, by omega, fun y h1 h2 h3 => a5 y h1 h2 (hno y h1 h2 h3)⟩
      · have := i2 h y h1 h2 (hno y h1 h2 h3)
        omega
end Go.Proofs.YtjpfdhhiofjpbaaGreatDoor

namespace Go.Proofs.YtjpfdhhiofjpbaaGreatDoor
open Go.RowKit Go.Sort
/-- what a test shows in a world -/
def Qt.F (t : Qt) (i : Int) (x : Tp) : Int := (t.world i.toNat).fall x.1 x.2
def Qt.tests (t : Qt) : List Tp := testsL t.wells.toNat
def Qt.apart (t : Qt) (x : Tp) (a b : Int) : Bool := t.F a x != t.F b x
def Qt.someB (t : Qt) (l : List Tp) (a b : Int) : Bool := l.any fun x => t.apart x a b
/-! ### How many tests are enough -/
end Go.Proofs.YtjpfdhhiofjpbaaGreatDoor

namespace Go.Proofs.YtjpfdhhiofjpbaaGreatDoor
open Go.RowKit Go.Sort
theorem Elem.cells_len {α : Type} {E : Elem α} (g : E.Good) : ∀ l : List α, (E.cells l).length = l.length * E.size
  | [] => by simp [Elem.cells]
  | x :: l => by
    have ih := Elem.cells_len g l
    unfold Elem.cells at ih ⊢
    rw [List.flatMap_cons, List.length_append, g.len, ih, List.length_cons, Nat.succ_mul, Nat.add_comm]
theorem Elem.cells_get {α : Type} {E : Elem α} (g : E.Good) : ∀ {l : List α} {j : Nat} {x : α} (i : Nat), l[j]? = some x → i < E.size → (E.cells l)[j * E.size + i]? = (E.enc x)[i]?
  | [], j, x, i, h, _ => by simp at h
  | y :: l, 0, x, i, h, hi => by
    obtain rfl : y = x := by simpa using h
    unfold Elem.cells
    rw [List.flatMap_cons, Nat.zero_mul, Nat.zero_add, List.getElem?_append_left (by rw [g.len]; exact hi)]
  | y :: l, j + 1, x, i, h, hi => by
    have ih := Elem.cells_get g (l := l) (j := j) (x := x) i (by simpa using h) hi
    unfold Elem.cells at ih ⊢
    rw [List.flatMap_cons, List.getElem?_append_right (by rw [g.len, Nat.succ_mul]; omega), g.len, Nat.succ_mul, show j * E.size + E.size + i - E.size = j * E.size + i by omega]
    exact ih
section
variable {α : Type} {E : Elem α} {w w' : World} {base : Nat} {v : Value} {l : List α}
theorem OwnE.nil (E : Elem α) (w : World) (base : Nat) : OwnE E w base (.slice none 0 0) [] := World.ownsRow_nil _ _ _ _
theorem OwnE.lower {base' : Nat} (h : OwnE E w base v l) (hb : base' ≤ base) : OwnE E w base' v l := owns_lower h hb
/-- a slice that reads as a list -/
def SliceE (E : Elem α) (w : World) (v : Value) (l : List α) : Prop := ∃ A c, v = .slice A l.length c ∧ RowAt w A (E.cells l)
theorem OwnE.read (h : OwnE E w base v l) : SliceE E w v l := by
  rcases Nat.eq_zero_or_pos l.length with h0 | h0
  · obtain rfl := List.eq_nil_of_length_eq_zero h0
    rcases h.2 with ⟨rfl, _⟩ | ⟨g, cap, cur, rfl, _⟩
    · exact ⟨_, _, rfl, .inl rfl⟩
    · exact ⟨_, _, rfl, .inl rfl⟩
  · obtain ⟨A, c, e, hr⟩ := AtHand.row (N := base) (.inr ⟨h0, h⟩)
    exact ⟨A, c, e, hr⟩
theorem RowAt.elem (g : E.Good) {A : Option Addr} (h : RowAt w A (E.cells l)) {j : Nat} {x : α} (hj : l[j]? = some x) : ∃ b o, A = some ⟨b, o, none⟩ ∧ b < w.heap.size ∧ ∀ i u, (E.enc x)[i]? = some u → w.cell? ⟨b, o + (j * E.size + i), none⟩ = some u := by
  have hget := fun i (hi : i < E.size) => Elem.cells_get g (l := l) (j := j) (x := x) i hj hi
  rcases h with h | ⟨b, o, rfl, hlt, hc⟩
  · have h1 := hget 0 g.pos
    rw [h] at h1
    have : (E.enc x).length = E.size := g.len x
    have h2 : (E.enc x)[0]? = some ((E.enc x)[0]'(by rw [this]; exact g.pos)) := List.getElem?_eq_getElem _
    rw [h2] at h1
    simp at h1
  · refine ⟨b, o, rfl, hlt, fun i u hu => hc _ u ?_⟩
    have hi : i < (E.enc x).length := by
      rcases Nat.lt_or_ge i (E.enc x).length with h | h
      · exact h
      · rw [List.getElem?_eq_none h] at hu; cases hu
    rw [hget i (by rw [← g.len x]; exact hi)]
    exact hu
/-- 'append(out, x)' -/
theorem wpList_snocE (g : E.Good) (w : World) {ops : Array Oper} {rest : List Oper} {o : Oper} {a : Act} {Q : Exit → Act → World → Prop} (hg : o.guard = none) (s x : Operand) (hop : o.op = Op.call { callee := Callee.builtin Builtin.append, args := #[s, x], argTypes := #[E.sl, E.sl] })
    (base : Nat) (v : Value) (l : List α) (y : α) (hs : a.eval s = v) (hown : OwnE E w base v l) (b : Nat) (hx : a.eval x = .slice (some ⟨b, 0, none⟩) 1 1) (hc : ∀ i u, (E.enc y)[i]? = some u → w.cell? ⟨b, i, none⟩ = some u) (hlen : l.length ≤ 100000) (hbase : base ≤ w.heap.size)
    (h : ∀ v' w', OwnE E w' base v' (l ++ [y]) → (∀ b0 W, b0 ≤ base → Below b0 W w → Below b0 W w') → w.grownBy w' v.ownBlock → v' ≠ .slice none 0 0 → wpList Tryz.prog ops Q rest (a.put o.dst v') w') : wpList Tryz.prog ops Q (o :: rest) a w := by
  obtain ⟨i0, hi, iz0, iz1, iz2⟩ := info_parts g.info
  refine wpList_append_own w hg s x E.sl hop base E.ty i0 E.z E.size E.bytes g.und hi iz0 iz1 iz2 g.zs g.pos v l.length (E.cells l) hs hown ⟨b, 0, none⟩ 1 1 (E.enc y) hx (by rw [g.len, Nat.one_mul]) (fun j u hj => ?_) (fun u hu => g.one y u hu) (by unfold maxLen; omega) (by have := g.by_; exact Nat.le_trans (Nat.mul_le_mul (show l.length + 1 ≤ 100001 by omega) this) (by decide)) hbase fun v' w' h1 h2 h3 => ?_
  · have := hc j u hj
    rwa [show (⟨b, 0, none⟩ : Addr).add j = ⟨b, j, none⟩ from by unfold Addr.add; split <;> simp_all]
  · refine h v' w' ?_ (fun b0 W hb hB => hB.grown h2 (Nat.le_trans hb hbase) fun k hk => Nat.le_trans hb (hown.lt k hk).1) h2 fun e => ?_
    · show w'.ownsRow base E.ty E.size v' (l ++ [y]).length (E.cells (l ++ [y]))
      rw [List.length_append, show E.cells (l ++ [y]) = E.cells l ++ E.enc y from by simp [Elem.cells]]
      exact h1
    · have := h3.1 e
      omega
end
/-! ### Tests, pairs of worlds -/
def tstE : Elem Tp := { enc := fun x => [.int .i64 x.1, .int .i64 x.2], size := 2, ty := 79, sl := 71, z := .agg #[.int .i64 0, .int .i64 0], bytes := 16 }
theorem tstG : tstE.Good :=
  ⟨by kernel_rfl, Tryz.underlying71, by decide, by decide, fun _ => rfl, fun x u hu => by
    rcases (by simpa [tstE] using hu : u = .int .i64 x.1 ∨ u = .int .i64 x.2) with rfl | rfl <;> rfl, by decide⟩
theorem SliceE.tst {w : World} {A : Option Addr} {l : List Tp} (h : RowAt w A (tstE.cells l)) {j : Nat} {x : Tp} (hj : l[j]? = some x) : ∃ b o, A = some ⟨b, o, none⟩ ∧ b < w.heap.size ∧ w.cell? ⟨b, o + j * 2, none⟩ = some (.int .i64 x.1) ∧ w.cell? ⟨b, o + j * 2 + 1, none⟩ = some (.int .i64 x.2) := by
  obtain ⟨b, o, h1, h2, h3⟩ := RowAt.elem tstG h hj
  exact ⟨b, o, h1, h2, h3 0 _ rfl, h3 1 _ rfl⟩
end Go.Proofs.YtjpfdhhiofjpbaaGreatDoor

namespace Go.Proofs.YtjpfdhhiofjpbaaGreatDoor
open Go.RowKit Go.Sort
theorem fallAt_F (t : Qt) (i p q : Nat) : t.fallAt i p q = t.F (i : Int) (p, q) := by
  unfold Qt.fallAt Qt.F
  rw [Int.toNat_natCast, Int.toNat_natCast, Int.toNat_natCast]
end Go.Proofs.YtjpfdhhiofjpbaaGreatDoor

namespace Go.Proofs.YtjpfdhhiofjpbaaGreatDoor
open Go.RowKit Go.Sort
/-- tests of a town -/
def Qt.TestsOk (t : Qt) (l : List Tp) : Prop := ∀ x, x ∈ l → (x.1 : Int) < t.wells ∧ (x.2 : Int) < t.wells
def tget (l : List Tp) (i : Nat) : Tp := l[i]?.getD (0, 0)
theorem tget_mem {l : List Tp} {i : Nat} (h : i < l.length) : tget l i ∈ l := by
  unfold tget
  rw [List.getElem?_eq_getElem h]
  exact List.getElem_mem h
theorem tget_some {l : List Tp} {i : Nat} (h : i < l.length) : l[i]? = some (tget l i) := by
  unfold tget
  rw [List.getElem?_eq_getElem h]
  rfl
theorem any_tget (l : List Tp) (p : Tp → Bool) : anyB (fun i => p (tget l i)) l.length = l.any p := by
  refine Bool.eq_iff_iff.2 ?_
  rw [anyB_true, List.any_eq_true]
  constructor
  · rintro ⟨i, hi, h⟩
    exact ⟨_, tget_mem hi, h⟩
  · rintro ⟨x, hx, h⟩
    obtain ⟨i, hi, rfl⟩ := List.getElem_of_mem hx
    exact ⟨i, hi, by unfold tget; rw [List.getElem?_eq_getElem hi]; exact h⟩
end Go.Proofs.YtjpfdhhiofjpbaaGreatDoor

namespace Go.Proofs.YtjpfdhhiofjpbaaGreatDoor
open Go.RowKit Go.Sort
/-- 'append(l[:len(l):len(l)], x)': always new memory -/
theorem stir_full {α : Type} {E : Elem α} (g : E.Good) {o : Oper} {a : Act} (w : World) (s x : Operand) (hop : o.op = Op.call { callee := Callee.builtin Builtin.append, args := #[s, x], argTypes := #[E.sl, E.sl] })
    (A : Option Addr) (l : List α) (y : α) (hs : a.eval s = .slice A l.length l.length) (hA : A = none → l = []) (hr : RowAt w A (E.cells l)) (b : Nat) (hx : a.eval x = .slice (some ⟨b, 0, none⟩) 1 1) (hc : ∀ i u, (E.enc y)[i]? = some u → w.cell? ⟨b, i, none⟩ = some u) (hlen : l.length ≤ 100000) (N : Nat) (hN : N ≤ w.heap.size) :
    Oper.stirAt Tryz.prog o a w Newer (fun w' v => ShapeOf (l.length + 1) v ∧ OwnE E w' N v (l ++ [y])) := by
  obtain ⟨i0, hi, iz0, iz1, iz2⟩ := info_parts g.info
  have hby : (l.length + 1) * E.bytes ≤ 140737488355328 := by have := g.by_; exact Nat.le_trans (Nat.mul_le_mul (show l.length + 1 ≤ 100001 by omega) this) (by decide)
  have h63 : l.length + 1 ≤ maxLen := by unfold maxLen; omega
  have hnews : ∀ j u, (E.enc y)[j]? = some u → w.cell? ((⟨b, 0, none⟩ : Addr).add j) = some u := fun j u h => by
    rw [show (⟨b, 0, none⟩ : Addr).add j = ⟨b, j, none⟩ from by unfold Addr.add; split <;> simp_all]; exact hc j u h
  have hl1 : (E.enc y).length = 1 * E.size := by rw [g.len, Nat.one_mul]
  have fin : ∀ v' w', (Builtin.append_ #[E.sl, E.sl] o.type #[.slice A l.length l.length, .slice (some ⟨b, 0, none⟩) 1 1]).run Tryz.prog w = .ok v' w' → Below w.heap.size w w' → w'.ownsRow N E.ty E.size v' (l.length + 1) (E.cells l ++ E.enc y) → Oper.stirAt Tryz.prog o a w Newer (fun w' v => ShapeOf (l.length + 1) v ∧ OwnE E w' N v (l ++ [y])) := fun v' w' hrun hb hown => by
    unfold Oper.stirAt
    simp only [execOp, hop, resolve, invoke, builtin, List.map_toArray, List.map_cons, List.map_nil, hs, hx, hrun, Result.andThen, Sem.run_bind, Sem.run_pure, Oper.stirUpon]
    obtain ⟨g', cap, hg⟩ := owns_form hown (by omega)
    refine ⟨hb, ⟨g', cap, hg⟩, ?_⟩
    show w'.ownsRow N E.ty E.size v' (l ++ [y]).length (E.cells (l ++ [y]))
    rw [List.length_append, show E.cells (l ++ [y]) = E.cells l ++ E.enc y from by simp [Elem.cells]]
    exact hown
  cases A with
  | none =>
    obtain rfl := hA rfl
    obtain ⟨v', w', hr', h2, h3, _⟩ := run_append_own (P := Tryz.prog) w N E.sl o.type E.ty i0 E.z E.size E.bytes g.und hi iz0 iz1 iz2 g.zs g.pos (.slice none 0 0) 0 [] (World.ownsRow_nil _ _ _ _) ⟨b, 0, none⟩ 1 1 (E.enc y) hl1 hnews (g.one y) (by simpa using h63) (by simpa using hby) hN
    exact fin v' w' hr' (below_grown h3) (by simpa [Elem.cells] using h2)
  | some ad =>
    have holds : ∀ j u, (E.cells l)[j]? = some u → w.cell? (ad.add j) = some u := fun j u h => by
      rcases hr with hr | ⟨b', o', e, hlt, hc'⟩
      · rw [hr] at h; simp at h
      · obtain rfl : ad = ⟨b', o', none⟩ := Option.some.inj e
        rw [show (⟨b', o', none⟩ : Addr).add j = ⟨b', o' + j, none⟩ from by unfold Addr.add; split <;> simp_all]
        exact hc' j u h
    obtain ⟨v', w', hrun, hown, hg⟩ := run_append_arg_grows (P := Tryz.prog) w E.sl o.type E.ty i0 E.z E.size E.bytes g.und hi iz0 iz1 iz2 g.zs g.pos ad l.length l.length (E.cells l) (Elem.cells_len g l) holds ⟨b, 0, none⟩ 1 1 (E.enc y) hl1 hnews (by omega) h63 hby
    exact fin v' w' hrun (below_grown hg) (owns_lower hown hN)
/-- a slice of tests that one may read and go on with -/
def LstAt (w : World) (A : Option Addr) (c : Nat) (l : List Tp) : Prop :=
  (l = [] ∧ A = none ∧ c = 0) ∨ (l ≠ [] ∧ (∃ g, A = some ⟨g, 0, none⟩) ∧ RowAt w A (tstE.cells l) ∧ l.length ≤ c ∧ c ≤ 9223372036854775807)
theorem LstAt.mono {w w' : World} {A : Option Addr} {c : Nat} {l : List Tp} (h : LstAt w A c l) (hb : Below w.heap.size w w') : LstAt w' A c l :=
  h.imp id fun ⟨h1, h2, h3, h4⟩ => ⟨h1, h2, h3.mono hb, h4⟩
theorem LstAt.row {w : World} {A : Option Addr} {c : Nat} {l : List Tp} (h : LstAt w A c l) : RowAt w A (tstE.cells l) := by
  rcases h with ⟨rfl, _⟩ | ⟨_, _, h, _⟩
  · exact .inl rfl
  · exact h
theorem LstAt.cap {w : World} {A : Option Addr} {c : Nat} {l : List Tp} (h : LstAt w A c l) : l.length ≤ c ∧ c ≤ 9223372036854775807 := by
  rcases h with ⟨rfl, _, rfl⟩ | ⟨_, _, _, h⟩
  · exact ⟨Nat.le_refl _, by omega⟩
  · exact h
theorem LstAt.none {w : World} {A : Option Addr} {c : Nat} {l : List Tp} (h : LstAt w A c l) : A = none → l = [] := by
  rcases h with ⟨rfl, _⟩ | ⟨_, ⟨g, rfl⟩, _⟩
  · exact fun _ => rfl
  · intro h; cases h
theorem OwnE.lst {w : World} {base : Nat} {v : Value} {l : List Tp} (h : OwnE tstE w base v l) (h0 : l ≠ []) : ∃ g c, v = .slice (some ⟨g, 0, none⟩) l.length c ∧ LstAt w (some ⟨g, 0, none⟩) c l := by
  obtain ⟨A, c, e, hr⟩ := h.read
  have hp : 0 < l.length := List.length_pos_iff.2 h0
  rcases h.2 with ⟨rfl, h1⟩ | ⟨g, cap, cur, rfl, _, _, h3, h4, _⟩
  · omega
  · injection e with e1 _ e2
    subst e1 e2
    exact ⟨g, _, rfl, .inr ⟨h0, ⟨g, rfl⟩, hr, h3, by unfold maxLen at h4; omega⟩⟩
/-- the first list behind others -/
theorem find_step {Z : List Tp} {i : Nat} {x : Tp} {P : List Tp → Bool} {k : Nat} (h : Z[i]? = some x) : (listsL (Z.drop i) (k + 1)).find? P = match (listsL (Z.drop (i + 1)) k).find? (fun y => P (x :: y)) with
    | some y => some (x :: y)
    | none => (listsL (Z.drop (i + 1)) (k + 1)).find? P := by
  have e : Z.drop i = x :: Z.drop (i + 1) := by
    obtain ⟨hi, rfl⟩ := List.getElem?_eq_some_iff.1 h
    exact List.drop_eq_getElem_cons hi
  rw [e]
  show ((listsL (Z.drop (i + 1)) k).map (x :: ·) ++ listsL (Z.drop (i + 1)) (k + 1)).find? P = _
  rw [List.find?_append, List.find?_map]
  show (((listsL (Z.drop (i + 1)) k).find? (fun y => P (x :: y))).map (x :: ·)).or _ = _
  cases (listsL (Z.drop (i + 1)) k).find? (fun y => P (x :: y)) <;> rfl
theorem find_end {Z : List Tp} {P : List Tp → Bool} {k i : Nat} (h : Z.length ≤ i) : (listsL (Z.drop i) (k + 1)).find? P = none := by
  rw [List.drop_eq_nil_of_le h]
  rfl
end Go.Proofs.YtjpfdhhiofjpbaaGreatDoor

namespace Go.Proofs.YtjpfdhhiofjpbaaGreatDoor
open Go.RowKit Go.Sort
def oneS (v : Value) : Prop := ∃ b, v = .slice (some ⟨b, 0, none⟩) 1 1
def oneR (x : Tp) (w : World) (v : Value) : Prop := ∀ b, v = .slice (some ⟨b, 0, none⟩) 1 1 → b < w.heap.size ∧ ∀ i u, (tstE.enc x)[i]? = some u → w.cell? ⟨b, i, none⟩ = some u
theorem oneG (x : Tp) : (Stir.held oneS (oneR x)).good := ⟨⟨_, 0, rfl⟩, fun _ _ _ hb h b e => ⟨Nat.lt_of_lt_of_le (h b e).1 hb.size, fun i u hu => (hb.cell (p := ⟨b, i, none⟩) (h b e).1).trans ((h b e).2 i u hu)⟩⟩
theorem ownG (n N : Nat) (l : List Tp) : (Stir.held (ShapeOf n) (fun w v => OwnE tstE w N v l)).good := ⟨⟨_, 0, 0, rfl⟩, fun _ _ _ hb h => OwnE.mono h hb⟩
theorem oneR_new (x : Tp) (w : World) : oneR x (w.alloc (.cells #[.int .i64 x.1, .int .i64 x.2] 79)) (.slice (some ⟨w.heap.size, 0, none⟩) 1 1) := fun b e => by
  obtain rfl : w.heap.size = b := by simpa using e
  refine ⟨by simp, fun i u hu => ?_⟩
  match i, hu with
  | 0, hu =>
    obtain rfl : Value.int .i64 x.1 = u := by simpa [tstE] using hu
    simp [go_sem]
  | 1, hu =>
    obtain rfl : Value.int .i64 x.2 = u := by simpa [tstE] using hu
    simp [go_sem]
end Go.Proofs.YtjpfdhhiofjpbaaGreatDoor

namespace Go.Proofs.YtjpfdhhiofjpbaaGreatDoor
open Go.RowKit Go.Sort
theorem firstUpTo_keep {Z : List Tp} {p : List Tp → Bool} {x : List Tp} {k : Nat} (h : firstUpTo Z p 0 k = some x) : ∀ m, firstUpTo Z p 0 (k + m) = some x
  | 0 => h
  | m + 1 => by rw [← Nat.add_assoc, firstUpTo_snoc, firstUpTo_keep h m]
theorem first_found {Z : List Tp} {p : List Tp → Bool} {x : List Tp} {k : Nat} (h0 : firstUpTo Z p 0 k = none) (h1 : (listsL Z k).find? p = some x) (hk : k ≤ Z.length) : fewestL Z p = x := by
  have h2 : firstUpTo Z p 0 (k + 1) = some x := by
    rw [firstUpTo_snoc, h0, Nat.zero_add]
    exact h1
  unfold fewestL
  rcases Nat.eq_or_lt_of_le hk with e | e
  · subst e
    rw [h0]
    rw [listsL_all, List.find?_cons] at h1
    split at h1
    · exact Option.some.inj h1
    · simp at h1
  · obtain ⟨m, hm⟩ : ∃ m, Z.length = k + 1 + m := ⟨Z.length - k - 1, by omega⟩
    rw [hm, firstUpTo_keep h2 m]
    rfl
end Go.Proofs.YtjpfdhhiofjpbaaGreatDoor

namespace Go.Proofs.YtjpfdhhiofjpbaaGreatDoor
open Go.RowKit Go.Sort Go.Shelf
attribute [local go_sem] Oper.semAt_some
/-- the tests ahead of one -/
def testsTo (m p q : Nat) : List Tp := ((List.range p).flatMap fun p => (List.range m).map fun q => (p, q)) ++ (List.range q).map fun q => (p, q)
theorem testsTo_snoc (m p q : Nat) : testsTo m p (q + 1) = testsTo m p q ++ [(p, q)] := by
  unfold testsTo
  rw [List.range_succ, List.map_append, List.append_assoc]
  rfl
theorem testsTo_row (m p : Nat) : testsTo m p m = testsTo m (p + 1) 0 := by
  unfold testsTo
  rw [List.range_succ, List.flatMap_append]
  simp
theorem testsTo_all (m : Nat) : testsTo m m 0 = testsL m := by
  unfold testsTo testsL
  simp
theorem testsTo_len (m p q : Nat) : (testsTo m p q).length = p * m + q := by
  unfold testsTo
  rw [List.length_append, flat_len (m := m) (fun p => by simp)]
  simp
end Go.Proofs.YtjpfdhhiofjpbaaGreatDoor

namespace Go.Proofs.YtjpfdhhiofjpbaaGreatDoor
open Go.RowKit Go.Sort Go.Shelf
def ShapeL (n : Nat) (v : Value) : Prop := ∃ A c, v = .slice A n c
end Go.Proofs.YtjpfdhhiofjpbaaGreatDoor

namespace Go.Proofs.YtjpfdhhiofjpbaaGreatDoor
open Go.RowKit Go.Sort Go.Shelf
theorem sameT_nat (p q i j : Nat) : sameT p q i j = decide ((p, q) = (i, j)) := by
  unfold sameT
  rw [decide_eq_decide]
  simp
  omega
attribute [go_sem ↓] eqlT neqT
end Go.Proofs.YtjpfdhhiofjpbaaGreatDoor

namespace Go.Proofs.YtjpfdhhiofjpbaaGreatDoor
open Go.RowKit Go.Sort
set_option maxHeartbeats 2000000 in
set_option maxRecDepth 100000 in
theorem sameTests_any (A B : Option Addr) (c c' : Nat) (l l' : List Tp) (w : World) (h1 : l.length ≤ 100000) (h2 : l'.length ≤ 100000) (hA : RowAt w A (tstE.cells l)) (hB : RowAt w B (tstE.cells l')) :
    Calls Tryz.prog 61 #[.slice A l.length c, .slice B l'.length c'] w fun e w' => e = .returned (.bool (decide (l = l'))) ∧ Below w.heap.size w w' := by
  have HA := Lib.hid hA
  have HB := Lib.hid hB
  clear hA hB
  obtain ⟨n, hn⟩ : ∃ n, l.length = n := ⟨_, rfl⟩
  obtain ⟨m, hm⟩ : ∃ m, l'.length = m := ⟨_, rfl⟩
  rw [hn] at h1 ⊢
  rw [hm] at h2 ⊢
  have HN := Lib.hid hn
  have HM := Lib.hid hm
  clear hn hm
  by_cases he : n = m
  · subst he
    go_enter Tryz.func61, Tryz.ntmps61
    go_wp2_with fail
    go_loopw [5] (fun i wr => ∃ k : Nat, k ≤ n ∧ i = .int .i64 k ∧ (∀ k' : Nat, k' < k → l[k']? = l'[k']?) ∧ Below w.heap.size w wr) (fun i _ => n - (intOf i).toNat)
    case atStart => exact ⟨0, Nat.zero_le _, rfl, fun k' hk' => absurd hk' (Nat.not_lt_zero _), Below.refl _ _⟩
    case round =>
      obtain ⟨k, hk, rfl, hall, hbel⟩ := hrel
      have HL := Lib.hid hbel
      have HALL := Lib.hid hall
      clear hall hbel
      by_cases hlt : k < n
      · obtain ⟨x, hx⟩ : ∃ x, l[k]? = some x := ⟨_, List.getElem?_eq_getElem (by rw [HN.out]; exact hlt)⟩
        obtain ⟨y, hy⟩ : ∃ y, l'[k]? = some y := ⟨_, List.getElem?_eq_getElem (by rw [HM.out]; exact hlt)⟩
        obtain ⟨b, o, rfl, hb, c0, c1⟩ := SliceE.tst (HA.out.mono HL.out) hx
        obtain ⟨b2, o2, rfl, hb2, d0, d1⟩ := SliceE.tst (HB.out.mono HL.out) hy
        obtain ⟨p, q⟩ := x
        obtain ⟨p2, q2⟩ := y
        have k1 : (k : Int) < (n : Int) := by omega
        have k0 : (0 : Int) ≤ (k : Int) := by omega
        obtain ⟨bs, hbs⟩ : ∃ bs, sameT p q p2 q2 = bs := ⟨_, rfl⟩
        have HBS := Lib.hid (show decide (((p, q) : Tp) = (p2, q2)) = bs by rw [← sameT_nat, hbs])
        have HX := Lib.hid hx
        have HY := Lib.hid hy
        clear hx hy
        cases bs
        · have HNE := Lib.hid (show decide (l = l') = false by
            refine decide_eq_false fun e => ?_
            subst e
            have := HX.out.symm.trans HY.out
            injection this with this
            exact absurd this (of_decide_eq_false HBS.out))
          go_wp2_with fail
          refine wp_region_quiet_below (by kernel_rfl) (by kernel_rfl) ?_
          repeat (go_big_quiet_step ((fail)))
          refine wpQuiet_nil ?_
          intro w3 hw3
          have HB3 := Lib.hid (bTrans HL.out (below_of_regrown hw3))
          clear hw3
          go_wp2_with fail
          go_ret
          exact ⟨ret_bool (by rw [HNE.out]), HB3.out⟩
        · have HAX := Lib.hid (show ∀ k' : Nat, k' < k + 1 → l[k']? = l'[k']? from fun k' hk' => by
            rcases Nat.lt_or_ge k' k with h | h
            · exact HALL.out k' h
            · obtain rfl : k' = k := by omega
              rw [HX.out, HY.out, of_decide_eq_true HBS.out])
          go_wp2_with fail
          refine wp_region_quiet_below (by kernel_rfl) (by kernel_rfl) ?_
          repeat (go_big_quiet_step ((fail)))
          refine wpQuiet_nil ?_
          intro w3 hw3
          have HB3 := Lib.hid (bTrans HL.out (below_of_regrown hw3))
          clear hw3
          go_wp2_with fail
          go_roundw
          case rel =>
            first
            | exact ⟨k + 1, by omega, by go_num, HAX.out, HB3.out⟩
            | ((repeat apply Exists.intro)
               refine ⟨⟨k + 1, by omega, ?_, HAX.out, HB3.out⟩, rfl⟩
               go_num)
          case measure => simp [intOf]; omega
      · obtain rfl : k = n := by omega
        have HEQ := Lib.hid (show decide (l = l') = true by
          refine decide_eq_true (List.ext_getElem? fun i => ?_)
          rcases Nat.lt_or_ge i k with h | h
          · exact HALL.out i h
          · rw [List.getElem?_eq_none (by rw [HN.out]; exact h), List.getElem?_eq_none (by rw [HM.out]; exact h)])
        go_wp2_with fail
        go_ret
        exact ⟨ret_bool (by rw [HEQ.out]), HL.out⟩
  · have g0 : ((n : Int) == (m : Int)) = false := by simp; omega
    have g1 : ((n : Int) != (m : Int)) = true := by simp; omega
    have HNE := Lib.hid (show decide (l = l') = false from decide_eq_false fun e => he (by rw [← HN.out, ← HM.out, e]))
    clear he
    go_enter Tryz.func61, Tryz.ntmps61
    go_wp2_with fail
    go_ret
    exact ⟨ret_bool (by rw [HNE.out]), Below.refl _ _⟩
end Go.Proofs.YtjpfdhhiofjpbaaGreatDoor

namespace Go.Proofs.YtjpfdhhiofjpbaaGreatDoor
open Go.RowKit Go.Sort
set_option maxHeartbeats 4000000 in
set_option maxRecDepth 100000 in
theorem tests5_any (Aw Af : Option Addr) (cw cf m : Nat) (t : Qt) (w : World) (hm : t.wells = (m : Int)) (m4 : m ≤ 4) :
    Calls Tryz.prog 113 #[.agg #[.int .i64 t.wells, .slice Aw t.nw cw, .slice Af t.nf cf]] w fun e w' => (∃ v, e = .returned v ∧ OwnE tstE w' w.heap.size v t.tests) ∧ Below w.heap.size w w' := by
  have HTE := Lib.hid (show t.tests = testsL m by unfold Qt.tests; rw [hm]; rfl)
  have HB := Lib.hid (bAlloc (Below.refl w.heap.size w) (.cells #[.int .i64 m, .slice Aw t.nw cw, .slice Af t.nf cf] 25))
  rw [HTE.out, hm]
  clear hm
  go_enter Tryz.func113, Tryz.ntmps113
  go_wp2_with fail
  go_loopw [3, 4] (fun v i wr => ∃ p : Nat, p ≤ m ∧ i = .int .i64 p ∧ OwnE tstE wr (w.heap.size + 1) v (testsTo m p 0) ∧ Below (w.heap.size + 1) (w.alloc (.cells #[.int .i64 m, .slice Aw t.nw cw, .slice Af t.nf cf] 25)) wr) (fun _ i _ => m - (intOf i).toNat)
  case atStart => exact ⟨0, Nat.zero_le _, rfl, OwnE.nil _ _ _, by have := Below.refl (w.alloc (.cells #[.int .i64 m, .slice Aw t.nw cw, .slice Af t.nf cf] 25)).heap.size (w.alloc (.cells #[.int .i64 m, .slice Aw t.nw cw, .slice Af t.nf cf] 25)); simpa using this⟩
  case round =>
    obtain ⟨p, hp, rfl, hown, hbel⟩ := hrel
    have HO := Lib.hid hown
    have HL := Lib.hid hbel
    have y0 := (hbel.cell (p := ⟨w.heap.size, 0, none⟩) (by show w.heap.size < w.heap.size + 1; omega)).trans (show _ = some (.int .i64 m) by simp [go_sem])
    have hz := hbel.size
    simp only [World.size_alloc] at hz
    have hy : w.heap.size < wr.heap.size := by omega
    clear hown hbel
    by_cases hpm : p < m
    · have p1 : (p : Int) < (m : Int) := by omega
      go_wp2_with fail
      clear y0 hz hy
      go_loopw [3, 5] (fun v i wx => ∃ q : Nat, q ≤ m ∧ i = .int .i64 q ∧ OwnE tstE wx (w.heap.size + 1) v (testsTo m p q) ∧ Below (w.heap.size + 1) (w.alloc (.cells #[.int .i64 m, .slice Aw t.nw cw, .slice Af t.nf cf] 25)) wx) (fun _ i _ => m - (intOf i).toNat)
      case atStart => exact ⟨0, Nat.zero_le _, rfl, HO.out, HL.out⟩
      case round =>
        obtain ⟨q, hq, rfl, hown, hbel⟩ := hrel
        have HO2 := Lib.hid hown
        have HL2 := Lib.hid hbel
        have y0 := (hbel.cell (p := ⟨w.heap.size, 0, none⟩) (by show w.heap.size < w.heap.size + 1; omega)).trans (show _ = some (.int .i64 m) by simp [go_sem])
        have hz := hbel.size
        simp only [World.size_alloc] at hz
        have hy : w.heap.size < wr.heap.size := by omega
        clear hown hbel
        by_cases hqm : q < m
        · have q1 : (q : Int) < (m : Int) := by omega
          have HLE := Lib.hid (show (testsTo m p q).length ≤ 100000 by rw [testsTo_len]; have : p * m ≤ 4 * 4 := Nat.mul_le_mul (by omega) m4; omega)
          go_wp2_with (at_builtin; refine wpList_snocE tstG _ rfl (Operand.tmp 18) (Operand.tmp 22) rfl (w.heap.size + 1) _ (testsTo m p q) (p, q) rfl ?q1 wr.heap.size rfl ?q2 HLE.out ?q4 ?_)
          case q1 => exact HO2.out.mono (bAlloc (Below.refl _ _) _)
          case q2 =>
            intro a u hu
            match a, hu with
            | 0, hu =>
              obtain rfl : Value.int .i64 p = u := by simpa [tstE] using hu
              simp [go_sem]
            | 1, hu =>
              obtain rfl : Value.int .i64 q = u := by simpa [tstE] using hu
              simp [go_sem]
          case q4 => simp; omega
          intro v' w5 hown5 hb5 _ _
          have HO5 := Lib.hid ((testsTo_snoc m p q) ▸ hown5)
          have HL5 := Lib.hid (hb5 (w.heap.size + 1) _ (Nat.le_refl _) (HL2.out.trans ((bAlloc (Below.refl wr.heap.size wr) _).mono (by omega))))
          clear hown5 hb5
          go_wp2_with fail
          go_roundw
          case rel =>
            first
            | exact ⟨q + 1, by omega, by go_num, HO5.out, HL5.out⟩
            | ((repeat apply Exists.intro)
               refine ⟨⟨q + 1, by omega, ?_, HO5.out, HL5.out⟩, rfl⟩
               go_num)
          case measure => simp [intOf]; omega
        · obtain rfl : q = m := by omega
          have HO5 := Lib.hid ((testsTo_row q p) ▸ HO2.out)
          go_wp2_with fail
          go_roundw
          case rel =>
            first
            | exact ⟨p + 1, by omega, by go_num, HO5.out, HL2.out⟩
            | ((repeat apply Exists.intro)
               refine ⟨⟨p + 1, by omega, ?_, HO5.out, HL2.out⟩, rfl⟩
               go_num)
          case measure => simp [intOf]; omega
    · obtain rfl : p = m := by omega
      have HO5 := Lib.hid ((testsTo_all p) ▸ HO.out)
      go_wp2_with fail
      go_ret
      exact ⟨⟨_, rfl, HO5.out.lower (by omega)⟩, bTrans HB.out (by have := HL.out; simpa using this)⟩
end Go.Proofs.YtjpfdhhiofjpbaaGreatDoor

namespace Go.Proofs.YtjpfdhhiofjpbaaGreatDoor
open Go.RowKit Go.Sort
set_option maxHeartbeats 2000000 in
theorem apart5_any (Aw Af : Option Addr) (cw cf : Nat) (t : Qt) (p q i j : Nat) (w : World) (ok : t.Ok) (hT : QAt w Aw Af t) (hp : (p : Int) < t.wells) (hq : (q : Int) < t.wells) (hi : i < t.nw) (hj : j < t.nw) :
    Calls Tryz.prog 181 #[.agg #[.int .i64 t.wells, .slice Aw t.nw cw, .slice Af t.nf cf], .agg #[.int .i64 p, .int .i64 q], .int .i64 i, .int .i64 j] w fun e w' => e = .returned (.bool (t.apart (p, q) i j)) ∧ Below w.heap.size w w' := by
  have hb0 := bAlloc (bAlloc (Below.refl w.heap.size w) (.cells #[.int .i64 t.wells, .slice Aw t.nw cw, .slice Af t.nf cf] 25)) (.cells #[.int .i64 p, .int .i64 q] 79)
  have HB := Lib.hid hb0
  obtain ⟨u, hu⟩ : ∃ u, t.F (i : Int) (p, q) = u := ⟨_, rfl⟩
  obtain ⟨v, hv⟩ : ∃ v, t.F (j : Int) (p, q) = v := ⟨_, rfl⟩
  have HF1 := Lib.hid (fun (w' : World) (hb : Below ((w.alloc (.cells #[.int .i64 t.wells, .slice Aw t.nw cw, .slice Af t.nf cf] 25)).alloc (.cells #[.int .i64 p, .int .i64 q] 79)).heap.size ((w.alloc (.cells #[.int .i64 t.wells, .slice Aw t.nw cw, .slice Af t.nf cf] 25)).alloc (.cells #[.int .i64 p, .int .i64 q] 79)) w') => (hu ▸ fallAt_F t i p q ▸ fall5_any Aw Af cw cf t i p q w' ok hi hp hq ((hT.mono hb0).mono hb) : Calls Tryz.prog 65 #[.agg #[.int .i64 t.wells, .slice Aw t.nw cw, .slice Af t.nf cf], .int .i64 i, .int .i64 p, .int .i64 q] w' fun e w'' => e = .returned (.int .i64 u) ∧ Below w'.heap.size w' w''))
  have HF2 := Lib.hid (fun (w' : World) (hb : Below ((w.alloc (.cells #[.int .i64 t.wells, .slice Aw t.nw cw, .slice Af t.nf cf] 25)).alloc (.cells #[.int .i64 p, .int .i64 q] 79)).heap.size ((w.alloc (.cells #[.int .i64 t.wells, .slice Aw t.nw cw, .slice Af t.nf cf] 25)).alloc (.cells #[.int .i64 p, .int .i64 q] 79)) w') => (hv ▸ fallAt_F t j p q ▸ fall5_any Aw Af cw cf t j p q w' ok hj hp hq ((hT.mono hb0).mono hb) : Calls Tryz.prog 65 #[.agg #[.int .i64 t.wells, .slice Aw t.nw cw, .slice Af t.nf cf], .int .i64 j, .int .i64 p, .int .i64 q] w' fun e w'' => e = .returned (.int .i64 v) ∧ Below w'.heap.size w' w''))
  have HR := Lib.hid (show t.apart (p, q) i j = (u != v) by unfold Qt.apart; rw [hu, hv])
  clear hb0 hT ok hu hv hp hq hi hj
  go_enter Tryz.func181, Tryz.ntmps181
  go_wp2_with fail
  refine wp_region_quiet_below (by kernel_rfl) (by kernel_rfl) ?_
  repeat (go_big_quiet_step (((first | (go_at_call 65; with_reducible exact Calls.regrown_of (HF1.out _ (below_regrown _ _ _))) | (go_at_call 65; with_reducible exact Calls.regrown_of (HF2.out _ (below_regrown _ _ _)))))))
  refine wpQuiet_nil ?_
  intro w9 hw9
  have HB9 := Lib.hid (bTrans HB.out (below_of_regrown hw9))
  clear hw9
  go_wp2_with fail
  go_ret
  exact ⟨ret_bool (by rw [HR.out]), HB9.out⟩
end Go.Proofs.YtjpfdhhiofjpbaaGreatDoor

namespace Go.Proofs.YtjpfdhhiofjpbaaGreatDoor
open Go.RowKit Go.Sort Go.ChangeShapes Go.WideShapes Go.ChangeAt Go.Deep
section
variable {H : Type} {enc : TypeId × Value → H} {P : Program}
end
section
variable {H : Type} {enc : TypeId × Value → H} {P : Program} {w : World} {base : Nat} {sp : Nat → Bool} {held : Bool}
/-! ### What fits into memory -/
end
theorem int_wf {n : Int} (h : (Lit.int .i64 n).wf = true) : -9223372036854775808 ≤ n ∧ n ≤ 9223372036854775807 := by
  simp only [Lit.wf, Bool.and_eq_true, decide_eq_true_eq] at h
  exact h
section
variable {H : Type} {enc : TypeId × Value → H} {P : Program} {w : World} {base b0 : Nat} {r : Reach} {sp : Nat → Bool} {held : Bool}
end

/-! ### The table of math/bits that is listed -/
end Go.Proofs.YtjpfdhhiofjpbaaGreatDoor

namespace Go.Proofs.YtjpfdhhiofjpbaaGreatDoor
open Go.RowKit Go.Sort
attribute [local go_sem] neqFact
set_option maxHeartbeats 4000000 in
set_option maxRecDepth 100000 in
theorem same5_any (Aw Af Bw Bf : Option Addr) (cw cf dw df : Nat) (t : Qt) (w : World) (hs : t.Small) (hA : QAt w Aw Af t) (hB : QAt w Bw Bf t) :
    Calls Tryz.prog 92 #[.agg #[.int .i64 t.wells, .slice Aw t.nw cw, .slice Af t.nf cf], .agg #[.int .i64 t.wells, .slice Bw t.nw dw, .slice Bf t.nf df]] w fun e w' => e = .returned (.bool true) ∧ Below w.heap.size w w' := by
  have hb2 := bAlloc (bAlloc (Below.refl w.heap.size w) (.cells #[.int .i64 t.wells, .slice Aw t.nw cw, .slice Af t.nf cf] 25)) (.cells #[.int .i64 t.wells, .slice Bw t.nw dw, .slice Bf t.nf df] 25)
  have HA := Lib.hid (hA.mono hb2)
  have HB := Lib.hid (hB.mono hb2)
  have HBB := Lib.hid hb2
  have HS := Lib.hid hs
  have hn := hs.1
  have hm := hs.2.1
  clear hA hB hb2 hs
  go_enter Tryz.func92, Tryz.ntmps92
  go_wp2_with fail
  go_loopw [5] (fun s wr => ∃ k : Nat, k ≤ t.nf ∧ s = .int .i64 k ∧ Below ((w.alloc (.cells #[.int .i64 t.wells, .slice Aw t.nw cw, .slice Af t.nf cf] 25)).alloc (.cells #[.int .i64 t.wells, .slice Bw t.nw dw, .slice Bf t.nf df] 25)).heap.size ((w.alloc (.cells #[.int .i64 t.wells, .slice Aw t.nw cw, .slice Af t.nf cf] 25)).alloc (.cells #[.int .i64 t.wells, .slice Bw t.nw dw, .slice Bf t.nf df] 25)) wr) (fun s _ => t.nf - (intOf s).toNat)
  case atStart => exact ⟨0, Nat.zero_le _, rfl, Below.refl _ _⟩
  case round =>
    obtain ⟨k, hk, rfl, hbel⟩ := hrel
    have HL := Lib.hid hbel
    obtain ⟨bc3, bf3⟩ := bcell hbel
    have hz3 := hbel.size
    simp only [World.size_alloc] at hz3
    have hy3 : w.heap.size < wr.heap.size := by omega
    have hv3 : w.heap.size + 1 < wr.heap.size := by omega
    clear hbel
    by_cases hlt : k < t.nf
    · have k1 : (k : Int) < (t.nf : Int) := by omega
      have k0 : (0 : Int) ≤ (k : Int) := by omega
      rcases (HA.out.mono HL.out).facts with h0 | ⟨b, o, e1, hb, hc⟩
      · omega
      obtain ⟨c0, c1, c2, c3, c4⟩ := hc k hlt
      subst e1
      rcases (HB.out.mono HL.out).facts with h0 | ⟨b2, o2, e2, hb2, hc2⟩
      · omega
      obtain ⟨d0, d1, d2, d3, d4⟩ := hc2 k hlt
      subst e2
      generalize t.fact k = f at *
      obtain ⟨f0, f1, f2, f3, f4⟩ := f
      simp only at c0 c1 c2 c3 c4 d0 d1 d2 d3 d4
      clear hc hc2
      go_wp2_with fail
      refine wp_region_quiet_below (by kernel_rfl) (by kernel_rfl) ?_
      repeat (go_big_quiet_step ((fail)))
      refine wpQuiet_nil ?_
      intro w9 hw9
      have HL9 := Lib.hid (bTrans HL.out (below_of_regrown hw9))
      clear hw9
      go_wp2_with fail
      go_roundw
      case rel =>
        refine ⟨k + 1, by omega, ?_, HL9.out⟩
        go_num
      case measure => simp [intOf]; omega
    · obtain rfl : k = t.nf := by omega
      have hk1 : ¬ ((t.nf : Int) < (t.nf : Int)) := by omega
      go_wp2_with fail
      clear bc3 bf3 hz3 hy3 hv3
      go_loopw [6] (fun s wx => ∃ i : Nat, i ≤ t.nw ∧ s = .int .i64 i ∧ Below ((w.alloc (.cells #[.int .i64 t.wells, .slice Aw t.nw cw, .slice Af t.nf cf] 25)).alloc (.cells #[.int .i64 t.wells, .slice Bw t.nw dw, .slice Bf t.nf df] 25)).heap.size ((w.alloc (.cells #[.int .i64 t.wells, .slice Aw t.nw cw, .slice Af t.nf cf] 25)).alloc (.cells #[.int .i64 t.wells, .slice Bw t.nw dw, .slice Bf t.nf df] 25)) wx) (fun s _ => t.nw - (intOf s).toNat)
      case atStart => exact ⟨0, Nat.zero_le _, rfl, HL.out⟩
      case round =>
        obtain ⟨i, hi, rfl, hbel⟩ := hrel
        have HX := Lib.hid hbel
        obtain ⟨bc3, bf3⟩ := bcell hbel
        have hz3 := hbel.size
        simp only [World.size_alloc] at hz3
        have hy3 : w.heap.size < wr.heap.size := by omega
        have hv3 : w.heap.size + 1 < wr.heap.size := by omega
        clear hbel
        by_cases hlt : i < t.nw
        · have k1 : (i : Int) < (t.nw : Int) := by omega
          have k0 : (0 : Int) ≤ (i : Int) := by omega
          rcases (HA.out.mono HX.out).worlds with h0 | ⟨b, o, e1, hb, hc⟩
          · omega
          obtain ⟨A1, a1, c0, hr1, hl1⟩ := hc i hlt
          subst e1
          rcases (HB.out.mono HX.out).worlds with h0 | ⟨b2, o2, e2, hb2, hc2⟩
          · omega
          obtain ⟨A2, a2, d0, hr2, _⟩ := hc2 i hlt
          subst e2
          obtain ⟨x, hx⟩ : ∃ x, t.world i = x := ⟨_, rfl⟩
          rw [hx] at c0 hr1 hl1 d0 hr2
          have HR1 := Lib.hid hr1
          have HR2 := Lib.hid hr2
          clear hc hc2 hx hr1 hr2
          go_wp2_with fail
          refine wp_region_quiet_below (by kernel_rfl) (by kernel_rfl) ?_
          repeat (go_big_quiet_step ((fail)))
          refine wpQuiet_nil ?_
          intro w9 hw9
          have hb9 := below_of_regrown hw9
          have HX9 := Lib.hid (bTrans HX.out hb9)
          have HD9 := Lib.hid hb9
          have e0 := (hb9.cell (p := ⟨b, o + i, none⟩) hb).trans c0
          have e1 := (hb9.cell (p := ⟨b2, o2 + i, none⟩) hb2).trans d0
          have hb' := Nat.lt_of_lt_of_le hb hb9.size
          have hb2' := Nat.lt_of_lt_of_le hb2 hb9.size
          have HE0 := Lib.hid e0
          have HE1 := Lib.hid e1
          clear hw9 hb9 c0 d0 hb hb2 bc3 bf3 hz3 hy3 hv3
          go_wp2_with fail
          clear e0 e1
          go_loopw [7] (fun s wy => ∃ j : Nat, j ≤ x.n ∧ s = .int .i64 j ∧ Below w9.heap.size w9 wy) (fun s _ => x.n - (intOf s).toNat)
          case atStart => exact ⟨0, Nat.zero_le _, rfl, Below.refl _ _⟩
          case round =>
            obtain ⟨j, hj, rfl, hbel⟩ := hrel
            have HY := Lib.hid hbel
            have HYB := Lib.hid (bTrans HX9.out hbel)
            have HYD := Lib.hid (bTrans HD9.out hbel)
            obtain ⟨bc3, bf3⟩ := bcell HYB.out
            have hz3 := HYB.out.size
            simp only [World.size_alloc] at hz3
            have hy3 : w.heap.size < wr.heap.size := by omega
            have hv3 : w.heap.size + 1 < wr.heap.size := by omega
            have c0 := (hbel.cell (p := ⟨b, o + i, none⟩) hb').trans HE0.out
            have d0 := (hbel.cell (p := ⟨b2, o2 + i, none⟩) hb2').trans HE1.out
            have hbb := Nat.lt_of_lt_of_le hb' hbel.size
            have hbb2 := Nat.lt_of_lt_of_le hb2' hbel.size
            clear hbel
            by_cases hlj : j < x.n
            · have j1 : (j : Int) < (x.n : Int) := by omega
              have j0 : (0 : Int) ≤ (j : Int) := by omega
              rcases HR1.out.mono HYD.out with h0 | ⟨b3, o3, e3, hb3, hc3⟩
              · omega
              obtain ⟨A3, a3, c3, hi3, hl3⟩ := hc3 j hlj
              subst e3
              rcases HR2.out.mono HYD.out with h0 | ⟨b4, o4, e4, hb4, hc4⟩
              · omega
              obtain ⟨A4, a4, c4, hi4, _⟩ := hc4 j hlj
              subst e4
              have HSI := Lib.hid (fun (w' : World) (hb : Below wr.heap.size wr w') => (by
                have := sameInts_any A3 A4 (x.len j) (x.len j) a3 a4 (x.fall j) (x.fall j) w' hl3 hl3 (hi3.mono hb) (hi4.mono hb)
                rw [show (decide (x.len j = x.len j) && !anyB (fun i => x.fall j i != x.fall j i) (x.len j)) = true by rw [anyB_false.2 fun i _ => by simp]; simp] at this
                exact this : Calls Tryz.prog 32 #[.slice A3 (x.len j) a3, .slice A4 (x.len j) a4] w' fun e w'' => e = .returned (.bool true) ∧ Below w'.heap.size w' w''))
              clear hc3 hc4 hi3 hi4
              go_wp2_with fail
              refine wp_region_quiet_below (by kernel_rfl) (by kernel_rfl) ?_
              repeat (go_big_quiet_step (((go_at_call 32; with_reducible exact Calls.regrown_of (HSI.out _ (below_regrown _ _ _))))))
              refine wpQuiet_nil ?_
              intro w8 hw8
              have HY8 := Lib.hid (bTrans HY.out (below_of_regrown hw8))
              clear hw8
              go_wp2_with fail
              go_roundw
              case rel =>
                refine ⟨j + 1, by omega, ?_, HY8.out⟩
                go_num
              case measure => simp [intOf]; omega
            · obtain rfl : j = x.n := by omega
              have hj1 : ¬ ((x.n : Int) < (x.n : Int)) := by omega
              go_wp2_with fail
              go_roundw
              case rel =>
                refine ⟨i + 1, by omega, ?_, HYB.out⟩
                go_num
              case measure => simp [intOf]; omega
        · obtain rfl : i = t.nw := by omega
          go_wp2_with fail
          go_ret
          exact ⟨rfl, bTrans HBB.out HX.out⟩
end Go.Proofs.YtjpfdhhiofjpbaaGreatDoor

namespace Go.Proofs.YtjpfdhhiofjpbaaGreatDoor
open Go.RowKit Go.Sort
attribute [local go_sem ↓] neqRock9
theorem sameInts_t (A B : Option Addr) (n c c' : Nat) (f : Nat → Int) (w : World) (hn : n ≤ 9223372036854775807) (hf : IntsAt w A n f) (hg : IntsAt w B n f) :
    Calls Tryz.prog 32 #[.slice A n c, .slice B n c'] w fun e w' => e = .returned (.bool true) ∧ Below w.heap.size w w' := by
  have := sameInts_any A B n n c c' f f w hn hn hf hg
  rw [show (decide (n = n) && !anyB (fun i => f i != f i) n) = true by rw [anyB_false.2 fun i _ => by simp]; simp] at this
  exact this
set_option maxHeartbeats 4000000 in
set_option maxRecDepth 100000 in
theorem sameSh_any (Ar Af Ar' Af' : Option Addr) (cr cf cr' cf' : Nat) (S : Sh) (w : World) (hr : S.nr ≤ 9223372036854775807) (hf : S.nf ≤ 9223372036854775807) (hS : ShAt w Ar Af S) (hS' : ShAt w Ar' Af' S) :
    Calls Tryz.prog 154 #[.agg #[.slice Ar S.nr cr, .slice Af S.nf cf, .int .i64 S.deep, .int .i64 S.haul, .int .i64 S.rest], .agg #[.slice Ar' S.nr cr', .slice Af' S.nf cf', .int .i64 S.deep, .int .i64 S.haul, .int .i64 S.rest]] w fun e w' => e = .returned (.bool true) ∧ Below w.heap.size w w' := by
  have hb0 := bAlloc (bAlloc (Below.refl w.heap.size w) (.cells #[.slice Ar S.nr cr, .slice Af S.nf cf, .int .i64 S.deep, .int .i64 S.haul, .int .i64 S.rest] 57)) (.cells #[.slice Ar' S.nr cr', .slice Af' S.nf cf', .int .i64 S.deep, .int .i64 S.haul, .int .i64 S.rest] 57)
  have HS := Lib.hid (hS.mono hb0)
  have HS' := Lib.hid (hS'.mono hb0)
  have HB := Lib.hid hb0
  clear hS hS' hb0
  go_enter Tryz.func154, Tryz.ntmps154
  go_wp2_with (go_at_call 32; refine (sameInts_t _ _ _ _ _ S.foot _ (by omega) HS.out.feet HS'.out.feet).mono ?_; rintro e w1 ⟨rfl, hb1⟩)
  have HS1 := Lib.hid (HS.out.mono hb1)
  have HS1' := Lib.hid (HS'.out.mono hb1)
  have HB1 := Lib.hid (bTrans HB.out hb1)
  have HBX := Lib.hid hb1
  clear hb1
  go_loopw [5] (fun i wr => ∃ k : Nat, k ≤ S.nr ∧ i = .int .i64 k ∧ Below w1.heap.size w1 wr) (fun i _ => S.nr - (intOf i).toNat)
  case atStart => exact ⟨0, Nat.zero_le _, rfl, Below.refl _ _⟩
  case round =>
    obtain ⟨k, hk, rfl, hbel⟩ := hrel
    obtain ⟨bc, bf⟩ := bcell (bTrans HBX.out hbel)
    have hz := hbel.size
    have hz1 := HBX.out.size
    simp only [World.size_alloc] at hz1
    have hy : w.heap.size < wr.heap.size := by omega
    have hy1 : w.heap.size + 1 < wr.heap.size := by omega
    by_cases hlt : k < S.nr
    · rcases (HS1.out.mono hbel).rocks with h0 | ⟨b, o, hA, hb, hcell⟩
      · omega
      obtain ⟨c0, c1, c2, c3⟩ := hcell k hlt
      clear hcell
      subst hA
      rcases (HS1'.out.mono hbel).rocks with h0 | ⟨b', o', hA', hb', hcell⟩
      · omega
      obtain ⟨d0, d1, d2, d3⟩ := hcell k hlt
      clear hcell
      subst hA'
      go_wp2_with fail
      refine wp_region_quiet_below (by kernel_rfl) (by kernel_rfl) ?_
      repeat (go_big_quiet_step ((fail)))
      refine wpQuiet_nil ?_
      intro w3 hw3
      have hb3 := below_of_regrown hw3
      clear hw3
      go_wp2_with fail
      go_roundw
      case rel => exact ⟨k + 1, by omega, by go_num, bTrans hbel hb3⟩
      case measure => simp [intOf]; omega
    · obtain rfl : k = S.nr := by omega
      go_wp2_with fail
      go_ret
      exact ⟨rfl, bTrans HB1.out hbel⟩
set_option maxHeartbeats 8000000 in
set_option maxRecDepth 100000 in
theorem sameSpots9_any (A B : Option Addr) (n c c' : Nat) (f : Nat → Spot) (w : World) (hn : n ≤ 9223372036854775807) (hs : ∀ i, i < n → (f i).Small) (hA : SpotsAt w A n f) (hB : SpotsAt w B n f) :
    Calls Tryz.prog 93 #[.slice A n c, .slice B n c'] w fun e w' => e = .returned (.bool true) ∧ Below w.heap.size w w' := by
  have HA := Lib.hid hA
  have HB := Lib.hid hB
  have HS := Lib.hid hs
  clear hA hB hs
  go_enter Tryz.func93, Tryz.ntmps93
  go_wp2_with fail
  go_loopw [5] (fun s wr => ∃ k : Nat, k ≤ n ∧ s = .int .i64 k ∧ Below w.heap.size w wr) (fun s _ => n - (intOf s).toNat)
  case atStart => exact ⟨0, Nat.zero_le _, rfl, Below.refl _ _⟩
  case round =>
    obtain ⟨k, hk, rfl, hbel⟩ := hrel
    have HL := Lib.hid hbel
    clear hbel
    by_cases hlt : k < n
    · have k1 : (k : Int) < (n : Int) := by omega
      have k0 : (0 : Int) ≤ (k : Int) := by omega
      obtain ⟨b, o, Ar, Ar2, Ax, cr, cr2, cx, e1, hlb, hsh, hrw, _, c0, c1, c2, c3, c4, c5, c6⟩ := spots_at (HA.out.mono HL.out) hlt
      subst e1
      obtain ⟨b2, o2, Br, Br2, Bx, dr, dr2, dx, e2, hlb2, hsh2, hrw2, _, d0, d1, d2, d3, d4, d5, d6⟩ := spots_at (HB.out.mono HL.out) hlt
      subst e2
      have hsm := HS.out k hlt
      obtain ⟨y, hy⟩ : ∃ y, f k = y := ⟨_, rfl⟩
      rw [hy] at hsm hsh hrw c0 c1 c2 c3 c4 c5 c6 hsh2 hrw2 d0 d1 d2 d3 d4 d5 d6
      have HSM := Lib.hid hsm
      have HR1 := Lib.hid hrw
      have HR2 := Lib.hid hrw2
      have HSS := Lib.hid (fun (w' : World) (hb : Below wr.heap.size wr w') => (sameSh_any Ar Ar2 Br Br2 cr cr2 dr dr2 y.sh w' hsm.nr hsm.nf (hsh.mono hb) (hsh2.mono hb)))
      have hyn := hsm.n
      clear hsm hsh hrw hsh2 hrw2 hy
      go_wp2_with fail
      refine wp_region_quiet_below (by kernel_rfl) (by kernel_rfl) ?_
      repeat (go_big_quiet_step (((go_at_call 154; with_reducible exact Calls.regrown_of (HSS.out _ (below_regrown _ _ _))))))
      refine wpQuiet_nil ?_
      intro w9 hw9
      have hb9 := below_of_regrown hw9
      have HX9 := Lib.hid (bTrans HL.out hb9)
      have HD9 := Lib.hid hb9
      have e0 := (hb9.cell (p := ⟨b, o + k * 7 + 6, none⟩) hlb).trans c6
      have e1 := (hb9.cell (p := ⟨b2, o2 + k * 7 + 6, none⟩) hlb2).trans d6
      have hb' := Nat.lt_of_lt_of_le hlb hb9.size
      have hb2' := Nat.lt_of_lt_of_le hlb2 hb9.size
      have HE0 := Lib.hid e0
      have HE1 := Lib.hid e1
      clear hw9 hb9 c0 c1 c2 c3 c4 c5 c6 d0 d1 d2 d3 d4 d5 d6 hlb hlb2 HSS
      go_wp2_with fail
      clear e0 e1
      go_loopw [6] (fun s wy => ∃ j : Nat, j ≤ y.fl.n ∧ s = .int .i64 j ∧ Below w9.heap.size w9 wy) (fun s _ => y.fl.n - (intOf s).toNat)
      case atStart => exact ⟨0, Nat.zero_le _, rfl, Below.refl _ _⟩
      case round =>
        obtain ⟨j, hj, rfl, hbel⟩ := hrel
        have HYB := Lib.hid (bTrans HX9.out hbel)
        have HYD := Lib.hid (bTrans HD9.out hbel)
        have c0 := (hbel.cell (p := ⟨b, o + k * 7 + 6, none⟩) hb').trans HE0.out
        have d0 := (hbel.cell (p := ⟨b2, o2 + k * 7 + 6, none⟩) hb2').trans HE1.out
        have hbb := Nat.lt_of_lt_of_le hb' hbel.size
        have hbb2 := Nat.lt_of_lt_of_le hb2' hbel.size
        have HY := Lib.hid hbel
        clear hbel
        by_cases hlj : j < y.fl.n
        · have j1 : (j : Int) < (y.fl.n : Int) := by omega
          have j0 : (0 : Int) ≤ (j : Int) := by omega
          rcases HR1.out.mono HYD.out with h0 | ⟨b3, o3, e3, hb3, hc3⟩
          · omega
          obtain ⟨A3, a3, c3, hi3, hl3⟩ := hc3 j hlj
          subst e3
          rcases HR2.out.mono HYD.out with h0 | ⟨b4, o4, e4, hb4, hc4⟩
          · omega
          obtain ⟨A4, a4, c4, hi4, _⟩ := hc4 j hlj
          subst e4
          have HSI := Lib.hid (fun (w' : World) (hb : Below wr.heap.size wr w') => sameInts_t A3 A4 (y.fl.len j) a3 a4 (y.fl.fall j) w' hl3 (hi3.mono hb) (hi4.mono hb))
          clear hc3 hc4 hi3 hi4
          go_wp2_with fail
          refine wp_region_quiet_below (by kernel_rfl) (by kernel_rfl) ?_
          repeat (go_big_quiet_step (((go_at_call 32; with_reducible exact Calls.regrown_of (HSI.out _ (below_regrown _ _ _))))))
          refine wpQuiet_nil ?_
          intro w8 hw8
          have HY8 := Lib.hid (HY.out.trans ((below_of_regrown hw8).mono HY.out.size))
          clear hw8
          go_wp2_with fail
          go_roundw
          case rel =>
            refine ⟨j + 1, by omega, ?_, HY8.out⟩
            go_num
          case measure => simp [intOf]; omega
        · obtain rfl : j = y.fl.n := by omega
          have hk1 : ¬ ((y.fl.n : Int) < (y.fl.n : Int)) := by omega
          go_wp2_with fail
          go_roundw
          case rel =>
            refine ⟨k + 1, by omega, ?_, HYB.out⟩
            go_num
          case measure => simp [intOf]; omega
    · obtain rfl : k = n := by omega
      have hk1 : ¬ ((k : Int) < (k : Int)) := by omega
      go_wp2_with fail
      go_ret
      exact ⟨rfl, HL.out⟩
end Go.Proofs.YtjpfdhhiofjpbaaGreatDoor

namespace Go.Proofs.YtjpfdhhiofjpbaaGreatDoor
open Go.RowKit Go.Sort
set_option maxHeartbeats 8000000 in
set_option maxRecDepth 100000 in
theorem same9_any (Aw Af Ao Ap As : Option Addr) (cw cf co cp cs : Nat) (t : Pt) (Bw Bf Bo Bp Bs : Option Addr) (dw df do_ dp ds : Nat) (w : World) (hs : t.Small) (hT : PAt w Aw Af Ao Ap As t) (hU : PAt w Bw Bf Bo Bp Bs t) :
    Calls Tryz.prog 27 #[.agg #[.int .i64 t.q.wells, .slice Aw t.q.nw cw, .slice Af t.q.nf cf, .slice Ao t.no co, .slice Ap t.np cp, .slice As t.ns cs, .int .i64 t.far, .int .i64 t.harm, .int .i64 t.many], .agg #[.int .i64 t.q.wells, .slice Bw t.q.nw dw, .slice Bf t.q.nf df, .slice Bo t.no do_, .slice Bp t.np dp, .slice Bs t.ns ds, .int .i64 t.far, .int .i64 t.harm, .int .i64 t.many]] w fun e w' => e = .returned (.bool true) ∧ Below w.heap.size w w' := by
  have HD0 := Lib.hid (Below.refl w.heap.size w)
  have HSM := Lib.hid hs
  have HT0 := Lib.hid hT
  have HU0 := Lib.hid hU
  clear hs hT hU
  go_enter Tryz.func27, Tryz.ntmps27
  go_wp2_with fail
  refine (same5_any Aw Af Bw Bf cw cf dw df t.q _ HSM.out.q (HT0.out.mono (bAlloc (bAlloc (Below.refl _ _) (.cells #[.int .i64 t.q.wells, .slice Aw t.q.nw cw, .slice Af t.q.nf cf, .slice Ao t.no co, .slice Ap t.np cp, .slice As t.ns cs, .int .i64 t.far, .int .i64 t.harm, .int .i64 t.many] 29)) (.cells #[.int .i64 t.q.wells, .slice Bw t.q.nw dw, .slice Bf t.q.nf df, .slice Bo t.no do_, .slice Bp t.np dp, .slice Bs t.ns ds, .int .i64 t.far, .int .i64 t.harm, .int .i64 t.many] 29))).q (HU0.out.mono (bAlloc (bAlloc (Below.refl _ _) (.cells #[.int .i64 t.q.wells, .slice Aw t.q.nw cw, .slice Af t.q.nf cf, .slice Ao t.no co, .slice Ap t.np cp, .slice As t.ns cs, .int .i64 t.far, .int .i64 t.harm, .int .i64 t.many] 29)) (.cells #[.int .i64 t.q.wells, .slice Bw t.q.nw dw, .slice Bf t.q.nf df, .slice Bo t.no do_, .slice Bp t.np dp, .slice Bs t.ns ds, .int .i64 t.far, .int .i64 t.harm, .int .i64 t.many] 29))).q).mono ?_
  rintro e w1 ⟨rfl, hb⟩
  have hB1 : Below w.heap.size w w1 := bTrans (bAlloc (bAlloc (Below.refl _ _) (.cells #[.int .i64 t.q.wells, .slice Aw t.q.nw cw, .slice Af t.q.nf cf, .slice Ao t.no co, .slice Ap t.np cp, .slice As t.ns cs, .int .i64 t.far, .int .i64 t.harm, .int .i64 t.many] 29)) (.cells #[.int .i64 t.q.wells, .slice Bw t.q.nw dw, .slice Bf t.q.nf df, .slice Bo t.no do_, .slice Bp t.np dp, .slice Bs t.ns ds, .int .i64 t.far, .int .i64 t.harm, .int .i64 t.many] 29)) hb
  have HD1 := Lib.hid (bTrans HD0.out hB1)
  have HT1 := Lib.hid (HT0.out.mono hB1)
  have HU1 := Lib.hid (HU0.out.mono hB1)
  have T1 := Lib.hid (show TBox w1 w.heap.size 29 #[.int .i64 t.q.wells, .slice Aw t.q.nw cw, .slice Af t.q.nf cf, .slice Ao t.no co, .slice Ap t.np cp, .slice As t.ns cs, .int .i64 t.far, .int .i64 t.harm, .int .i64 t.many] from by have := ((TBox.new w #[.int .i64 t.q.wells, .slice Aw t.q.nw cw, .slice Af t.q.nf cf, .slice Ao t.no co, .slice Ap t.np cp, .slice As t.ns cs, .int .i64 t.far, .int .i64 t.harm, .int .i64 t.many] 29).mono (bAlloc (Below.refl _ _) (.cells #[.int .i64 t.q.wells, .slice Bw t.q.nw dw, .slice Bf t.q.nf df, .slice Bo t.no do_, .slice Bp t.np dp, .slice Bs t.ns ds, .int .i64 t.far, .int .i64 t.harm, .int .i64 t.many] 29))).mono hb; simpa using this)
  have U1 := Lib.hid (show TBox w1 (w.heap.size + 1) 29 #[.int .i64 t.q.wells, .slice Bw t.q.nw dw, .slice Bf t.q.nf df, .slice Bo t.no do_, .slice Bp t.np dp, .slice Bs t.ns ds, .int .i64 t.far, .int .i64 t.harm, .int .i64 t.many] from by have := ((TBox.new (w.alloc (.cells #[.int .i64 t.q.wells, .slice Aw t.q.nw cw, .slice Af t.q.nf cf, .slice Ao t.no co, .slice Ap t.np cp, .slice As t.ns cs, .int .i64 t.far, .int .i64 t.harm, .int .i64 t.many] 29)) #[.int .i64 t.q.wells, .slice Bw t.q.nw dw, .slice Bf t.q.nf df, .slice Bo t.no do_, .slice Bp t.np dp, .slice Bs t.ns ds, .int .i64 t.far, .int .i64 t.harm, .int .i64 t.many] 29).mono (Below.refl _ _)).mono hb; simpa using this)
  clear hb hB1 HD0 HT0 HU0
  obtain ⟨T_0, T_1, T_2, T_3, T_4, T_5, T_6, T_7, T_8, T_l⟩ := T1.out.c9
  obtain ⟨U_0, U_1, U_2, U_3, U_4, U_5, U_6, U_7, U_8, U_l⟩ := U1.out.c9
  go_wp2_with fail
  refine (sameInts_t Ao Bo t.no co do_ t.old _ HSM.out.no HT1.out.old HU1.out.old).mono ?_
  rintro e w2 ⟨rfl, hb⟩
  have hB2 : Below w1.heap.size w1 w2 := bTrans (Below.refl _ _) hb
  have HD2 := Lib.hid (bTrans HD1.out hB2)
  have HT2 := Lib.hid (HT1.out.mono hB2)
  have HU2 := Lib.hid (HU1.out.mono hB2)
  have T2 := Lib.hid (T1.out.mono hB2)
  have U2 := Lib.hid (U1.out.mono hB2)
  clear hb hB2 HD1 HT1 HU1 T1 T_0 T_1 T_2 T_3 T_4 T_5 T_6 T_7 T_8 T_l U1 U_0 U_1 U_2 U_3 U_4 U_5 U_6 U_7 U_8 U_l
  obtain ⟨T_0, T_1, T_2, T_3, T_4, T_5, T_6, T_7, T_8, T_l⟩ := T2.out.c9
  obtain ⟨U_0, U_1, U_2, U_3, U_4, U_5, U_6, U_7, U_8, U_l⟩ := U2.out.c9
  go_wp2_with fail
  refine (sameInts_t Ap Bp t.np cp dp t.pence _ HSM.out.np HT2.out.pence HU2.out.pence).mono ?_
  rintro e w3 ⟨rfl, hb⟩
  have hB3 : Below w2.heap.size w2 w3 := bTrans (Below.refl _ _) hb
  have HD3 := Lib.hid (bTrans HD2.out hB3)
  have HT3 := Lib.hid (HT2.out.mono hB3)
  have HU3 := Lib.hid (HU2.out.mono hB3)
  have T3 := Lib.hid (T2.out.mono hB3)
  have U3 := Lib.hid (U2.out.mono hB3)
  clear hb hB3 HD2 HT2 HU2 T2 T_0 T_1 T_2 T_3 T_4 T_5 T_6 T_7 T_8 T_l U2 U_0 U_1 U_2 U_3 U_4 U_5 U_6 U_7 U_8 U_l
  obtain ⟨T_0, T_1, T_2, T_3, T_4, T_5, T_6, T_7, T_8, T_l⟩ := T3.out.c9
  obtain ⟨U_0, U_1, U_2, U_3, U_4, U_5, U_6, U_7, U_8, U_l⟩ := U3.out.c9
  go_wp2_with fail
  refine (sameSpots9_any As Bs t.ns cs ds t.spot _ HSM.out.ns HSM.out.spot HT3.out.spots HU3.out.spots).mono ?_
  rintro e w4 ⟨rfl, hb⟩
  have hB4 : Below w3.heap.size w3 w4 := bTrans (Below.refl _ _) hb
  have HD4 := Lib.hid (bTrans HD3.out hB4)
  have HT4 := Lib.hid (HT3.out.mono hB4)
  have HU4 := Lib.hid (HU3.out.mono hB4)
  have T4 := Lib.hid (T3.out.mono hB4)
  have U4 := Lib.hid (U3.out.mono hB4)
  clear hb hB4 HD3 HT3 HU3 T3 T_0 T_1 T_2 T_3 T_4 T_5 T_6 T_7 T_8 T_l U3 U_0 U_1 U_2 U_3 U_4 U_5 U_6 U_7 U_8 U_l
  obtain ⟨T_0, T_1, T_2, T_3, T_4, T_5, T_6, T_7, T_8, T_l⟩ := T4.out.c9
  obtain ⟨U_0, U_1, U_2, U_3, U_4, U_5, U_6, U_7, U_8, U_l⟩ := U4.out.c9
  go_wp2_with fail
  go_ret
  exact ⟨rfl, HD4.out⟩
end Go.Proofs.YtjpfdhhiofjpbaaGreatDoor

namespace Go.Proofs.YtjpfdhhiofjpbaaGreatDoor
open Go.RowKit Go.Sort
theorem dst_comm (a b : Int) : dst a b = dst b a := by unfold dst; omega
/-! ### errors -/
/-! ### what each function returns -/
end Go.Proofs.YtjpfdhhiofjpbaaGreatDoor

namespace Go.Proofs.YtjpfdhhiofjpbaaGreatDoor
open Go.RowKit Go.Sort
/-! ### Tests in order -/
/-! ### The fewest tests -/
/-! ### The next test -/
/-! ### The tests that decide -/
theorem fewestL_sub (l : List Tp) (p : List Tp → Bool) : List.Sublist (fewestL l p) l := by
  unfold fewestL
  cases hf : firstUpTo l p 0 l.length with
  | some x => exact ((firstUpTo_spec l p l.length 0).1 x hf).1
  | none => exact List.Sublist.refl _
end Go.Proofs.YtjpfdhhiofjpbaaGreatDoor

namespace Go.Proofs.YtjpfdhhiofjpbaaGreatDoor
open Go.RowKit Go.Sort
theorem Pt.m_no {t : Pt} (ok : t.Ok) : t.m = t.no := by have := ok.no; unfold Pt.m; omega
theorem Pt.m_wells {t : Pt} (ok : t.Ok) : (t.m : Int) = t.q.wells := by have := ok.q.w0; unfold Pt.m; omega
/-! ### towns in which less is forbidden -/
section
variable {o t : Pt} (h : Looser o t)
include h
end
/-! ### towns that are alike -/
section
variable {o t : Pt} (h : Twin o t)
include h
end
/-! ### pairs -/
end Go.Proofs.YtjpfdhhiofjpbaaGreatDoor

namespace Go.Proofs.YtjpfdhhiofjpbaaGreatDoor
open Go.RowKit Go.Sort
/-! ### An append to a row of the call's own: where the row lies afterwards -/
theorem run_append_own2 {P : Program} (w : World) (base : Nat) (t ty e : TypeId) (i : TypeInfo) (z : Value) (size bytes : Nat) (ht : P.underlying t = some (.slice e)) (hi : P.info? e = some i) (hz : i.zero = some z)
    (hsize : i.size = size) (hby : i.bytes = bytes) (hzs : z.cells.size = size) (hsz : 0 < size)
    (v : Value) (n : Nat) (xs : List Value) (hown : w.ownsRow base e size v n xs)
    (a : Addr) (m c : Nat) (news : List Value) (hl : news.length = m * size) (hnews : ∀ j u, news[j]? = some u → w.cell? (a.add j) = some u) (h1 : ∀ u ∈ news, u.oneCell' = true)
    (h63 : n + m ≤ maxLen) (hbytes : (n + m) * bytes ≤ 140737488355328) (hbase : base ≤ w.heap.size) :
    ∃ v' w', (Builtin.append_ #[t, t] ty #[v, .slice (some a) m c]).run P w = .ok v' w' ∧ w'.ownsRow base e size v' (n + m) (xs ++ news) ∧ w.grownBy w' v.ownBlock ∧ (v'.ownBlock = v.ownBlock ∨ ∀ g, v'.ownBlock = some g → w.heap.size ≤ g) := by
  obtain ⟨v', w', hr, h2, h3, _⟩ := run_append_own (P := P) w base t ty e i z size bytes ht hi hz hsize hby hzs hsz v n xs hown a m c news hl hnews h1 h63 hbytes hbase
  refine ⟨v', w', hr, h2, h3, ?_⟩
  rcases id hown.2 with ⟨rfl, rfl⟩ | ⟨g, cap, cur, rfl, hbg, hg, hnc, hcm, hcs, htake⟩
  · have hx : xs = [] := List.eq_nil_of_length_eq_zero (by simpa using hown.1)
    subst hx
    obtain ⟨v2, w2, hr2, h4, _, _⟩ := run_append_own (P := P) w w.heap.size t ty e i z size bytes ht hi hz hsize hby hzs hsz (.slice none 0 0) 0 [] (World.ownsRow_nil _ _ _ _) a m c news hl hnews h1 h63 hbytes (Nat.le_refl _)
    rw [hr] at hr2
    injection hr2 with e1 e2
    subst e1 e2
    exact .inr fun g hg => (owns_typed h4 g hg).1
  · by_cases hroom : n + m ≤ cap
    · have hfit : n * size + news.length ≤ cur.size := by rw [hl, hcs, ← Nat.add_mul]; exact Nat.mul_le_mul_right _ hroom
      have hr2 := run_append_room (P := P) w t ty e i ht hi g n cap cur hg a m c news (by rw [hl, hsize]) hnews h1 hroom (by rw [hsize]; exact hfit)
      rw [hr] at hr2
      injection hr2 with e1 e2
      subst e1
      exact .inl rfl
    · obtain ⟨v2, w2, hr2, h4, _⟩ := run_append_arg_grows (P := P) w t ty e i z size bytes ht hi hz hsize hby hzs hsz ⟨g, 0, none⟩ n cap xs hown.1 (fun j u h => hown.cells (g := g) rfl j u h) a m c news hl hnews (by omega) h63 hbytes
      rw [hr] at hr2
      injection hr2 with e1 e2
      subst e1 e2
      exact .inr fun g hg => (owns_typed h4 g hg).1
/-- 'append(out, xs...)' of a slice of the call's own, as the one operation of a region, with where it lies -/
theorem stir_own2 {P : Program} {o : Oper} {a : Act} {w : World} {R : World → Value → Prop} (s x : Operand) (t : TypeId) (hop : o.op = Op.call { callee := Callee.builtin Builtin.append, args := #[s, x], argTypes := #[t, t] })
    (base : Nat) (e : TypeId) (z : Value) (size bytes : Nat) (hinfo : (P.info? e).map (fun i => (i.zero, i.size, i.bytes)) = some (some z, size, bytes)) (ht : P.underlying t = some (.slice e)) (hzs : z.cells.size = size) (hsz : 0 < size)
    (v : Value) (n : Nat) (xs : List Value) (hs : a.eval s = v) (hown : w.ownsRow base e size v n xs) (ad : Addr) (m c : Nat) (news : List Value) (hx : a.eval x = .slice (some ad) m c) (hl : news.length = m * size) (hnews : ∀ j u, news[j]? = some u → w.cell? (ad.add j) = some u) (h1 : ∀ u ∈ news, u.oneCell' = true)
    (h63 : n + m ≤ maxLen) (hbytes : (n + m) * bytes ≤ 140737488355328) (hbase : base ≤ w.heap.size)
    (h : ∀ v' w', w'.ownsRow base e size v' (n + m) (xs ++ news) → w.grownBy w' v.ownBlock → (v'.ownBlock = v.ownBlock ∨ ∀ g, v'.ownBlock = some g → w.heap.size ≤ g) → R w' v') : Oper.stirAt P o a w (fun _ _ => True) R := by
  obtain ⟨i0, hi, iz0, iz1, iz2⟩ := info_parts hinfo
  obtain ⟨v', w', hrun, h2, h3, h4⟩ := run_append_own2 (P := P) w base t o.type e i0 z size bytes ht hi iz0 iz1 iz2 hzs hsz v n xs hown ad m c news hl hnews h1 h63 hbytes hbase
  unfold Oper.stirAt
  simp only [execOp, hop, resolve, invoke, builtin, List.map_toArray, List.map_cons, List.map_nil, hs, hx, hrun, Result.andThen, Sem.run_bind, Sem.run_pure, Oper.stirUpon]
  exact ⟨trivial, h v' w' h2 h3 h4⟩
/-- 'append([]T{x}, xs...)' at a step of a region -/
theorem stir_cons {P : Program} {o : Oper} {a : Act} (w : World) (s x : Operand) (t : TypeId) (hop : o.op = Op.call { callee := Callee.builtin Builtin.append, args := #[s, x], argTypes := #[t, t] })
    (e : TypeId) (z : Value) (size bytes : Nat) (hinfo : (P.info? e).map (fun i => (i.zero, i.size, i.bytes)) = some (some z, size, bytes)) (ht : P.underlying t = some (.slice e)) (hzs : z.cells.size = size) (hsz : 0 < size)
    (ad : Nat) (xs : List Value) (hxs : xs.length = size) (A : Option Addr) (m c : Nat) (L : List Value) (hs : a.eval s = .slice (some ⟨ad, 0, none⟩) 1 1) (hb : RowK w (some ⟨ad, 0, none⟩) e xs) (hx : a.eval x = .slice A m c) (hl : L.length = m * size) (hr : RowAt w A L) (h63 : m ≤ 100000) (hby : bytes ≤ 1000000) :
    Oper.stirAt P o a w Newer (fun w' v => ShapeOf (m + 1) v ∧ ∃ A c, v = .slice A (m + 1) c ∧ RowK w' A e (xs ++ L)) := by
  obtain ⟨i0, hi, iz0, iz1, iz2⟩ := info_parts hinfo
  have hcell : ∀ j u, xs[j]? = some u → w.cell? ((⟨ad, 0, none⟩ : Addr).add j) = some u := fun j u hj => by
    rcases hb.row with h | ⟨b, o, e1, _, hc⟩
    · rw [h] at hxs; simp at hxs; omega
    · injection e1 with e1
      injection e1 with e1 e2
      subst e1 e2
      rw [show (⟨ad, 0, none⟩ : Addr).add j = ⟨ad, 0 + j, none⟩ from by unfold Addr.add; split <;> simp_all]
      exact hc j u hj
  rcases Nat.eq_zero_or_pos m with h0 | h0
  · subst h0
    obtain rfl : L = [] := List.eq_nil_of_length_eq_zero (by simpa using hl)
    have hrun : (Builtin.append_ #[t, t] o.type #[.slice (some ⟨ad, 0, none⟩) 1 1, .slice A 0 c]).run P w = .ok (.slice (some ⟨ad, 0, none⟩) 1 1) w := by
      cases A with
      | none => simp [Builtin.append_, run_underlying ht, sizeOf, typeInfo, hi, Builtin.lenOf, Builtin.firstCells, storeCells]
      | some a =>
        have hfc := run_firstCells_some (P := P) w i0.size 0 a 0 c [] (by simp) (fun j u h => by simp at h)
        simp [Builtin.append_, run_underlying ht, sizeOf, typeInfo, hi, Builtin.lenOf, hfc, storeCells]
    unfold Oper.stirAt
    simp only [execOp, hop, resolve, invoke, builtin, List.map_toArray, List.map_cons, List.map_nil, hs, hx, hrun, Result.andThen, Sem.run_bind, Sem.run_pure, Oper.stirUpon]
    exact ⟨Below.refl _ _, ⟨_, _, rfl⟩, _, _, rfl, by rw [List.append_nil]; exact hb⟩
  · rcases hr with hr | ⟨b, o', rfl, hlt, hc⟩
    · rw [hr] at hl
      have := Nat.mul_pos h0 hsz
      simp only [List.length_nil] at hl
      omega
    · have hbytes : (1 + m) * bytes ≤ 140737488355328 := Nat.le_trans (Nat.mul_le_mul (show 1 + m ≤ 100001 by omega) hby) (by decide)
      obtain ⟨v', w', hrun, hown, hg⟩ := run_append_arg_grows (P := P) w t o.type e i0 z size bytes ht hi iz0 iz1 iz2 hzs hsz ⟨ad, 0, none⟩ 1 1 xs (by rw [hxs, Nat.one_mul]) hcell ⟨b, o', none⟩ m c L hl (fun j u h => by
        rw [show (⟨b, o', none⟩ : Addr).add j = ⟨b, o' + j, none⟩ from by unfold Addr.add; split <;> simp_all]; exact hc j u h) (by omega) (by unfold maxLen; omega) hbytes
      obtain ⟨g, cap, rfl⟩ := owns_form hown (by omega)
      obtain ⟨A1, c1, e1, h1⟩ := RowK.own hown
      unfold Oper.stirAt
      simp only [execOp, hop, resolve, invoke, builtin, List.map_toArray, List.map_cons, List.map_nil, hs, hx, hrun, Result.andThen, Sem.run_bind, Sem.run_pure, Oper.stirUpon]
      rw [Nat.add_comm m 1]
      exact ⟨below_grown hg, ⟨_, _, rfl⟩, A1, c1, e1, h1⟩
/-! ### Lists of lists of tests -/
def TRow (w : World) (u : Value) (l : List Tp) : Prop := ∃ A c, u = .slice A l.length c ∧ RowK w A 79 (tstE.cells l)
theorem TRow.kept {ts : List TypeId} {w w' : World} {u : Value} {l : List Tp} (h : TRow w u l) (hk : Kept ts w w') (ht : 79 ∈ ts) : TRow w' u l := by
  obtain ⟨A, c, e, hr⟩ := h
  exact ⟨A, c, e, hr.kept hk ht⟩
def TRows (w : World) (LL : List (List Tp)) (us : List Value) : Prop := us.length = LL.length ∧ ∀ (j : Nat) (u : Value) (l : List Tp), us[j]? = some u → LL[j]? = some l → TRow w u l
theorem TRows.kept {ts : List TypeId} {w w' : World} {LL : List (List Tp)} {us : List Value} (h : TRows w LL us) (hk : Kept ts w w') (ht : 79 ∈ ts) : TRows w' LL us := ⟨h.1, fun j u l h1 h2 => (h.2 j u l h1 h2).kept hk ht⟩
theorem TRows.snoc {w : World} {LL : List (List Tp)} {us : List Value} {u : Value} {l : List Tp} (h : TRows w LL us) (hu : TRow w u l) : TRows w (LL ++ [l]) (us ++ [u]) :=
  ⟨by rw [List.length_append, List.length_append, h.1]; rfl, fun j v l' h1 h2 => by
    rcases Nat.lt_or_ge j us.length with hlt | hge
    · rw [List.getElem?_append_left hlt] at h1
      rw [List.getElem?_append_left (by rw [← h.1]; exact hlt)] at h2
      exact h.2 j v l' h1 h2
    · rw [List.getElem?_append_right hge] at h1
      rw [List.getElem?_append_right (by rw [← h.1]; exact hge), ← h.1] at h2
      have h0 : j - us.length = 0 := by
        have := (List.getElem?_eq_some_iff.1 h1).1
        simp only [List.length_cons, List.length_nil] at this
        omega
      rw [h0] at h1 h2
      simp at h1 h2
      subst h1 h2
      exact hu⟩
/-- a list of lists of tests, of the call's own -/
def ListsAt (w : World) (base : Nat) (v : Value) (LL : List (List Tp)) : Prop := ∃ us, w.ownsRow base 71 1 v LL.length us ∧ TRows w LL us
theorem infoTs : (Tryz.prog.info? 71).map (fun i => (i.zero, i.size, i.bytes)) = some (some (.slice none 0 0), 1, 24) := by kernel_rfl
theorem infoT : (Tryz.prog.info? 79).map (fun i => (i.zero, i.size, i.bytes)) = some (some (.agg #[.int .i64 0, .int .i64 0]), 2, 16) := by kernel_rfl
/-- the lists that begin with one of n tests, from a place on -/
def listsTo (tl : List Tp) (k from_ : Nat) : Nat → List (List Tp)
  | 0 => []
  | n + 1 => listsTo tl k from_ n ++ (listsL (tl.drop (from_ + n + 1)) k).map (tget tl (from_ + n) :: ·)
theorem listsTo_eq (tl : List Tp) (k from_ : Nat) : ∀ n, from_ + n ≤ tl.length → listsL (tl.drop from_) (k + 1) = listsTo tl k from_ n ++ listsL (tl.drop (from_ + n)) (k + 1)
  | 0, _ => rfl
  | n + 1, h => by
    have ih := listsTo_eq tl k from_ n (by omega)
    rw [ih, List.drop_eq_getElem_cons (show from_ + n < tl.length by omega)]
    show _ = (listsTo tl k from_ n ++ (listsL (tl.drop (from_ + n + 1)) k).map (tget tl (from_ + n) :: ·)) ++ _
    rw [List.append_assoc]
    congr 1
    show (listsL (tl.drop (from_ + n + 1)) k).map (tl[from_ + n] :: ·) ++ listsL (tl.drop (from_ + n + 1)) (k + 1) = _
    have e : tget tl (from_ + n) = tl[from_ + n] := by unfold tget; rw [List.getElem?_eq_getElem (by omega)]; rfl
    rw [e]
    rfl
theorem listsTo_all (tl : List Tp) (k from_ n : Nat) (h : from_ + n = tl.length) : listsTo tl k from_ n = listsL (tl.drop from_) (k + 1) := by
  rw [listsTo_eq tl k from_ n (by omega), h, List.drop_length]
  show _ = _ ++ listsL [] (k + 1)
  rw [show listsL [] (k + 1) = [] from rfl, List.append_nil]
theorem listsL_count : ∀ (l : List Tp) (k : Nat), (listsL l k).length ≤ 2 ^ l.length
  | l, 0 => by rw [listsL_zero]; exact Nat.one_le_two_pow
  | [], k + 1 => Nat.zero_le _
  | x :: l, k + 1 => by
    have h1 := listsL_count l k
    have h2 := listsL_count l (k + 1)
    show ((listsL l k).map (x :: ·) ++ listsL l (k + 1)).length ≤ 2 ^ (l.length + 1)
    rw [List.length_append, List.length_map, Nat.pow_succ]
    omega
theorem listsL_small {l : List Tp} (h : l.length ≤ 16) (k : Nat) : (listsL l k).length ≤ 65536 :=
  Nat.le_trans (listsL_count l k) (Nat.le_trans (Nat.pow_le_pow_right (by decide) h) (by decide))
theorem listsTo_small {tl : List Tp} (h : tl.length ≤ 16) {k from_ n : Nat} (hn : from_ + n < tl.length) : (listsTo tl k from_ n).length + (listsL (tl.drop (from_ + n + 1)) k).length ≤ 65536 := by
  have h1 := listsTo_eq tl k from_ (n + 1) (by omega)
  have h2 := listsL_small (l := tl.drop from_) (by rw [List.length_drop]; omega) (k + 1)
  rw [h1, show listsTo tl k from_ (n + 1) = listsTo tl k from_ n ++ (listsL (tl.drop (from_ + n + 1)) k).map (tget tl (from_ + n) :: ·) from rfl] at h2
  rw [List.length_append, List.length_append, List.length_map] at h2
  omega
def newT (xs : List Value) (w : World) (v : Value) : Prop := ∀ b, v = .slice (some ⟨b, 0, none⟩) 1 1 → RowK w (some ⟨b, 0, none⟩) 79 xs
theorem newT_G {xs : List Value} : (Stir.held one1 (newT xs)).good := ⟨⟨_, 0, rfl⟩, fun _ _ _ hb h b e => (h b e).mono hb⟩
def rowT (n : Nat) (L : List Value) (w : World) (v : Value) : Prop := ∃ A c, v = .slice A n c ∧ RowK w A 79 L
theorem rowT_G {n : Nat} {L : List Value} : (Stir.held (ShapeOf n) (rowT n L)).good := ⟨⟨_, 0, 0, rfl⟩, fun _ _ _ hb h => by obtain ⟨A, c, e, hr⟩ := h; exact ⟨A, c, e, hr.mono hb⟩⟩
def cellT (l : List Tp) (w : World) (v : Value) : Prop := ∀ b, v = .slice (some ⟨b, 0, none⟩) 1 1 → ∃ u, w.cell? ⟨b, 0, none⟩ = some u ∧ TRow w u l ∧ u.oneCell' = true
theorem cellT_G {l : List Tp} : (Stir.held one1 (cellT l)).good := ⟨⟨_, 0, rfl⟩, fun _ _ _ hb h b e => by
  obtain ⟨u, h1, h2, h3⟩ := h b e
  exact ⟨u, (hb.cell (World.block_lt_of_cell? _ _ h1)).trans h1, h2.kept (Kept.of_below (l := [79]) hb) (by simp), h3⟩⟩
/-- two rows that do not lie in one block -/
def ApartV (V : Value) (A : Option Addr) : Prop := ∀ g b, V.ownBlock = some g → A = some b → g ≠ b.block
end Go.Proofs.YtjpfdhhiofjpbaaGreatDoor

namespace Go.Proofs.YtjpfdhhiofjpbaaGreatDoor
open Go.RowKit Go.Sort
/-- what the reference hands back: a list of tests, and an error -/
def RefLst (w : World) (er : Int) (L : List Tp) (e : Ending) : Prop := (er = 0 → ∃ A c, e = .returned (.tuple #[.slice A L.length c, .int .i64 er]) ∧ RowAt w A (tstE.cells L)) ∧ (er ≠ 0 → e = .returned (.tuple #[.slice none 0 0, .int .i64 er]))
theorem firstUpTo_le {l : List Tp} {p : List Tp → Bool} {x : List Tp} {k : Nat} (h : firstUpTo l p 0 k = some x) : ∀ d, firstUpTo l p 0 (k + d) = some x
  | 0 => h
  | d + 1 => by
    have ih := firstUpTo_le h d
    show firstUpTo l p 0 (k + d + 1) = _
    rw [firstUpTo_snoc, ih]
theorem fewestL_at {l : List Tp} {p : List Tp → Bool} {x : List Tp} {k : Nat} (hk : k < l.length) (h0 : firstUpTo l p 0 k = none) (h1 : (listsL l k).find? p = some x) : fewestL l p = x := by
  have h2 : firstUpTo l p 0 (k + 1) = some x := by rw [firstUpTo_snoc, h0]; simpa using h1
  have h3 := firstUpTo_le h2 (l.length - (k + 1))
  unfold fewestL
  rw [show k + 1 + (l.length - (k + 1)) = l.length by omega] at h3
  rw [h3]
  rfl
theorem firstUpTo_none {l : List Tp} {p : List Tp → Bool} {k : Nat} (h0 : firstUpTo l p 0 k = none) (h1 : (listsL l k).find? p = none) : firstUpTo l p 0 (k + 1) = none := by
  rw [firstUpTo_snoc, h0]
  simpa using h1
theorem find_take {α : Type} {p : α → Bool} {l : List α} {i : Nat} {x : α} (h0 : (l.take i).find? p = none) (hx : l[i]? = some x) (hp : p x = true) : l.find? p = some x := by
  obtain ⟨hi, rfl⟩ := List.getElem?_eq_some_iff.1 hx
  have e : l.take i ++ l[i] :: l.drop (i + 1) = l := by rw [← List.drop_eq_getElem_cons hi, List.take_append_drop]
  have e2 : (l.take i ++ l[i] :: l.drop (i + 1)).find? p = some l[i] := by
    rw [List.find?_append, h0, List.find?_cons, hp]
    rfl
  rw [e] at e2
  exact e2
theorem find_go {α : Type} {p : α → Bool} {l : List α} {i : Nat} {x : α} (h0 : (l.take i).find? p = none) (hx : l[i]? = some x) (hp : p x = false) : (l.take (i + 1)).find? p = none := by
  rw [List.take_add_one, hx, List.find?_append, h0]
  simp [hp]
theorem tests_len {t : Qt} (ok : t.Ok) : t.tests.length ≤ 16 := by
  obtain ⟨m, hm⟩ : ∃ m : Nat, t.wells = (m : Int) := ⟨t.wells.toNat, by have := ok.w0; omega⟩
  have m4 : m ≤ 4 := by have := ok.w1; omega
  unfold Qt.tests
  rw [testsL_len, hm, Int.toNat_natCast]
  have : m * m ≤ 4 * 4 := Nat.mul_le_mul m4 m4
  omega
theorem tests_ok5 {t : Qt} (ok : t.Ok) : t.TestsOk t.tests := fun x hx => by
  have := testsL_mem.1 hx
  have := ok.w0
  omega
end Go.Proofs.YtjpfdhhiofjpbaaGreatDoor

namespace Go.Proofs.YtjpfdhhiofjpbaaGreatDoor
open Go.RowKit Go.Sort
/-- the list that comes back with an error -/
def lstO (er : Int) (L : List Tp) : List Tp := if er = 0 then L else []
theorem RefLst.o {w : World} {er : Int} {L : List Tp} {e : Ending} (h : RefLst w er L e) : ∃ A c, e = .returned (.tuple #[.slice A (lstO er L).length c, .int .i64 er]) ∧ RowAt w A (tstE.cells (lstO er L)) := by
  unfold lstO
  by_cases h0 : er = 0
  · obtain ⟨A, c, e1, h1⟩ := h.1 h0
    rw [if_pos h0]
    exact ⟨A, c, e1, h1⟩
  · rw [if_neg h0]
    exact ⟨none, 0, h.2 h0, .inl rfl⟩
end Go.Proofs.YtjpfdhhiofjpbaaGreatDoor

namespace Go.Proofs.YtjpfdhhiofjpbaaGreatDoor
open Go.RowKit Go.Sort
/-- whether an old well forbids a spot in just one of two worlds -/
def Pt.unlike (t : Pt) (s : Nat) (a b : Int) : Bool := anyB (fun w => t.forb s w a != t.forb s w b) t.m
/-- whether some tests decide all that must be for a spot -/
def Pt.decB (t : Pt) (s : Nat) (l : List Tp) : Bool := !anyB (fun i => anyB (fun k => t.unlike s (intL0 t.q.leftL i) (intL0 t.q.leftL k) && !t.q.someB l (intL0 t.q.leftL i) (intL0 t.q.leftL k)) i) t.q.leftL.length
noncomputable def Pt.decErr (t : Pt) (s : Int) : Int := if t.knowErr (t.hasB s) = 0 then (if t.decB s.toNat t.q.tests then 0 else 3) else t.knowErr (t.hasB s)
/-- the tests of Decide -/
def Pt.decL (t : Pt) (s : Int) : List Tp := fewestL t.q.tests fun l => t.decB s.toNat l
/-! ### one fact more -/
/-! ### the looser law -/
/-! ### the street, seen from the other end -/
/-! ### one spot more -/
/-! ### the least harm -/
end Go.Proofs.YtjpfdhhiofjpbaaGreatDoor

namespace Go.Proofs.YtjpfdhhiofjpbaaGreatDoor
open Go.RowKit Go.Sort
theorem dist9_any (a b : Int) (w : World) (ha : 0 ≤ a ∧ a ≤ 99) (hb : 0 ≤ b ∧ b ≤ 99) : Calls Tryz.prog 58 #[.int .i64 a, .int .i64 b] w fun e w' => e = .returned (.int .i64 (dst a b)) ∧ Below w.heap.size w w' := by
  have h1 : IntKind.i64.wrap (a - b) = a - b := IntWalk.i64_in _ (by omega)
  have h2 : IntKind.i64.wrap (b - a) = b - a := IntWalk.i64_in _ (by omega)
  obtain ⟨u, hu⟩ : ∃ u, (if a - b < b - a then b - a else a - b) = u := ⟨_, rfl⟩
  have HU := Lib.hid (show dst a b = u by rw [← hu]; unfold dst; split <;> omega)
  clear ha hb
  go_enter Tryz.func58, Tryz.ntmps58
  go_wp2_with fail
  go_ret
  exact ⟨by rw [HU.out]; rfl, Below.refl _ _⟩
set_option maxHeartbeats 4000000 in
set_option maxRecDepth 100000 in
theorem isSpotN9_any (Aw Af Ao Ap As : Option Addr) (cw cf co cp cs : Nat) (t : Pt) (n : Int) (w : World) (hs : t.ns ≤ 9223372036854775807) :
    Calls Tryz.prog 40 #[.agg #[.int .i64 t.q.wells, .slice Aw t.q.nw cw, .slice Af t.q.nf cf, .slice Ao t.no co, .slice Ap t.np cp, .slice As t.ns cs, .int .i64 t.far, .int .i64 t.harm, .int .i64 t.many], .int .i64 n] w fun e w' => e = .returned (.bool (t.hasB n)) ∧ Below w.heap.size w w' := by
  have hw1 : IntKind.i64.wrap ((t.ns : Int) - 1) = (t.ns : Int) - 1 := IntWalk.i64_in _ (by omega)
  have HN := Lib.hid (show inR n 0 ((t.ns : Int) - 1) = t.hasB n from rfl)
  clear hs
  have HD0 := Lib.hid (Below.refl w.heap.size w)
  go_enter Tryz.func40, Tryz.ntmps40
  go_wp2_with fail
  refine (within9_b _ _ _ _ _ HN.out).mono ?_
  rintro e w0 ⟨rfl, rfl⟩
  go_wp2_with fail
  go_ret
  exact ⟨rfl, (bTrans HD0.out (bAlloc (Below.refl _ _) (.cells #[.int .i64 t.q.wells, .slice Aw t.q.nw cw, .slice Af t.q.nf cf, .slice Ao t.no co, .slice Ap t.np cp, .slice As t.ns cs, .int .i64 t.far, .int .i64 t.harm, .int .i64 t.many] 29)))⟩
set_option maxHeartbeats 4000000 in
set_option maxRecDepth 100000 in
theorem ask9_any (Aw Af Ao Ap As : Option Addr) (cw cf co cp cs : Nat) (t : Pt) (is : Bool) (w : World) (hs : t.Small) (hT : PAt w Aw Af Ao Ap As t) :
    Calls Tryz.prog 89 #[.agg #[.int .i64 t.q.wells, .slice Aw t.q.nw cw, .slice Af t.q.nf cf, .slice Ao t.no co, .slice Ap t.np cp, .slice As t.ns cs, .int .i64 t.far, .int .i64 t.harm, .int .i64 t.many], .bool is] w fun e w' => e = .returned (.int .i64 (t.askErr is)) ∧ Below w.heap.size w w' := by
  have HD0 := Lib.hid (Below.refl w.heap.size w)
  have HSM := Lib.hid hs
  have HT0 := Lib.hid hT
  clear hs hT
  go_enter Tryz.func89, Tryz.ntmps89
  go_wp2_with fail
  refine (check9_any Aw Af Ao Ap As cw cf co cp cs t _ HSM.out (HT0.out.mono (bAlloc (Below.refl _ _) (.cells #[.int .i64 t.q.wells, .slice Aw t.q.nw cw, .slice Af t.q.nf cf, .slice Ao t.no co, .slice Ap t.np cp, .slice As t.ns cs, .int .i64 t.far, .int .i64 t.harm, .int .i64 t.many] 29)))).mono ?_
  rintro e w1 ⟨rfl, hb⟩
  have hB1 : Below w.heap.size w w1 := bTrans (bAlloc (Below.refl _ _) (.cells #[.int .i64 t.q.wells, .slice Aw t.q.nw cw, .slice Af t.q.nf cf, .slice Ao t.no co, .slice Ap t.np cp, .slice As t.ns cs, .int .i64 t.far, .int .i64 t.harm, .int .i64 t.many] 29)) hb
  have HD1 := Lib.hid (bTrans HD0.out hB1)
  have HT1 := Lib.hid (HT0.out.mono hB1)
  have T1 := Lib.hid (show TBox w1 w.heap.size 29 #[.int .i64 t.q.wells, .slice Aw t.q.nw cw, .slice Af t.q.nf cf, .slice Ao t.no co, .slice Ap t.np cp, .slice As t.ns cs, .int .i64 t.far, .int .i64 t.harm, .int .i64 t.many] from by have := ((TBox.new w #[.int .i64 t.q.wells, .slice Aw t.q.nw cw, .slice Af t.q.nf cf, .slice Ao t.no co, .slice Ap t.np cp, .slice As t.ns cs, .int .i64 t.far, .int .i64 t.harm, .int .i64 t.many] 29).mono (Below.refl _ _)).mono hb; simpa using this)
  clear hb hB1 HD0 HT0
  obtain ⟨T_0, T_1, T_2, T_3, T_4, T_5, T_6, T_7, T_8, T_l⟩ := T1.out.c9
  by_cases hok : t.Ok
  case neg =>
    have HE := Lib.hid (Pt.askErr_bad hok is)
    rw [Pt.err_bad hok]
    clear hok
    go_wp2_with fail
    go_ret
    exact ⟨by rw [HE.out]; rfl, HD1.out⟩
  rw [Pt.err_ok hok]
  have HOK := Lib.hid hok
  clear hok
  cases is
  · skip
    have HE := Lib.hid (Pt.askErr_arg HOK.out)
    go_wp2_with fail
    go_ret
    exact ⟨by rw [HE.out]; rfl, HD1.out⟩
  · skip
    have HE := Lib.hid (Pt.askErr_ok HOK.out)
    go_wp2_with fail
    go_ret
    exact ⟨by rw [HE.out]; rfl, HD1.out⟩
end Go.Proofs.YtjpfdhhiofjpbaaGreatDoor

namespace Go.Proofs.YtjpfdhhiofjpbaaGreatDoor
open Go.RowKit Go.Sort
set_option maxHeartbeats 8000000 in
set_option maxRecDepth 100000 in
theorem isForb9_any (Aw Af Ao Ap As : Option Addr) (cw cf co cp cs : Nat) (t : Pt) (a i v : Nat) (w : World) (ok : t.Ok) (hT : PAt w Aw Af Ao Ap As t) (hi : i < t.ns) (hv : (v : Int) < t.q.wells) (ha : a < t.q.nw) :
    Calls Tryz.prog 44 #[.agg #[.int .i64 t.q.wells, .slice Aw t.q.nw cw, .slice Af t.q.nf cf, .slice Ao t.no co, .slice Ap t.np cp, .slice As t.ns cs, .int .i64 t.far, .int .i64 t.harm, .int .i64 t.many], .int .i64 (a : Int), .int .i64 (i : Int), .int .i64 (v : Int)] w fun e w' => e = .returned (.bool (t.forb i v (a : Int))) ∧ Below w.heap.size w w' := by
  obtain ⟨b, o, Ar, Af2, Ax, cr, cf2, cx, hA, hb7, hsh, hrow, s0, s1, s2, s3, s4, s5, s6⟩ := hT.spots.get hi
  have hxs := ok.spot i hi
  have hi1 : (i : Int) < (t.ns : Int) := by omega
  have hi0 : (0 : Int) ≤ (i : Int) := by omega
  obtain ⟨x, hxx⟩ : ∃ x, t.spot i = x := ⟨_, rfl⟩
  rw [hxx] at s0 s1 s2 s3 s4 s5 s6 hsh hrow hxs
  subst hA
  have hvn : v < t.no := by have := ok.no; omega
  obtain ⟨bo, oo, hO, hbo, co0⟩ := hT.old.get hvn
  obtain ⟨br, or_, bq, oq, cq, hR, hbr, r0, hbq, r1⟩ := hrow.get (k := a) (j := v) (by rw [hxs.n]; exact ha) (by have := hxs.len a (by rw [hxs.n]; exact ha); omega)
  have hxa := And.intro hxs.a0 hxs.a1
  have hol := ok.old v hvn
  have hfa := hxs.fall a (by rw [hxs.n]; exact ha) v (by have := hxs.len a (by rw [hxs.n]; exact ha); omega)
  have hmm := ok.many
  have hln : (v : Int) < (x.fl.len a : Int) := by have := hxs.len a (by rw [hxs.n]; exact ha); omega
  have han : (a : Int) < (x.fl.n : Int) := by have := hxs.n; omega
  have hvo : (v : Int) < (t.no : Int) := by omega
  obtain ⟨fa, hfx⟩ : ∃ f, x.fl.fall a v = f := ⟨_, rfl⟩
  obtain ⟨u, hu⟩ : ∃ u, t.old v = u := ⟨_, rfl⟩
  rw [hfx] at r1 hfa
  rw [hu] at co0 hol
  obtain ⟨d, hd⟩ : ∃ d, dst x.at_ u = d := ⟨_, rfl⟩
  have hwr : IntKind.i64.wrap (fa * t.many) = fa * t.many := IntWalk.i64_in _ (by
    have h1 : 0 ≤ fa * t.many := Int.mul_nonneg hfa.1 hmm.1
    have h2 : fa * t.many ≤ 9 * 9 := Int.mul_le_mul hfa.2 hmm.2 hmm.1 (by decide)
    omega)
  have HF := Lib.hid (show t.forb i v (a : Int) = (decide (d < t.far) || decide (t.harm < fa * t.many)) by unfold Pt.forb; rw [Int.toNat_natCast, hxx, hu, dst_comm, hd, ← hfx])
  have HDI := Lib.hid (fun w' => hd ▸ dist9_any x.at_ u w' hxa hol : ∀ w' : World, Calls Tryz.prog 58 #[.int .i64 x.at_, .int .i64 u] w' fun e w'' => e = .returned (.int .i64 d) ∧ Below w'.heap.size w' w'')
  subst hO hR
  rw [HF.out]
  clear hvn hsh hrow hxs hxx hi hxa hol hfa hmm hd hfx hu HF ha hv ok
  have HD0 := Lib.hid (Below.refl w.heap.size w)
  go_enter Tryz.func44, Tryz.ntmps44
  go_wp2_with fail
  by_cases hdf : d < t.far
  case pos =>
    have hdd : decide (d < t.far) = true := by simpa using hdf
    refine wp_region_quiet_below (by kernel_rfl) (by kernel_rfl) ?_
    repeat (go_big_quiet_step ((go_at_call 58; exact Calls.regrown_of (HDI.out _))))
    refine wpQuiet_nil ?_
    intro w1 hw9
    have hb := below_of_regrown hw9
    clear hw9
    have hB1 : Below w.heap.size w w1 := bTrans (bAlloc (Below.refl _ _) (.cells #[.int .i64 t.q.wells, .slice Aw t.q.nw cw, .slice Af t.q.nf cf, .slice (some ⟨bo, oo, none⟩) t.no co, .slice Ap t.np cp, .slice (some ⟨b, o, none⟩) t.ns cs, .int .i64 t.far, .int .i64 t.harm, .int .i64 t.many] 29)) hb
    have HD1 := Lib.hid (bTrans HD0.out hB1)
    have T1 := Lib.hid (show TBox w1 w.heap.size 29 #[.int .i64 t.q.wells, .slice Aw t.q.nw cw, .slice Af t.q.nf cf, .slice (some ⟨bo, oo, none⟩) t.no co, .slice Ap t.np cp, .slice (some ⟨b, o, none⟩) t.ns cs, .int .i64 t.far, .int .i64 t.harm, .int .i64 t.many] from by have := ((TBox.new w #[.int .i64 t.q.wells, .slice Aw t.q.nw cw, .slice Af t.q.nf cf, .slice (some ⟨bo, oo, none⟩) t.no co, .slice Ap t.np cp, .slice (some ⟨b, o, none⟩) t.ns cs, .int .i64 t.far, .int .i64 t.harm, .int .i64 t.many] 29).mono (Below.refl _ _)).mono hb; simpa using this)
    clear hb hB1 HD0
    obtain ⟨T_0, T_1, T_2, T_3, T_4, T_5, T_6, T_7, T_8, T_l⟩ := T1.out.c9
    go_wp2_with fail
    go_ret
    exact ⟨by simp [hdd], HD1.out⟩
  have hdd : decide (d < t.far) = false := by simpa using hdf
  cases hbh : decide (t.harm < fa * t.many)
  · skip
    refine wp_region_quiet_below (by kernel_rfl) (by kernel_rfl) ?_
    repeat (go_big_quiet_step ((go_at_call 58; exact Calls.regrown_of (HDI.out _))))
    refine wpQuiet_nil ?_
    intro w1 hw9
    have hb := below_of_regrown hw9
    clear hw9
    have hB1 : Below w.heap.size w w1 := bTrans (bAlloc (Below.refl _ _) (.cells #[.int .i64 t.q.wells, .slice Aw t.q.nw cw, .slice Af t.q.nf cf, .slice (some ⟨bo, oo, none⟩) t.no co, .slice Ap t.np cp, .slice (some ⟨b, o, none⟩) t.ns cs, .int .i64 t.far, .int .i64 t.harm, .int .i64 t.many] 29)) hb
    have HD1 := Lib.hid (bTrans HD0.out hB1)
    have T1 := Lib.hid (show TBox w1 w.heap.size 29 #[.int .i64 t.q.wells, .slice Aw t.q.nw cw, .slice Af t.q.nf cf, .slice (some ⟨bo, oo, none⟩) t.no co, .slice Ap t.np cp, .slice (some ⟨b, o, none⟩) t.ns cs, .int .i64 t.far, .int .i64 t.harm, .int .i64 t.many] from by have := ((TBox.new w #[.int .i64 t.q.wells, .slice Aw t.q.nw cw, .slice Af t.q.nf cf, .slice (some ⟨bo, oo, none⟩) t.no co, .slice Ap t.np cp, .slice (some ⟨b, o, none⟩) t.ns cs, .int .i64 t.far, .int .i64 t.harm, .int .i64 t.many] 29).mono (Below.refl _ _)).mono hb; simpa using this)
    clear hb hB1 HD0
    obtain ⟨T_0, T_1, T_2, T_3, T_4, T_5, T_6, T_7, T_8, T_l⟩ := T1.out.c9
    go_wp2_with fail
    go_ret
    exact ⟨by simp [hdd, hbh], HD1.out⟩
  · skip
    refine wp_region_quiet_below (by kernel_rfl) (by kernel_rfl) ?_
    repeat (go_big_quiet_step ((go_at_call 58; exact Calls.regrown_of (HDI.out _))))
    refine wpQuiet_nil ?_
    intro w1 hw9
    have hb := below_of_regrown hw9
    clear hw9
    have hB1 : Below w.heap.size w w1 := bTrans (bAlloc (Below.refl _ _) (.cells #[.int .i64 t.q.wells, .slice Aw t.q.nw cw, .slice Af t.q.nf cf, .slice (some ⟨bo, oo, none⟩) t.no co, .slice Ap t.np cp, .slice (some ⟨b, o, none⟩) t.ns cs, .int .i64 t.far, .int .i64 t.harm, .int .i64 t.many] 29)) hb
    have HD1 := Lib.hid (bTrans HD0.out hB1)
    have T1 := Lib.hid (show TBox w1 w.heap.size 29 #[.int .i64 t.q.wells, .slice Aw t.q.nw cw, .slice Af t.q.nf cf, .slice (some ⟨bo, oo, none⟩) t.no co, .slice Ap t.np cp, .slice (some ⟨b, o, none⟩) t.ns cs, .int .i64 t.far, .int .i64 t.harm, .int .i64 t.many] from by have := ((TBox.new w #[.int .i64 t.q.wells, .slice Aw t.q.nw cw, .slice Af t.q.nf cf, .slice (some ⟨bo, oo, none⟩) t.no co, .slice Ap t.np cp, .slice (some ⟨b, o, none⟩) t.ns cs, .int .i64 t.far, .int .i64 t.harm, .int .i64 t.many] 29).mono (Below.refl _ _)).mono hb; simpa using this)
    clear hb hB1 HD0
    obtain ⟨T_0, T_1, T_2, T_3, T_4, T_5, T_6, T_7, T_8, T_l⟩ := T1.out.c9
    go_wp2_with fail
    go_ret
    exact ⟨by simp [hdd, hbh], HD1.out⟩
end Go.Proofs.YtjpfdhhiofjpbaaGreatDoor

namespace Go.Proofs.YtjpfdhhiofjpbaaGreatDoor
open Go.RowKit Go.Sort
/-- what known hands back -/
def Kn9 (w : World) (t : Pt) (er : Int) (e : Ending) : Prop := (er ≠ 0 → e = .returned (.tuple #[.slice none 0 0, .int .i64 er])) ∧ (er = 0 → ∃ A c, e = .returned (.tuple #[.slice A t.q.leftL.length c, .int .i64 0]) ∧ IntsAt w A t.q.leftL.length (intL0 t.q.leftL))
theorem Kn9.ret {w : World} {t : Pt} {er : Int} {e : Ending} (h : Kn9 w t er e) : ∃ v, e = .returned v := by
  by_cases h0 : er = 0
  · obtain ⟨A, c, h1, _⟩ := h.2 h0
    exact ⟨_, h1⟩
  · exact ⟨_, h.1 h0⟩
theorem left_get {t : Pt} {w : World} {A : Option Addr} (hL : IntsAt w A t.q.leftL.length (intL0 t.q.leftL)) {k : Nat} (hk : k < t.q.leftL.length) : ∃ (b o i : Nat), A = some ⟨b, o, none⟩ ∧ b < w.heap.size ∧ w.cell? ⟨b, o + k, none⟩ = some (.int .i64 (i : Int)) ∧ intL0 t.q.leftL k = (i : Int) ∧ i < t.q.nw := by
  obtain ⟨i, h1, h2, _⟩ := left_at hk
  obtain ⟨b, o, h3, h4, h5⟩ := hL.get hk
  rw [h1] at h5
  exact ⟨b, o, i, h3, h4, h5, h1, h2⟩
set_option maxHeartbeats 4000000 in
set_option maxRecDepth 100000 in
theorem leftOf9_any (Aw Af Ao Ap As : Option Addr) (cw cf co cp cs : Nat) (t : Pt) (w : World) (ok : t.Ok) (hT : PAt w Aw Af Ao Ap As t) :
    Calls Tryz.prog 42 #[.agg #[.int .i64 t.q.wells, .slice Aw t.q.nw cw, .slice Af t.q.nf cf, .slice Ao t.no co, .slice Ap t.np cp, .slice As t.ns cs, .int .i64 t.far, .int .i64 t.harm, .int .i64 t.many]] w fun e w' => (∃ A c, e = .returned (.slice A t.q.leftL.length c) ∧ IntsAt w' A t.q.leftL.length (intL0 t.q.leftL)) ∧ Below w.heap.size w w' := by
  have HD0 := Lib.hid (Below.refl w.heap.size w)
  have HOK := Lib.hid ok
  have HT0 := Lib.hid hT
  clear ok hT
  go_enter Tryz.func42, Tryz.ntmps42
  go_wp2_with fail
  refine (refLeftOf Aw Af cw cf t.q _ HOK.out.q (HT0.out.mono (bAlloc (Below.refl _ _) (.cells #[.int .i64 t.q.wells, .slice Aw t.q.nw cw, .slice Af t.q.nf cf, .slice Ao t.no co, .slice Ap t.np cp, .slice As t.ns cs, .int .i64 t.far, .int .i64 t.harm, .int .i64 t.many] 29))).q).mono ?_
  rintro e w1 ⟨⟨v, rfl, hv⟩, hb⟩
  obtain ⟨A4, c4, rfl, hi4, _⟩ := left_base hv
  have hB1 : Below w.heap.size w w1 := bTrans (bAlloc (Below.refl _ _) (.cells #[.int .i64 t.q.wells, .slice Aw t.q.nw cw, .slice Af t.q.nf cf, .slice Ao t.no co, .slice Ap t.np cp, .slice As t.ns cs, .int .i64 t.far, .int .i64 t.harm, .int .i64 t.many] 29)) hb
  have HD1 := Lib.hid (bTrans HD0.out hB1)
  have HT1 := Lib.hid (HT0.out.mono hB1)
  have HI41 := Lib.hid (hi4)
  have T1 := Lib.hid (show TBox w1 w.heap.size 29 #[.int .i64 t.q.wells, .slice Aw t.q.nw cw, .slice Af t.q.nf cf, .slice Ao t.no co, .slice Ap t.np cp, .slice As t.ns cs, .int .i64 t.far, .int .i64 t.harm, .int .i64 t.many] from by have := ((TBox.new w #[.int .i64 t.q.wells, .slice Aw t.q.nw cw, .slice Af t.q.nf cf, .slice Ao t.no co, .slice Ap t.np cp, .slice As t.ns cs, .int .i64 t.far, .int .i64 t.harm, .int .i64 t.many] 29).mono (Below.refl _ _)).mono hb; simpa using this)
  clear hb hB1 HD0 HT0
  obtain ⟨T_0, T_1, T_2, T_3, T_4, T_5, T_6, T_7, T_8, T_l⟩ := T1.out.c9
  clear hv hi4
  go_wp2_with fail
  go_ret
  exact ⟨⟨A4, c4, rfl, HI41.out⟩, HD1.out⟩
set_option maxHeartbeats 4000000 in
set_option maxRecDepth 100000 in
theorem known9_any (Aw Af Ao Ap As : Option Addr) (cw cf co cp cs : Nat) (t : Pt) (is : Bool) (w : World) (hs : t.Small) (hT : PAt w Aw Af Ao Ap As t) :
    Calls Tryz.prog 97 #[.agg #[.int .i64 t.q.wells, .slice Aw t.q.nw cw, .slice Af t.q.nf cf, .slice Ao t.no co, .slice Ap t.np cp, .slice As t.ns cs, .int .i64 t.far, .int .i64 t.harm, .int .i64 t.many], .bool is] w fun e w' => Kn9 w' t (t.knowErr is) e ∧ Below w.heap.size w w' := by
  have HD0 := Lib.hid (Below.refl w.heap.size w)
  have HSM := Lib.hid hs
  have HT0 := Lib.hid hT
  clear hs hT
  go_enter Tryz.func97, Tryz.ntmps97
  go_wp2_with fail
  refine (ask9_any Aw Af Ao Ap As cw cf co cp cs t is _ HSM.out (HT0.out.mono (bAlloc (Below.refl _ _) (.cells #[.int .i64 t.q.wells, .slice Aw t.q.nw cw, .slice Af t.q.nf cf, .slice Ao t.no co, .slice Ap t.np cp, .slice As t.ns cs, .int .i64 t.far, .int .i64 t.harm, .int .i64 t.many] 29)))).mono ?_
  rintro e w1 ⟨rfl, hb⟩
  have hB1 : Below w.heap.size w w1 := bTrans (bAlloc (Below.refl _ _) (.cells #[.int .i64 t.q.wells, .slice Aw t.q.nw cw, .slice Af t.q.nf cf, .slice Ao t.no co, .slice Ap t.np cp, .slice As t.ns cs, .int .i64 t.far, .int .i64 t.harm, .int .i64 t.many] 29)) hb
  have HD1 := Lib.hid (bTrans HD0.out hB1)
  have HT1 := Lib.hid (HT0.out.mono hB1)
  have T1 := Lib.hid (show TBox w1 w.heap.size 29 #[.int .i64 t.q.wells, .slice Aw t.q.nw cw, .slice Af t.q.nf cf, .slice Ao t.no co, .slice Ap t.np cp, .slice As t.ns cs, .int .i64 t.far, .int .i64 t.harm, .int .i64 t.many] from by have := ((TBox.new w #[.int .i64 t.q.wells, .slice Aw t.q.nw cw, .slice Af t.q.nf cf, .slice Ao t.no co, .slice Ap t.np cp, .slice As t.ns cs, .int .i64 t.far, .int .i64 t.harm, .int .i64 t.many] 29).mono (Below.refl _ _)).mono hb; simpa using this)
  clear hb hB1 HD0 HT0
  obtain ⟨T_0, T_1, T_2, T_3, T_4, T_5, T_6, T_7, T_8, T_l⟩ := T1.out.c9
  obtain ⟨ae, hae⟩ : ∃ v, t.askErr is = v := ⟨_, rfl⟩
  rw [hae]
  have HAE := Lib.hid hae
  clear hae
  by_cases h0 : ae = 0
  case neg =>
    have g0 : (ae != 0) = true := by simp [h0]
    have HE := Lib.hid (show t.knowErr is = ae by unfold Pt.knowErr; rw [HAE.out, if_neg h0])
    have HZ := Lib.hid h0
    clear h0
    go_wp2_with fail
    go_ret2
    exact ⟨⟨fun _ => by rw [HE.out]; rfl, fun h => by rw [HE.out] at h; exact absurd h HZ.out⟩, HD1.out⟩
  subst h0
  obtain ⟨ok, rfl⟩ := Pt.askErr_zero HAE.out
  have HOK := Lib.hid ok
  clear ok
  go_wp2_with fail
  refine (leftOf9_any Aw Af Ao Ap As cw cf co cp cs t _ HOK.out HT1.out).mono ?_
  rintro e w2 ⟨⟨A4, c4, rfl, hi4⟩, hb⟩
  have hB2 : Below w1.heap.size w1 w2 := bTrans (Below.refl _ _) hb
  have HD2 := Lib.hid (bTrans HD1.out hB2)
  have HT2 := Lib.hid (HT1.out.mono hB2)
  have HI42 := Lib.hid (hi4)
  have T2 := Lib.hid (T1.out.mono hB2)
  clear hb hB2 HD1 HT1 T1 T_0 T_1 T_2 T_3 T_4 T_5 T_6 T_7 T_8 T_l
  obtain ⟨T_0, T_1, T_2, T_3, T_4, T_5, T_6, T_7, T_8, T_l⟩ := T2.out.c9
  clear hi4
  obtain ⟨n, hn⟩ : ∃ n, t.q.leftL.length = n := ⟨_, rfl⟩
  have HN := Lib.hid hn
  rw [hn]
  by_cases hz : n = 0
  case pos =>
    have HE := Lib.hid (Pt.knowErr_none HOK.out (List.eq_nil_of_length_eq_zero (hn.trans hz)))
    have g0 : ((n : Int) == 0) = true := by simp [hz]
    have g1 : (n == 0) = true := by simp [hz]
    clear hn hz
    go_wp2_with fail
    go_ret2
    exact ⟨⟨fun _ => by rw [HE.out]; rfl, fun h => by rw [HE.out] at h; exact absurd h (by decide)⟩, HD2.out⟩
  have HE := Lib.hid (Pt.knowErr_ok HOK.out (fun e => hz (by rw [← hn, e]; rfl)))
  have g0 : ((n : Int) == 0) = false := by simp [hz]
  have g1 : (n == 0) = false := by simp [hz]
  clear hn hz
  go_wp2_with fail
  go_ret2
  exact ⟨⟨fun h => absurd HE.out h, fun _ => ⟨A4, c4, by rw [HN.out]; rfl, HI42.out⟩⟩, HD2.out⟩
end Go.Proofs.YtjpfdhhiofjpbaaGreatDoor

namespace Go.Proofs.YtjpfdhhiofjpbaaGreatDoor
open Go.RowKit Go.Sort
set_option maxHeartbeats 4000000 in
set_option maxRecDepth 100000 in
theorem unlikeP_any (C : Nat) (Aw Af Ao Ap As : Option Addr) (cw cf co cp cs : Nat) (t : Pt) (Al : Option Addr) (cl : Nat) (i a b : Nat) (w : World) (hst : StreetAt w C Aw Af Ao Ap As cw cf co cp cs t Al cl) (ok : t.Ok) (hi : i < t.ns) (ha : a < t.q.nw) (hb : b < t.q.nw) :
    Calls Tryz.prog 159 #[.pointer (some ⟨C, 0, none⟩), .int .i64 i, .int .i64 a, .int .i64 b] w fun e w' => e = .returned (.bool (t.unlike i (a : Int) (b : Int))) ∧ Below w.heap.size w w' := by
  have HD0 := Lib.hid (Below.refl w.heap.size w)
  have HST0 := Lib.hid hst
  have HOK := Lib.hid ok
  have HI := Lib.hid hi
  have HA := Lib.hid ha
  have HB := Lib.hid hb
  clear hst ok hi ha hb
  go_enter Tryz.func159, Tryz.ntmps159
  have HMW := Lib.hid (Pt.m_wells HOK.out)
  have hm4 : t.m ≤ 4 := by have := HOK.out.q.w1; have := HMW.out; omega
  obtain ⟨c0, c1, c2, c3, c4, c5, c6, c7, c8, c9, hCl⟩ := HST0.out.box.c10
  go_wp2_with fail
  clear c0 c1 c2 c3 c4 c5 c6 c7 c8 c9 hCl
  go_loopw [16] (fun s16 wr => ∃ k : Nat, k ≤ t.m ∧ s16 = .int .i64 (k : Int) ∧ (∀ v : Nat, v < k → t.forb i v (a : Int) = t.forb i v (b : Int)) ∧ Below w.heap.size w wr) (fun s16 _ => t.m - (intOf s16).toNat)
  case atStart => exact ⟨0, Nat.zero_le _, rfl, fun v h => absurd h (Nat.not_lt_zero _), Below.refl _ _⟩
  case round =>
    obtain ⟨k, hk_k, rfl, hno, hb⟩ := hrel
    have HBk := Lib.hid hb
    have HNO := Lib.hid hno
    clear hno
    have hB1 : Below w.heap.size w wr := bTrans (Below.refl _ _) hb
    have HD1 := Lib.hid (bTrans HD0.out hB1)
    have HST1 := Lib.hid (HST0.out.mono hB1)
    have HU_k1 := Lib.hid ((show Upto w wr from HBk.out))
    clear hb hB1
    by_cases hlt_k : k < t.m
    case pos =>
      have h1_k : (k : Int) < (t.m : Int) := by omega
      have h0_k : (0 : Int) ≤ (k : Int) := by omega
      have hb_k : k < 100 := by omega
      have hkw : (k : Int) < t.q.wells := by have := HMW.out; omega
      have HKW := Lib.hid hkw
      have HKM := Lib.hid hlt_k
      obtain ⟨fa, hfa⟩ : ∃ f, t.forb i k (a : Int) = f := ⟨_, rfl⟩
      obtain ⟨fb, hfb⟩ : ∃ f, t.forb i k (b : Int) = f := ⟨_, rfl⟩
      have HFA := Lib.hid hfa
      have HFB := Lib.hid hfb
      clear hfa hfb
      go_wp2_with fail
      refine (HFA.out ▸ forbidsP_any C Aw Af Ao Ap As cw cf co cp cs t Al cl i k a _ HST1.out HOK.out HI.out HKW.out HA.out).mono ?_
      rintro e w2 ⟨rfl, hb⟩
      have hB2 : Below wr.heap.size wr w2 := bTrans (Below.refl _ _) hb
      have HD2 := Lib.hid (bTrans HD1.out hB2)
      have HST2 := Lib.hid (HST1.out.mono hB2)
      have HU_k2 := Lib.hid (HU_k1.out.mono hB2)
      clear hb hB2 HD1 HST1 HU_k1
      go_wp2_with fail
      refine (HFB.out ▸ forbidsP_any C Aw Af Ao Ap As cw cf co cp cs t Al cl i k b _ HST2.out HOK.out HI.out HKW.out HB.out).mono ?_
      rintro e w3 ⟨rfl, hb⟩
      have hB3 : Below w2.heap.size w2 w3 := bTrans (Below.refl _ _) hb
      have HD3 := Lib.hid (bTrans HD2.out hB3)
      have HST3 := Lib.hid (HST2.out.mono hB3)
      have HU_k3 := Lib.hid (HU_k2.out.mono hB3)
      clear hb hB3 HD2 HST2 HU_k2
      cases fa <;> cases fb
      · skip
        have HN2 := Lib.hid (show ∀ v : Nat, v < k + 1 → t.forb i v (a : Int) = t.forb i v (b : Int) from fun v hv => by
          rcases Nat.lt_or_ge v k with h1 | h1
          · exact HNO.out v h1
          · obtain rfl : v = k := by omega
            rw [HFA.out, HFB.out])
        go_wp2_with fail
        go_roundw
        case rel =>
          first
          | exact ⟨k + 1, by omega, by go_num, HN2.out, HU_k3.out⟩
          | ((repeat apply Exists.intro)
             refine ⟨⟨k + 1, by omega, ?_, HN2.out, HU_k3.out⟩, rfl⟩
             go_num)
        case measure => simp [intOf]; omega
      · skip
        have HR := Lib.hid (show t.unlike i (a : Int) (b : Int) = true from anyB_true.2 ⟨k, HKM.out, by rw [HFA.out, HFB.out]; rfl⟩)
        go_wp2_with fail
        go_ret
        exact ⟨by rw [HR.out] <;> rfl, HD3.out⟩
      · skip
        have HR := Lib.hid (show t.unlike i (a : Int) (b : Int) = true from anyB_true.2 ⟨k, HKM.out, by rw [HFA.out, HFB.out]; rfl⟩)
        go_wp2_with fail
        go_ret
        exact ⟨by rw [HR.out] <;> rfl, HD3.out⟩
      · skip
        have HN2 := Lib.hid (show ∀ v : Nat, v < k + 1 → t.forb i v (a : Int) = t.forb i v (b : Int) from fun v hv => by
          rcases Nat.lt_or_ge v k with h1 | h1
          · exact HNO.out v h1
          · obtain rfl : v = k := by omega
            rw [HFA.out, HFB.out])
        go_wp2_with fail
        go_roundw
        case rel =>
          first
          | exact ⟨k + 1, by omega, by go_num, HN2.out, HU_k3.out⟩
          | ((repeat apply Exists.intro)
             refine ⟨⟨k + 1, by omega, ?_, HN2.out, HU_k3.out⟩, rfl⟩
             go_num)
        case measure => simp [intOf]; omega
    have he_k : k = t.m := by omega
    have hkw : ¬ (k : Int) < t.q.wells := by have := HMW.out; omega
    have HR := Lib.hid (show t.unlike i (a : Int) (b : Int) = false from anyB_false.2 fun v hv => by rw [HNO.out v (by omega)]; simp)
    clear he_k
    go_wp2_with fail
    go_ret
    exact ⟨by rw [HR.out] <;> rfl, HD1.out⟩
set_option maxHeartbeats 4000000 in
set_option maxRecDepth 100000 in
theorem tellsP_any (C : Nat) (Aw Af Ao Ap As : Option Addr) (cw cf co cp cs : Nat) (t : Pt) (Al : Option Addr) (cl : Nat) (p q a b : Nat) (w : World) (hst : StreetAt w C Aw Af Ao Ap As cw cf co cp cs t Al cl) (ok : t.Ok) (hp : (p : Int) < t.q.wells) (hq : (q : Int) < t.q.wells) (ha : a < t.q.nw) (hb : b < t.q.nw) :
    Calls Tryz.prog 160 #[.pointer (some ⟨C, 0, none⟩), .agg #[.int .i64 p, .int .i64 q], .int .i64 a, .int .i64 b] w fun e w' => e = .returned (.bool (t.q.apart (p, q) (a : Int) (b : Int))) ∧ Below w.heap.size w w' := by
  obtain ⟨va, hva⟩ : ∃ v, t.q.F (a : Int) (p, q) = v := ⟨_, rfl⟩
  obtain ⟨vb, hvb⟩ : ∃ v, t.q.F (b : Int) (p, q) = v := ⟨_, rfl⟩
  have HE := Lib.hid (show t.q.apart (p, q) (a : Int) (b : Int) = (va != vb) by unfold Qt.apart; rw [hva, hvb])
  have hva : (t.q.world a).fall p q = va := by rw [← hva]; unfold Qt.F; rw [Int.toNat_natCast]
  have hvb : (t.q.world b).fall p q = vb := by rw [← hvb]; unfold Qt.F; rw [Int.toNat_natCast]
  obtain ⟨bw, ow, rfl, hbw, hcw⟩ : ∃ b o, Aw = some ⟨b, o, none⟩ ∧ b < w.heap.size ∧ ∀ i, i < t.q.nw → ∃ A' c', w.cell? ⟨b, o + i, none⟩ = some (.slice A' (t.q.world i).n c') ∧ RowsAt w A' (t.q.world i) ∧ (t.q.world i).n ≤ 9223372036854775807 := by
    rcases hst.p.q.worlds with h | h
    · omega
    · exact h
  obtain ⟨A1, c1, ca0, hra, _⟩ := hcw a ha
  obtain ⟨A2, c2, cb0, hrb, _⟩ := hcw b hb
  have oka := ok.q.world a ha
  have okb := ok.q.world b hb
  have pna : p < (t.q.world a).n := by have := oka.n; omega
  have pnb : p < (t.q.world b).n := by have := okb.n; omega
  have qna : q < (t.q.world a).len p := by have := oka.len p pna; omega
  have qnb : q < (t.q.world b).len p := by have := okb.len p pnb; omega
  obtain ⟨b1, o1, b2, o2, cc2, rfl, hb1, ca1, hb2, ca2⟩ := hra.get pna qna
  obtain ⟨d1, e1, d2, e2, dd2, rfl, hd1, cb1, hd2, cb2⟩ := hrb.get pnb qnb
  rw [hva] at ca2
  rw [hvb] at cb2
  obtain ⟨c0, x1, x2, x3, x4, x5, x6, x7, x8, x9, hCl⟩ := hst.box.c10
  obtain ⟨na, hna⟩ : ∃ n, (t.q.world a).n = n := ⟨_, rfl⟩
  obtain ⟨nb, hnb⟩ : ∃ n, (t.q.world b).n = n := ⟨_, rfl⟩
  obtain ⟨la, hla⟩ : ∃ n, (t.q.world a).len p = n := ⟨_, rfl⟩
  obtain ⟨lb, hlb⟩ : ∃ n, (t.q.world b).len p = n := ⟨_, rfl⟩
  rw [hna] at ca0 pna
  rw [hnb] at cb0 pnb
  rw [hla] at ca1 qna
  rw [hlb] at cb1 qnb
  have i1 : (a : Int) < (t.q.nw : Int) := by omega
  have i2 : (b : Int) < (t.q.nw : Int) := by omega
  have i3 : (p : Int) < (na : Int) := by omega
  have i4 : (p : Int) < (nb : Int) := by omega
  have i5 : (q : Int) < (la : Int) := by omega
  have i6 : (q : Int) < (lb : Int) := by omega
  clear hcw hra hrb oka okb hva hvb hna hnb hla hlb
  have HD0 := Lib.hid (Below.refl w.heap.size w)
  have HST0 := Lib.hid hst
  have HOK := Lib.hid ok
  have HP := Lib.hid hp
  have HQ := Lib.hid hq
  have HA := Lib.hid ha
  have HB := Lib.hid hb
  clear hst ok hp hq ha hb
  go_enter Tryz.func160, Tryz.ntmps160
  go_wp2_with fail
  refine wp_region_quiet_below (by kernel_rfl) (by kernel_rfl) ?_
  repeat (go_big_quiet_step ((fail)))
  refine wpQuiet_nil ?_
  intro w9 hw9
  have hb9 := below_of_regrown hw9
  have HB9 := Lib.hid hb9
  clear hw9 hb9
  go_wp2_with fail
  go_ret
  exact ⟨by rw [HE.out]; first | rfl | exact ret_bool (by by_cases h : va = vb <;> simp [h]), bTrans (bAlloc (Below.refl w.heap.size w) _) HB9.out⟩
end Go.Proofs.YtjpfdhhiofjpbaaGreatDoor

