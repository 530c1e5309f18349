/- Parts joined: what the claim TopToldApart needs beyond the others. -/
import Derived.WalkKit
import Derived.WalkSpells
import Derived.WalkLawsBesides
import Derived.BigQuiet
import Derived.Lib.Hide
import Derived.Lib.QuietBelow
import Derived.Deep.RegionHeld3
import Derived.OwnWalk
import Derived.Laws.AppendOwn
import Derived.Laws.OwnMore
import Derived.Laws.IdiomCopy
import Derived.Deep.RegionLaw
import Derived.Lib.SliceRun
import Derived.ArgAppend
import Derived.RegionTactic
import Derived.Laws.MakeOwn
import Derived.Test.YthnojgdckkdcgaaGreatDoorProg
import Derived.Test.YthnojgdckkdcgaaGreatDoorNQA
import Derived.Test.YthnojgdckkdcgaaGreatDoorNQB
import Derived.Test.YthnojgdckkdcgaaGreatDoorNQC
import Derived.Test.YthnojgdckkdcgaaGreatDoorNQD
import Derived.Test.YthnojgdckkdcgaaGreatDoorNQE
import Derived.Test.YthnojgdckkdcgaaGreatDoorNQF
import Derived.Test.YthnojgdckkdcgaaGreatDoorNQG
import Derived.Test.YthnojgdckkdcgaaGreatDoorNQH
import Derived.Test.YthnojgdckkdcgaaGreatDoorNQI
import Derived.Test.YthnojgdckkdcgaaGreatDoorNQJ
import Derived.Test.YthnojgdckkdcgaaGreatDoorNQK
import Derived.Test.YthnojgdckkdcgaaGreatDoorNQL
import Derived.Test.YthnojgdckkdcgaaGreatDoorNQM
import Derived.Test.YthnojgdckkdcgaaGreatDoorNQN
import Derived.Test.YthnojgdckkdcgaaGreatDoorNQO
import Derived.Test.YthnojgdckkdcgaaGreatDoorNQP
import Derived.Test.YthnojgdckkdcgaaGreatDoorNQQ
import Derived.Test.YthnojgdckkdcgaaGreatDoorNQR
import Derived.Test.YthnojgdckkdcgaaGreatDoorNQS
set_option linter.unusedSimpArgs false
set_option linter.unusedVariables false
namespace Go.Proofs.YthnojgdckkdcgaaGreatDoor
open Go.RowKit Go.Sort
/-! ### Worlds -/
attribute [go_sem] cell_grow frozen_grow Instr.field asAgg
section
variable {w x y : World}
end
/-! ### Endings -/
/-! ### Plain notions -/
theorem anyB_congr {p q : Nat → Bool} {n : Nat} (h : ∀ i, i < n → p i = q i) : anyB p n = anyB q n := by
  induction n with
  | zero => rfl
  | succ n ih => simp only [anyB, ih (fun i hi => h i (by omega)), h n (by omega)]
/-! ### How slices read -/
section
variable {P : Program} {ops : Array Oper} {md : Region.Mode}

/-! ### The frame behind some of the operations -/
/-! ### Operations that are calm: one value in every world that is the first one with new blocks; what they leave is that with new blocks -/
attribute [go_sem] Oper.calm Oper.calmAt Oper.calmUpon
/-! ### Whoever looks at a slot, and whoever writes it, wait for each other -/
end
section
variable {P : Program} {ops : Array Oper} {md : Region.Mode}
attribute [go_sem] Oper.heldAt Oper.heldUpon newer_refl depsP
end
section
variable {m : Nat} {g : Nat → Int} {x d n : Nat} {h : Nat → Int}
end
section
variable {P : Program} {ops : Array Oper} {md : Region.Mode}
theorem wpStir_call {W : World} {Q : Act → World → Prop} {k : Nat} {o : Oper} {l : List Oper} {c : Value} {hs : List Stir} {a : Act} {F : List (Nat × (World → Prop))} (hg : o.guard = none)
    (h1 : ∀ w', Below W.heap.size W w' → depsP md ops k F w' → Oper.stirAt P o a w' Newer (fun _ v => v = c))
    (h2 : wpStir P md ops W Q (k + 1) l hs (a.put o.dst c) F) : wpStir P md ops W Q k (o :: l) (.const c :: hs) a F := by
  refine wpStir_const ?_ h2
  unfold Region.wanted
  rw [hg, if_pos rfl]
  exact fun p => h1 _ (below_regrown _ _ _)
attribute [go_sem] Oper.stirAt Oper.stirUpon
end
/-! ### Bounds -/
/-! ### Spans -/
section
variable {P : Program} {ops : Array Oper} {md : Region.Mode}
end
/-! ### Rows of structs -/
/-! ### A row at hand -/
attribute [go_sem ↓] neqSpan
end Go.Proofs.YthnojgdckkdcgaaGreatDoor

namespace Go.Proofs.YthnojgdckkdcgaaGreatDoor
open Go.RowKit Go.Sort
/-- a fall in a world -/
def Qt.fallAt (t : Qt) (i : Nat) (p q : Int) : Int := (t.world i).fall p.toNat q.toNat
set_option maxHeartbeats 2000000 in
theorem fall5_any (Aw Af : Option Addr) (cw cf : Nat) (t : Qt) (i p q : Nat) (w : World) (ok : t.Ok) (hi : i < t.nw) (hp : (p : Int) < t.wells) (hq : (q : Int) < t.wells) (hT : QAt w Aw Af t) :
    Calls Tryz.prog 48 #[.agg #[.int .i64 t.wells, .slice Aw t.nw cw, .slice Af t.nf cf], .int .i64 i, .int .i64 p, .int .i64 q] w fun e w' => e = .returned (.int .i64 (t.fallAt i p q)) ∧ Below w.heap.size w w' := by
  obtain ⟨b, o, b', o', c', b'', o'', c'', n, m, v, rfl, a2, a3, a4, a5, a6, a7, hv, v0, v1, hn, hm⟩ := ok.at hT hi (p := p) (q := q) (by omega) hp (by omega) hq
  rw [Int.toNat_natCast] at a5
  rw [Int.toNat_natCast] at a7
  have HV := Lib.hid (show t.fallAt i p q = v from hv.symm)
  have HB := Lib.hid (bAlloc (Below.refl w.heap.size w) (.cells #[.int .i64 t.wells, .slice (some ⟨b, o, none⟩) t.nw cw, .slice Af t.nf cf] 25))
  have p1 : (p : Int) < (n : Int) := by omega
  have p0 : (0 : Int) ≤ (p : Int) := by omega
  have q1 : (q : Int) < (m : Int) := by omega
  have q0 : (0 : Int) ≤ (q : Int) := by omega
  have i1 : (i : Int) < (t.nw : Int) := by omega
  have i0 : (0 : Int) ≤ (i : Int) := by omega
  clear hv hn hm hi hp hq ok hT
  go_enter Tryz.func48, Tryz.ntmps48
  go_wp2_with fail
  go_ret
  exact ⟨by rw [HV.out]; rfl, HB.out⟩
end Go.Proofs.YthnojgdckkdcgaaGreatDoor

namespace Go.Proofs.YthnojgdckkdcgaaGreatDoor
open Go.RowKit Go.Sort
theorem wellB_ok {t : Qt} (ok : t.Ok) (n : Int) : t.wellB n = inR n 0 (t.wells - 1) := by
  have h0 := ok.w0
  have h1 := ok.w1
  unfold Qt.wellB
  rw [show IntKind.i64.wrap (t.wells - 1) = t.wells - 1 from IntWalk.i64_in _ (by omega)]
theorem isWell5_any (Aw Af : Option Addr) (cw cf : Nat) (t : Qt) (n : Int) (w : World) :
    Calls Tryz.prog 11 #[.agg #[.int .i64 t.wells, .slice Aw t.nw cw, .slice Af t.nf cf], .int .i64 n] w fun e w' => e = .returned (.bool (t.wellB n)) ∧ Below w.heap.size w w' := by
  obtain ⟨m, hm⟩ : ∃ m, IntKind.i64.wrap (t.wells - 1) = m := ⟨_, rfl⟩
  have H := Lib.hid (show inR n 0 m = t.wellB n by unfold Qt.wellB; rw [hm])
  go_enter Tryz.func11, Tryz.ntmps11
  go_wp2_with fail
  refine (within5_b _ _ _ _ _ H.out).mono ?_
  rintro e w' ⟨rfl, rfl⟩
  go_wp2_with fail
  go_ret
  exact ⟨rfl, bAlloc (Below.refl _ _) _⟩
end Go.Proofs.YthnojgdckkdcgaaGreatDoor

namespace Go.Proofs.YthnojgdckkdcgaaGreatDoor
theorem firstUpTo_spec (l : List Tp) (p : List Tp → Bool) : ∀ n a, (∀ x, firstUpTo l p a n = some x → List.Sublist x l ∧ p x = true ∧ a ≤ x.length ∧ x.length < a + n ∧ ∀ y, List.Sublist y l → p y = true → a ≤ y.length → x.length ≤ y.length) ∧
    (firstUpTo l p a n = none → ∀ y, List.Sublist y l → p y = true → a ≤ y.length → a + n ≤ y.length)
  | 0, a => ⟨(fun x h => by cases h), fun _ y _ _ h => by omega⟩
  | n + 1, a => by
    obtain ⟨i1, i2⟩ := firstUpTo_spec l p n (a + 1)
    rw [show firstUpTo l p a (n + 1) = (match (listsL l a).find? p with | some x => some x | none => firstUpTo l p (a + 1) n) from rfl]
    cases hf : (listsL l a).find? p with
    | some z =>
      refine ⟨fun x h => ?_, fun h => by cases h⟩
      obtain rfl : z = x := Option.some.inj h
      obtain ⟨h1, h2⟩ := listsL_mem.1 (List.mem_of_find?_eq_some hf)
      exact ⟨h1, List.find?_some hf, by omega, by omega, fun y _ _ hy => by omega⟩
    | none =>
      have hno : ∀ y, List.Sublist y l → p y = true → a ≤ y.length → a + 1 ≤ y.length := fun y h1 h2 h3 => by
        rcases Nat.eq_or_lt_of_le h3 with h4 | h4
        · have := List.find?_eq_none.1 hf y (listsL_mem.2 ⟨h1, h4.symm⟩)
          exact absurd h2 this
        · exact h4
      refine ⟨fun x h => ?_, fun h y h1 h2 h3 => ?_⟩
      · obtain ⟨a1, a2, a3, a4, a5⟩ := i1 x h
        exact ⟨a1, a2, by omega, by omega, fun y h1 h2 h3 => a5 y h1 h2 (hno y h1 h2 h3)⟩
      · have := i2 h y h1 h2 (hno y h1 h2 h3)
        omega
theorem fewest_spec (l : List Tp) (p : List Tp → Bool) (h1 : p l = true) : List.Sublist (fewestL l p) l ∧ p (fewestL l p) = true ∧ ∀ y, List.Sublist y l → p y = true → (fewestL l p).length ≤ y.length := by
  obtain ⟨a, b⟩ := firstUpTo_spec l p l.length 0
  unfold fewestL
  cases hf : firstUpTo l p 0 l.length with
  | some x =>
    obtain ⟨c1, c2, _, _, c5⟩ := a x hf
    exact ⟨c1, c2, fun y h3 h4 => c5 y h3 h4 (Nat.zero_le _)⟩
  | none => exact ⟨List.Sublist.refl _, h1, fun y h3 h4 => by have := b hf y h3 h4 (Nat.zero_le _); simp; omega⟩
end Go.Proofs.YthnojgdckkdcgaaGreatDoor

namespace Go.Proofs.YthnojgdckkdcgaaGreatDoor
open Go.RowKit Go.Sort
/-! ### How many tests are enough -/
/-- the worlds of some in which a test shows a fall -/
def Qt.shown (t : Qt) (x : Tp) (L : List Int) (f : Int) : List Int := L.filter fun w => t.F w x == f
end Go.Proofs.YthnojgdckkdcgaaGreatDoor

namespace Go.Proofs.YthnojgdckkdcgaaGreatDoor
open Go.RowKit Go.Sort
/-! ### What is known -/
theorem cntB_zero {p : Nat → Bool} : ∀ {n : Nat}, cntB p n = 0 ↔ ∀ i, i < n → p i = false
  | 0 => by simp [cntB]
  | n + 1 => by
    have ih := cntB_zero (p := p) (n := n)
    unfold cntB
    split
    · rename_i h
      exact ⟨fun e => by omega, fun e => by rw [e n (by omega)] at h; cases h⟩
    · rename_i h
      rw [ih]
      refine ⟨fun e i hi => ?_, fun e i hi => e i (by omega)⟩
      rcases Nat.lt_or_ge i n with h1 | h1
      · exact e i h1
      · obtain rfl : i = n := by omega
        simpa using h
theorem cntB_all {p : Nat → Bool} : ∀ {n : Nat}, cntB p n = n ↔ ∀ i, i < n → p i = true
  | 0 => by simp [cntB]
  | n + 1 => by
    have ih := cntB_all (p := p) (n := n)
    have hl := cntB_le p n
    unfold cntB
    split
    · rename_i h
      constructor
      · intro e i hi
        rcases Nat.lt_or_ge i n with h1 | h1
        · exact ih.1 (by omega) i h1
        · obtain rfl : i = n := by omega
          exact h
      · intro e
        have := ih.2 fun i hi => e i (by omega)
        omega
    · rename_i h
      exact ⟨fun e => by omega, fun e => absurd (e n (by omega)) h⟩
/-- what is known, of so many of all -/
def knownK (so all : Int) : Int := if so = 0 then 2 else if so = all then 1 else 3
/-! ### Draws -/
end Go.Proofs.YthnojgdckkdcgaaGreatDoor

namespace Go.Proofs.YthnojgdckkdcgaaGreatDoor
open Go.RowKit Go.Sort
section
variable {P : Program} {ops : Array Oper} {md : Region.Mode}
end
/-- the ways of a guard -/
theorem two_ways (b1 b2 : Bool) : b1 = false ∨ (b1 = true ∧ b2 = false) ∨ (b1 = true ∧ b2 = true) := by cases b1 <;> cases b2 <;> simp
end Go.Proofs.YthnojgdckkdcgaaGreatDoor

namespace Go.Proofs.YthnojgdckkdcgaaGreatDoor
open Go.RowKit Go.Sort
theorem fallAt_F (t : Qt) (i p q : Nat) : t.fallAt i p q = t.F (i : Int) (p, q) := by
  unfold Qt.fallAt Qt.F
  rw [Int.toNat_natCast, Int.toNat_natCast, Int.toNat_natCast]
end Go.Proofs.YthnojgdckkdcgaaGreatDoor

namespace Go.Proofs.YthnojgdckkdcgaaGreatDoor
open Go.RowKit Go.Sort
def Qt.testB (t : Qt) (p q : Int) : Bool := t.wellB p && t.wellB q
set_option maxHeartbeats 2000000 in
theorem isTest5_any (Aw Af : Option Addr) (cw cf : Nat) (t : Qt) (p q : Int) (w : World) :
    Calls Tryz.prog 45 #[.agg #[.int .i64 t.wells, .slice Aw t.nw cw, .slice Af t.nf cf], .agg #[.int .i64 p, .int .i64 q]] w fun e w' => e = .returned (.bool (t.testB p q)) ∧ Below w.heap.size w w' := by
  unfold Qt.testB
  obtain ⟨b1, h1⟩ : ∃ b, t.wellB p = b := ⟨_, rfl⟩
  obtain ⟨b2, h2⟩ : ∃ b, t.wellB q = b := ⟨_, rfl⟩
  have HC1 := Lib.hid (fun w => h1 ▸ isWell5_any Aw Af cw cf t p w : ∀ w : World, Calls Tryz.prog 11 #[.agg #[.int .i64 t.wells, .slice Aw t.nw cw, .slice Af t.nf cf], .int .i64 p] w fun e w' => e = .returned (.bool b1) ∧ Below w.heap.size w w')
  have HC2 := Lib.hid (fun w => h2 ▸ isWell5_any Aw Af cw cf t q w : ∀ w : World, Calls Tryz.prog 11 #[.agg #[.int .i64 t.wells, .slice Aw t.nw cw, .slice Af t.nf cf], .int .i64 q] w fun e w' => e = .returned (.bool b2) ∧ Below w.heap.size w w')
  rw [h1, h2]
  clear h1 h2
  have HB := Lib.hid (bAlloc (bAlloc (Below.refl w.heap.size w) (.cells #[.int .i64 t.wells, .slice Aw t.nw cw, .slice Af t.nf cf] 25)) (.cells #[.int .i64 p, .int .i64 q] 93))
  go_enter Tryz.func45, Tryz.ntmps45
  go_wp2_with fail
  refine (HC1.out _).mono ?_
  rintro e w1 ⟨rfl, hb1⟩
  obtain ⟨bc1, bf1⟩ := bcell hb1
  have hz1 := hb1.size
  simp only [World.size_alloc] at hz1
  have hy1 : w.heap.size < w1.heap.size := by omega
  have hy2 : w.heap.size + 1 < w1.heap.size := by omega
  have HB1 := Lib.hid (bTrans HB.out hb1)
  clear hb1
  rcases two_ways b1 b2 with rfl | ⟨rfl, rfl⟩ | ⟨rfl, rfl⟩
  · go_wp2_with fail
    go_ret
    exact ⟨ret_bool (by simp), HB1.out⟩
  all_goals
    go_wp2_with fail
    refine (HC2.out _).mono ?_
    rintro e w2 ⟨rfl, hb2⟩
    have HB2 := Lib.hid (bTrans HB1.out hb2)
    clear hb2
    go_wp2_with fail
    go_ret
    exact ⟨ret_bool (by simp), HB2.out⟩
end Go.Proofs.YthnojgdckkdcgaaGreatDoor

namespace Go.Proofs.YthnojgdckkdcgaaGreatDoor
open Go.RowKit Go.Sort Go.Shelf
attribute [local go_sem] Oper.semAt_some
theorem testsTo_len (m p q : Nat) : (testsTo m p q).length = p * m + q := by
  unfold testsTo
  rw [List.length_append, flat_len (m := m) (fun p => by simp)]
  simp
end Go.Proofs.YthnojgdckkdcgaaGreatDoor

namespace Go.Proofs.YthnojgdckkdcgaaGreatDoor
open Go.RowKit Go.Sort
theorem CopyAt9.lower {w : World} {base base' : Nat} {vW vF vO vP vS : Value} {t : Pt} (h : CopyAt9 w base vW vF vO vP vS t) (hb : base' ≤ base) : CopyAt9 w base' vW vF vO vP vS t := by
  obtain ⟨h1, h2, h3, us, h4, h5⟩ := h
  exact ⟨h1.lower hb, owns_lower h2 hb, owns_lower h3 hb, us, owns_lower h4 hb, h5⟩
end Go.Proofs.YthnojgdckkdcgaaGreatDoor

namespace Go.Proofs.YthnojgdckkdcgaaGreatDoor
open Go.RowKit Go.Sort
theorem dst_comm (a b : Int) : dst a b = dst b a := by unfold dst; omega
def Pt.whoAny (t : Pt) (s : Nat) : Bool := anyB (t.whoB s) t.m
noncomputable def Pt.freeB (t : Pt) (s : Nat) : Bool := t.canB s && !t.whoAny s
noncomputable def Pt.frees (t : Pt) : List Int := selTo t.freeB t.ns
/-! ### errors -/
/-! ### what each function returns -/
def Pt.oldB (t : Pt) (n : Int) : Bool := t.q.wellB n
noncomputable def Pt.forbidsOut (t : Pt) (s w : Int) : Int × Int := if t.knowErr (t.hasB s && t.oldB w) = 0 then (knownK (t.inN s.toNat w.toNat) t.q.leftL.length, 0) else (0, t.knowErr (t.hasB s && t.oldB w))
end Go.Proofs.YthnojgdckkdcgaaGreatDoor

namespace Go.Proofs.YthnojgdckkdcgaaGreatDoor
open Go.RowKit Go.Sort
/-! ### One fact more -/
theorem leftB_add (t : Qt) (f : Fact) (i : Nat) : (t.add f).leftB i = (t.leftB i && (t.world i).agrees f) := by
  unfold Qt.leftB
  show (!(anyB (fun j => !(t.world i).agrees (if j < t.nf then t.fact j else f)) t.nf || !(t.world i).agrees (if t.nf < t.nf then t.fact t.nf else f))) = _
  rw [if_neg (Nat.lt_irrefl _), anyB_congr (q := fun j => !(t.world i).agrees (t.fact j)) fun j hj => by rw [if_pos hj]]
  simp
theorem leftTo_add (t : Qt) (f : Fact) : ∀ n, (t.add f).leftTo n = (t.leftTo n).filter fun a => (t.world a.toNat).agrees f
  | 0 => rfl
  | n + 1 => by
    have ih := leftTo_add t f n
    unfold Qt.leftTo
    rw [leftB_add, ih]
    cases t.leftB n
    · simp
    · cases h : (t.world n).agrees f <;> simp [h]
theorem leftL_add (t : Qt) (f : Fact) : (t.add f).leftL = t.leftL.filter fun a => (t.world a.toNat).agrees f := leftTo_add t f t.nw
/-- what a test has shown, as a fact -/
def shownF (x : Tp) (f : Int) : Fact := ⟨x.1, 1, x.2, f, f⟩
theorem agrees_shown (t : Qt) (x : Tp) (f : Int) (a : Int) : (t.world a.toNat).agrees (shownF x f) = (t.F a x == f) := by
  unfold Wd.agrees shownF Qt.F
  simp only [Int.toNat_natCast, Int.mul_one]
  unfold inR
  refine Bool.eq_iff_iff.2 ?_
  simp only [Bool.and_eq_true, decide_eq_true_eq, beq_iff_eq]
  omega
theorem leftL_shown (t : Qt) (x : Tp) (f : Int) : (t.add (shownF x f)).leftL = t.shown x t.leftL f := by
  rw [leftL_add]
  unfold Qt.shown
  congr 1
  funext a
  exact agrees_shown t x f a
/-! ### One world more -/
/-! ### Another order -/
/-! ### Fewer worlds: spans, and what is known -/
end Go.Proofs.YthnojgdckkdcgaaGreatDoor

namespace Go.Proofs.YthnojgdckkdcgaaGreatDoor
open Go.RowKit Go.Sort
/-! ### Tests in order -/
def lexLt (x y : Tp) : Prop := x.1 < y.1 ∨ (x.1 = y.1 ∧ x.2 < y.2)
theorem range_pair (n : Nat) : (List.range n).Pairwise (· < ·) := by
  induction n with
  | zero => simp
  | succ n ih =>
    rw [List.range_succ, List.pairwise_append]
    exact ⟨ih, by simp, fun a ha b hb => by simp at ha hb; omega⟩
theorem testsL_pair (m : Nat) : (testsL m).Pairwise lexLt := by
  have key : ∀ k, ((List.range k).flatMap fun p => (List.range m).map fun q => (p, q)).Pairwise lexLt := fun k => by
    induction k with
    | zero => simp
    | succ k ih =>
      rw [List.range_succ, List.flatMap_append, List.pairwise_append]
      refine ⟨ih, ?_, fun a ha b hb => ?_⟩
      · simp only [List.flatMap_cons, List.flatMap_nil, List.append_nil]
        rw [List.pairwise_map]
        exact (range_pair m).imp fun h => .inr ⟨rfl, h⟩
      · simp only [List.flatMap_cons, List.flatMap_nil, List.append_nil, List.mem_map] at hb
        obtain ⟨q, _, rfl⟩ := hb
        obtain ⟨p, hp, ha⟩ := List.mem_flatMap.1 ha
        obtain ⟨q', _, rfl⟩ := List.mem_map.1 ha
        exact .inl (by simpa using hp)
  exact key m
theorem tests_pair (t : Qt) : t.tests.Pairwise lexLt := testsL_pair _
/-- tests of a town, in order -/
theorem sub_tests {t : Qt} {l : List Tp} (h : List.Sublist l t.tests) : (∀ x, x ∈ l → x ∈ t.tests) ∧ l.length ≤ t.wells.toNat * t.wells.toNat ∧ l.Pairwise lexLt :=
  ⟨fun x hx => h.subset hx, by have := h.length_le; unfold Qt.tests at this; rw [testsL_len] at this; exact this, (tests_pair t).sublist h⟩
/-! ### The fewest tests -/
theorem fewest_sub (t : Qt) (L : List Int) : List.Sublist (t.fewest L) t.tests := (fewest_spec t.tests (fun l => t.allApart l L) (allApart_tests t L)).1
theorem fewest_all (t : Qt) (L : List Int) : t.allApart (t.fewest L) L = true := (fewest_spec t.tests (fun l => t.allApart l L) (allApart_tests t L)).2.1
/-! ### The next test -/
/-! ### The tests that decide -/
/-- with what some tests show in a world, as facts -/
def Qt.addAll (t : Qt) (a : Int) (l : List Tp) : Qt := l.foldl (fun s x => s.add (shownF x (t.F a x))) t
theorem addAll_same (t : Qt) (a : Int) : ∀ (l : List Tp) (s : Qt), (l.foldl (fun s x => s.add (shownF x (t.F a x))) s).wells = s.wells ∧ (l.foldl (fun s x => s.add (shownF x (t.F a x))) s).world = s.world ∧ (l.foldl (fun s x => s.add (shownF x (t.F a x))) s).nw = s.nw ∧ (l.foldl (fun s x => s.add (shownF x (t.F a x))) s).nf = s.nf + l.length
  | [], s => ⟨rfl, rfl, rfl, rfl⟩
  | x :: l, s => by
    obtain ⟨h1, h2, h3, h4⟩ := addAll_same t a l (s.add (shownF x (t.F a x)))
    exact ⟨h1, h2, h3, by
      simp only [List.foldl_cons, List.length_cons]
      rw [h4]
      show s.nf + 1 + l.length = _
      omega⟩
theorem F_same {t t' : Qt} (h : t.world = t'.world) (a : Int) (x : Tp) : t.F a x = t'.F a x := by unfold Qt.F; rw [h]
theorem addAll_left (t : Qt) (a : Int) : ∀ (l : List Tp) (s : Qt), s.world = t.world → (l.foldl (fun s x => s.add (shownF x (t.F a x))) s).leftL = s.leftL.filter fun b => l.all fun x => t.F b x == t.F a x
  | [], s, _ => by
    show s.leftL = s.leftL.filter fun b => [].all fun x => t.F b x == t.F a x
    exact (List.filter_eq_self.2 fun _ _ => rfl).symm
  | x :: l, s, h => by
    rw [List.foldl_cons, addAll_left t a l (s.add (shownF x (t.F a x))) h, leftL_shown]
    unfold Qt.shown
    rw [List.filter_filter]
    congr 1
    funext b
    rw [F_same h, List.all_cons, Bool.and_comm]
end Go.Proofs.YthnojgdckkdcgaaGreatDoor

namespace Go.Proofs.YthnojgdckkdcgaaGreatDoor
open Go.RowKit Go.Sort
theorem shownAs5_any (p q : Nat) (f : Int) (w : World) :
    Calls Tryz.prog 47 #[.agg #[.int .i64 p, .int .i64 q], .int .i64 f] w fun e w' => e = .returned (.agg #[.int .i64 p, .int .i64 1, .int .i64 q, .int .i64 f, .int .i64 f]) ∧ Below w.heap.size w w' := by
  go_enter Tryz.func47, Tryz.ntmps47
  go_wp2_with fail
  refine bodyPost_ret (v := .agg #[.int .i64 p, .int .i64 1, .int .i64 q, .int .i64 f, .int .i64 f]) (by simp [results, Tryz.results47, go_sem, *]) rfl ⟨rfl, ?_⟩
  exact bAlloc (bAlloc (Below.refl _ _) _) _
end Go.Proofs.YthnojgdckkdcgaaGreatDoor

namespace Go.Proofs.YthnojgdckkdcgaaGreatDoor
open Go.RowKit Go.Sort
set_option maxHeartbeats 4000000 in
set_option maxRecDepth 100000 in
theorem hasWellP_any (Aw Af Ao Ap As : Option Addr) (cw cf co cp cs : Nat) (t : Pt) (n : Int) (w : World) :
    Calls Tryz.prog 104 #[.agg #[.int .i64 t.q.wells, .slice Aw t.q.nw cw, .slice Af t.q.nf cf, .slice Ao t.no co, .slice Ap t.np cp, .slice As t.ns cs, .int .i64 t.far, .int .i64 t.harm, .int .i64 t.many], .int .i64 n] w fun e w' => e = .returned (.bool (t.oldB n)) ∧ Below w.heap.size w w' := by
  obtain ⟨m, hm⟩ : ∃ m, IntKind.i64.wrap (t.q.wells - 1) = m := ⟨_, rfl⟩
  have HN := Lib.hid (show inR n 0 m = t.oldB n by unfold Pt.oldB Qt.wellB; rw [hm])
  have HD0 := Lib.hid (Below.refl w.heap.size w)
  go_enter Tryz.func104, Tryz.ntmps104
  go_wp2_with fail
  refine (withinP_b _ _ _ _ _ HN.out).mono ?_
  rintro e w1 ⟨rfl, hb⟩
  have hB1 : Below w.heap.size w w1 := bTrans (bAlloc (Below.refl _ _) (.cells #[.int .i64 t.q.wells, .slice Aw t.q.nw cw, .slice Af t.q.nf cf, .slice Ao t.no co, .slice Ap t.np cp, .slice As t.ns cs, .int .i64 t.far, .int .i64 t.harm, .int .i64 t.many] 62)) hb
  have HD1 := Lib.hid (bTrans HD0.out hB1)
  have T1 := Lib.hid (show TBox w1 w.heap.size 62 #[.int .i64 t.q.wells, .slice Aw t.q.nw cw, .slice Af t.q.nf cf, .slice Ao t.no co, .slice Ap t.np cp, .slice As t.ns cs, .int .i64 t.far, .int .i64 t.harm, .int .i64 t.many] from by have := ((TBox.new w #[.int .i64 t.q.wells, .slice Aw t.q.nw cw, .slice Af t.q.nf cf, .slice Ao t.no co, .slice Ap t.np cp, .slice As t.ns cs, .int .i64 t.far, .int .i64 t.harm, .int .i64 t.many] 62).mono (Below.refl _ _)).mono hb; simpa using this)
  clear hb hB1 HD0
  obtain ⟨T_0, T_1, T_2, T_3, T_4, T_5, T_6, T_7, T_8, T_l⟩ := T1.out.c9
  go_wp2_with fail
  go_ret
  exact ⟨rfl, HD1.out⟩
end Go.Proofs.YthnojgdckkdcgaaGreatDoor

namespace Go.Proofs.YthnojgdckkdcgaaGreatDoor
open Go.RowKit Go.Sort
set_option maxHeartbeats 4000000 in
set_option maxRecDepth 100000 in
theorem forbidsOutP_any (Aw Af Ao Ap As : Option Addr) (cw cf co cp cs : Nat) (t : Pt) (n v : Int) (w : World) (hs : t.Small) (hT : PAt w Aw Af Ao Ap As t) (hB : TabAt w) :
    Calls Tryz.prog 49 #[.agg #[.int .i64 t.q.wells, .slice Aw t.q.nw cw, .slice Af t.q.nf cf, .slice Ao t.no co, .slice Ap t.np cp, .slice As t.ns cs, .int .i64 t.far, .int .i64 t.harm, .int .i64 t.many], .int .i64 n, .int .i64 v] w fun e w' => e = .returned (.tuple #[.int .i64 (t.forbidsOut n v).1, .int .i64 (t.forbidsOut n v).2]) ∧ Below w.heap.size w w' := by
  obtain ⟨b1, h1⟩ : ∃ b, t.hasB n = b := ⟨_, rfl⟩
  obtain ⟨b2, h2⟩ : ∃ b, t.oldB v = b := ⟨_, rfl⟩
  obtain ⟨bb, hbb⟩ : ∃ bb, (b1 && b2) = bb := ⟨_, rfl⟩
  obtain ⟨er, her⟩ : ∃ v, t.knowErr bb = v := ⟨_, rfl⟩
  have HC1 := Lib.hid (fun w => h1 ▸ hasP_any Aw Af Ao Ap As cw cf co cp cs t n w hs.ns : ∀ w : World, Calls Tryz.prog 80 #[.agg #[.int .i64 t.q.wells, .slice Aw t.q.nw cw, .slice Af t.q.nf cf, .slice Ao t.no co, .slice Ap t.np cp, .slice As t.ns cs, .int .i64 t.far, .int .i64 t.harm, .int .i64 t.many], .int .i64 n] w fun e w' => e = .returned (.bool b1) ∧ Below w.heap.size w w')
  have HC2 := Lib.hid (fun w => h2 ▸ hasWellP_any Aw Af Ao Ap As cw cf co cp cs t v w : ∀ w : World, Calls Tryz.prog 104 #[.agg #[.int .i64 t.q.wells, .slice Aw t.q.nw cw, .slice Af t.q.nf cf, .slice Ao t.no co, .slice Ap t.np cp, .slice As t.ns cs, .int .i64 t.far, .int .i64 t.harm, .int .i64 t.many], .int .i64 v] w fun e w' => e = .returned (.bool b2) ∧ Below w.heap.size w w')
  have HE := Lib.hid (show t.forbidsOut n v = if er = 0 then (knownK (t.inN n.toNat v.toNat) t.q.leftL.length, 0) else (0, er) by unfold Pt.forbidsOut; rw [h1, h2, hbb, her])
  have HER := Lib.hid her
  have HG := Lib.hid hbb
  have HW1 := Lib.hid h1
  have HW2 := Lib.hid h2
  clear h1 h2 her hbb
  have HD0 := Lib.hid (Below.refl w.heap.size w)
  have HSM := Lib.hid hs
  have HT0 := Lib.hid hT
  have HTB0 := Lib.hid hB
  clear hs hT hB
  go_enter Tryz.func49, Tryz.ntmps49
  by_cases he : er = 0
  case neg =>
    have g0 : (er != 0) = true := by simp [he]
    have HNZ := Lib.hid he
    rw [HE.out, if_neg he]
    clear he
    rcases two_ways b1 b2 with rfl | ⟨rfl, rfl⟩ | ⟨rfl, rfl⟩
    all_goals
      obtain rfl := HG.out
      go_wp2_with fail
      have HCO := Lib.hid (fun (w' : World) (hb : Below (w.alloc (.cells #[.int .i64 t.q.wells, .slice Aw t.q.nw cw, .slice Af t.q.nf cf, .slice Ao t.no co, .slice Ap t.np cp, .slice As t.ns cs, .int .i64 t.far, .int .i64 t.harm, .int .i64 t.many] 62)).heap.size (w.alloc (.cells #[.int .i64 t.q.wells, .slice Aw t.q.nw cw, .slice Af t.q.nf cf, .slice Ao t.no co, .slice Ap t.np cp, .slice As t.ns cs, .int .i64 t.far, .int .i64 t.harm, .int .i64 t.many] 62)) w') => ((openP_any Aw Af Ao Ap As cw cf co cp cs t _ w' HSM.out ((HT0.out.mono (bAlloc (Below.refl _ _) (.cells #[.int .i64 t.q.wells, .slice Aw t.q.nw cw, .slice Af t.q.nf cf, .slice Ao t.no co, .slice Ap t.np cp, .slice As t.ns cs, .int .i64 t.far, .int .i64 t.harm, .int .i64 t.many] 62))).mono hb) ((HTB0.out.mono (bAlloc (Below.refl _ _) (.cells #[.int .i64 t.q.wells, .slice Aw t.q.nw cw, .slice Af t.q.nf cf, .slice Ao t.no co, .slice Ap t.np cp, .slice As t.ns cs, .int .i64 t.far, .int .i64 t.harm, .int .i64 t.many] 62))).mono hb)).mono fun e w'' h => ⟨(HER.out ▸ h.1).lower hb.size, h.2⟩ : Calls Tryz.prog 82 #[.agg #[.int .i64 t.q.wells, .slice Aw t.q.nw cw, .slice Af t.q.nf cf, .slice Ao t.no co, .slice Ap t.np cp, .slice As t.ns cs, .int .i64 t.far, .int .i64 t.harm, .int .i64 t.many], .bool _] w' fun e w'' => StrOut w'' (w.alloc (.cells #[.int .i64 t.q.wells, .slice Aw t.q.nw cw, .slice Af t.q.nf cf, .slice Ao t.no co, .slice Ap t.np cp, .slice As t.ns cs, .int .i64 t.far, .int .i64 t.harm, .int .i64 t.many] 62)).heap.size Aw Af Ao Ap As cw cf co cp cs t er e ∧ Below w'.heap.size w' w''))
      refine wp_region_call 9 (fun v w2 => StrOut w2 (w.alloc (.cells #[.int .i64 t.q.wells, .slice Aw t.q.nw cw, .slice Af t.q.nf cf, .slice Ao t.no co, .slice Ap t.np cp, .slice As t.ns cs, .int .i64 t.far, .int .i64 t.harm, .int .i64 t.many] 62)).heap.size Aw Af Ao Ap As cw cf co cp cs t er (.returned v) ∧ Below (w.alloc (.cells #[.int .i64 t.q.wells, .slice Aw t.q.nw cw, .slice Af t.q.nf cf, .slice Ao t.no co, .slice Ap t.np cp, .slice As t.ns cs, .int .i64 t.far, .int .i64 t.harm, .int .i64 t.many] 62)).heap.size (w.alloc (.cells #[.int .i64 t.q.wells, .slice Aw t.q.nw cw, .slice Af t.q.nf cf, .slice Ao t.no co, .slice Ap t.np cp, .slice As t.ns cs, .int .i64 t.far, .int .i64 t.harm, .int .i64 t.many] 62)) w2) (by kernel_rfl) (by decide +kernel) rfl ?_
      apply Exists.intro
      refine ⟨fun K hK => ?_, ?_, fun w1 hb1 K Q' hK => ?_, ?_⟩
      · skip
        repeat (first | (refine wpCalm_skip rfl ?_) | (refine wpCalm_step rfl (fun K hK => ?_); go_simp; (first | (refine hK _ ?_; clear hK K) | (apply Exists.intro; refine ⟨fun _ => ?_, hK _ ?_⟩; ((first | (go_at_call 80; with_reducible exact newer_of (HC1.out _)) | (go_at_call 104; with_reducible exact newer_of (HC2.out _)))); clear hK K))))
        refine wpCalm_nil ?_
        exact hK
      · rfl
      · go_simp
        refine (HCO.out w1 hb1).mono ?_
        rintro e w2 ⟨ho, hb2⟩
        obtain ⟨v, rfl⟩ := StrOut.ret ho
        exact hK v w2 ⟨ho, bTrans hb1 hb2⟩
      clear HCO
      rintro v w2 ⟨ho, hb2⟩
      obtain rfl := Ending.returned.inj (ho.1 HNZ.out)
      clear ho
      apply Exists.intro
      refine ⟨fun K hK => ?_, fun w1 hb3 => ?_⟩
      · skip
        repeat (first | (refine wpCalm_skip rfl ?_) | (refine wpCalm_step rfl (fun K hK => ?_); go_simp; (first | (refine hK _ ?_; clear hK K) | (apply Exists.intro; refine ⟨fun _ => ?_, hK _ ?_⟩; (fail); clear hK K))))
        refine wpCalm_nil ?_
        exact hK
      have hb := bTrans hb2 hb3
      clear hb2 hb3
      have hB1 : Below w.heap.size w w1 := bTrans (bAlloc (Below.refl _ _) (.cells #[.int .i64 t.q.wells, .slice Aw t.q.nw cw, .slice Af t.q.nf cf, .slice Ao t.no co, .slice Ap t.np cp, .slice As t.ns cs, .int .i64 t.far, .int .i64 t.harm, .int .i64 t.many] 62)) hb
      have HD1 := Lib.hid (bTrans HD0.out hB1)
      have HT1 := Lib.hid (HT0.out.mono hB1)
      have HTB1 := Lib.hid (HTB0.out.mono hB1)
      have T1 := Lib.hid (show TBox w1 w.heap.size 62 #[.int .i64 t.q.wells, .slice Aw t.q.nw cw, .slice Af t.q.nf cf, .slice Ao t.no co, .slice Ap t.np cp, .slice As t.ns cs, .int .i64 t.far, .int .i64 t.harm, .int .i64 t.many] from by have := ((TBox.new w #[.int .i64 t.q.wells, .slice Aw t.q.nw cw, .slice Af t.q.nf cf, .slice Ao t.no co, .slice Ap t.np cp, .slice As t.ns cs, .int .i64 t.far, .int .i64 t.harm, .int .i64 t.many] 62).mono (Below.refl _ _)).mono hb; simpa using this)
      clear hb hB1 HD0 HT0 HTB0
      obtain ⟨T_0, T_1, T_2, T_3, T_4, T_5, T_6, T_7, T_8, T_l⟩ := T1.out.c9
      go_wp2_with fail
      go_ret2
      exact ⟨rfl, HD1.out⟩
  subst he
  obtain ⟨ok, rfl, hne⟩ := Pt.knowErr_zero HER.out
  have HOK := Lib.hid ok
  have hg := HG.out
  simp only [Bool.and_eq_true] at hg
  obtain ⟨rfl, rfl⟩ := hg
  have hn := hasB_iff.1 HW1.out
  have hv := inR_iff.1 ((wellB_ok ok.q v).symm.trans HW2.out)
  obtain ⟨i, rfl⟩ : ∃ i : Nat, n = (i : Int) := ⟨n.toNat, by omega⟩
  obtain ⟨j, rfl⟩ : ∃ j : Nat, v = (j : Int) := ⟨v.toNat, by omega⟩
  have HI := Lib.hid (show i < t.ns by omega)
  have HJ := Lib.hid (show (j : Int) < t.q.wells by omega)
  rw [HE.out, if_pos rfl, Int.toNat_natCast, Int.toNat_natCast]
  obtain ⟨m, hm⟩ : ∃ m, t.inN i j = m := ⟨_, rfl⟩
  obtain ⟨L, hL⟩ : ∃ L, t.q.leftL.length = L := ⟨_, rfl⟩
  rw [hm, hL]
  have HM := Lib.hid hm
  have HLL := Lib.hid hL
  clear ok hn hv hne hm hL
  obtain ⟨kk, hkk⟩ : ∃ kk, knownK (m : Int) (L : Int) = kk := ⟨_, rfl⟩
  rw [hkk]
  have HKK := Lib.hid hkk
  clear hkk
  have hway : (m = 0) ∨ (m ≠ 0 ∧ m = L) ∨ (m ≠ 0 ∧ m ≠ L) := by omega
  rcases hway with hw | ⟨hw, hw2⟩ | ⟨hw, hw2⟩
  · skip
    subst hw
    have HR := Lib.hid (show (2 : Int) = kk by rw [← HKK.out]; rfl)
    go_wp2_with fail
    have HCO := Lib.hid (fun (w' : World) (hb : Below (w.alloc (.cells #[.int .i64 t.q.wells, .slice Aw t.q.nw cw, .slice Af t.q.nf cf, .slice Ao t.no co, .slice Ap t.np cp, .slice As t.ns cs, .int .i64 t.far, .int .i64 t.harm, .int .i64 t.many] 62)).heap.size (w.alloc (.cells #[.int .i64 t.q.wells, .slice Aw t.q.nw cw, .slice Af t.q.nf cf, .slice Ao t.no co, .slice Ap t.np cp, .slice As t.ns cs, .int .i64 t.far, .int .i64 t.harm, .int .i64 t.many] 62)) w') => ((openP_any Aw Af Ao Ap As cw cf co cp cs t true w' HSM.out ((HT0.out.mono (bAlloc (Below.refl _ _) (.cells #[.int .i64 t.q.wells, .slice Aw t.q.nw cw, .slice Af t.q.nf cf, .slice Ao t.no co, .slice Ap t.np cp, .slice As t.ns cs, .int .i64 t.far, .int .i64 t.harm, .int .i64 t.many] 62))).mono hb) ((HTB0.out.mono (bAlloc (Below.refl _ _) (.cells #[.int .i64 t.q.wells, .slice Aw t.q.nw cw, .slice Af t.q.nf cf, .slice Ao t.no co, .slice Ap t.np cp, .slice As t.ns cs, .int .i64 t.far, .int .i64 t.harm, .int .i64 t.many] 62))).mono hb)).mono fun e w'' h => ⟨(HER.out ▸ h.1).lower hb.size, h.2⟩ : Calls Tryz.prog 82 #[.agg #[.int .i64 t.q.wells, .slice Aw t.q.nw cw, .slice Af t.q.nf cf, .slice Ao t.no co, .slice Ap t.np cp, .slice As t.ns cs, .int .i64 t.far, .int .i64 t.harm, .int .i64 t.many], .bool true] w' fun e w'' => StrOut w'' (w.alloc (.cells #[.int .i64 t.q.wells, .slice Aw t.q.nw cw, .slice Af t.q.nf cf, .slice Ao t.no co, .slice Ap t.np cp, .slice As t.ns cs, .int .i64 t.far, .int .i64 t.harm, .int .i64 t.many] 62)).heap.size Aw Af Ao Ap As cw cf co cp cs t 0 e ∧ Below w'.heap.size w' w''))
    refine wp_region_call 9 (fun v w2 => StrOut w2 (w.alloc (.cells #[.int .i64 t.q.wells, .slice Aw t.q.nw cw, .slice Af t.q.nf cf, .slice Ao t.no co, .slice Ap t.np cp, .slice As t.ns cs, .int .i64 t.far, .int .i64 t.harm, .int .i64 t.many] 62)).heap.size Aw Af Ao Ap As cw cf co cp cs t 0 (.returned v) ∧ Below (w.alloc (.cells #[.int .i64 t.q.wells, .slice Aw t.q.nw cw, .slice Af t.q.nf cf, .slice Ao t.no co, .slice Ap t.np cp, .slice As t.ns cs, .int .i64 t.far, .int .i64 t.harm, .int .i64 t.many] 62)).heap.size (w.alloc (.cells #[.int .i64 t.q.wells, .slice Aw t.q.nw cw, .slice Af t.q.nf cf, .slice Ao t.no co, .slice Ap t.np cp, .slice As t.ns cs, .int .i64 t.far, .int .i64 t.harm, .int .i64 t.many] 62)) w2) (by kernel_rfl) (by decide +kernel) rfl ?_
    apply Exists.intro
    refine ⟨fun K hK => ?_, ?_, fun w1 hb1 K Q' hK => ?_, ?_⟩
    · skip
      repeat (first | (refine wpCalm_skip rfl ?_) | (refine wpCalm_step rfl (fun K hK => ?_); go_simp; (first | (refine hK _ ?_; clear hK K) | (apply Exists.intro; refine ⟨fun _ => ?_, hK _ ?_⟩; ((first | (go_at_call 80; with_reducible exact newer_of (HC1.out _)) | (go_at_call 104; with_reducible exact newer_of (HC2.out _)))); clear hK K))))
      refine wpCalm_nil ?_
      exact hK
    · rfl
    · go_simp
      refine (HCO.out w1 hb1).mono ?_
      rintro e w2 ⟨ho, hb2⟩
      obtain ⟨v, rfl⟩ := StrOut.ret ho
      exact hK v w2 ⟨ho, bTrans hb1 hb2⟩
    clear HCO
    rintro v w2 ⟨ho, hb2⟩
    obtain ⟨C, Al, cl, e1, hst, hC⟩ := ho.2 rfl
    obtain rfl := Ending.returned.inj e1
    clear ho e1
    apply Exists.intro
    refine ⟨fun K hK => ?_, fun w1 hb3 => ?_⟩
    · skip
      repeat (first | (refine wpCalm_skip rfl ?_) | (refine wpCalm_step rfl (fun K hK => ?_); go_simp; (first | (refine hK _ ?_; clear hK K) | (apply Exists.intro; refine ⟨fun _ => ?_, hK _ ?_⟩; (fail); clear hK K))))
      refine wpCalm_nil ?_
      exact hK
    have hst := hst.mono hb3
    have hb := bTrans hb2 hb3
    clear hb2 hb3
    have hB1 : Below w.heap.size w w1 := bTrans (bAlloc (Below.refl _ _) (.cells #[.int .i64 t.q.wells, .slice Aw t.q.nw cw, .slice Af t.q.nf cf, .slice Ao t.no co, .slice Ap t.np cp, .slice As t.ns cs, .int .i64 t.far, .int .i64 t.harm, .int .i64 t.many] 62)) hb
    have HD1 := Lib.hid (bTrans HD0.out hB1)
    have HT1 := Lib.hid (HT0.out.mono hB1)
    have HTB1 := Lib.hid (HTB0.out.mono hB1)
    have HST1 := Lib.hid (hst)
    have T1 := Lib.hid (show TBox w1 w.heap.size 62 #[.int .i64 t.q.wells, .slice Aw t.q.nw cw, .slice Af t.q.nf cf, .slice Ao t.no co, .slice Ap t.np cp, .slice As t.ns cs, .int .i64 t.far, .int .i64 t.harm, .int .i64 t.many] from by have := ((TBox.new w #[.int .i64 t.q.wells, .slice Aw t.q.nw cw, .slice Af t.q.nf cf, .slice Ao t.no co, .slice Ap t.np cp, .slice As t.ns cs, .int .i64 t.far, .int .i64 t.harm, .int .i64 t.many] 62).mono (Below.refl _ _)).mono hb; simpa using this)
    clear hb hB1 HD0 HT0 HTB0
    obtain ⟨T_0, T_1, T_2, T_3, T_4, T_5, T_6, T_7, T_8, T_l⟩ := T1.out.c9
    have HC := Lib.hid hC
    clear hst hC
    have hbx := HST1.out.box
    rw [HLL.out] at hbx
    obtain ⟨c0, c1, c2, c3, c4, c5, c6, c7, c8, c9, hCl⟩ := hbx.c10
    clear hbx
    go_wp2_with fail
    refine (inP_any C Aw Af Ao Ap As cw cf co cp cs t Al cl i j _ HST1.out HOK.out HI.out HJ.out).mono ?_
    rintro e w2 ⟨rfl, hb⟩
    rw [HM.out]
    have hB2 : Below w1.heap.size w1 w2 := bTrans (Below.refl _ _) hb
    have HD2 := Lib.hid (bTrans HD1.out hB2)
    have HT2 := Lib.hid (HT1.out.mono hB2)
    have HTB2 := Lib.hid (HTB1.out.mono hB2)
    have HST2 := Lib.hid (HST1.out.mono hB2)
    have T2 := Lib.hid (T1.out.mono hB2)
    clear hb hB2 HD1 HT1 HTB1 HST1 T1 T_0 T_1 T_2 T_3 T_4 T_5 T_6 T_7 T_8 T_l
    obtain ⟨T_0, T_1, T_2, T_3, T_4, T_5, T_6, T_7, T_8, T_l⟩ := T2.out.c9
    have hbx := HST2.out.box
    rw [HLL.out] at hbx
    clear c0 c1 c2 c3 c4 c5 c6 c7 c8 c9 hCl
    obtain ⟨c0, c1, c2, c3, c4, c5, c6, c7, c8, c9, hCl⟩ := hbx.c10
    clear hbx
    go_wp2_with fail
    go_ret2
    exact ⟨by rw [← HR.out]; rfl, HD2.out⟩
  · skip
    have e0 : ((m : Int) == 0) = false := by simp; exact hw
    have e1 : (m == 0) = false := by simp; exact hw
    have e2 : ((m : Int) == (L : Int)) = true := by simp [hw2]
    have e3 : (m == L) = true := by simp [hw2]
    have HR := Lib.hid (show (1 : Int) = kk by rw [← HKK.out]; unfold knownK; rw [if_neg (by omega), if_pos (by omega)])
    clear hw hw2
    go_wp2_with fail
    have HCO := Lib.hid (fun (w' : World) (hb : Below (w.alloc (.cells #[.int .i64 t.q.wells, .slice Aw t.q.nw cw, .slice Af t.q.nf cf, .slice Ao t.no co, .slice Ap t.np cp, .slice As t.ns cs, .int .i64 t.far, .int .i64 t.harm, .int .i64 t.many] 62)).heap.size (w.alloc (.cells #[.int .i64 t.q.wells, .slice Aw t.q.nw cw, .slice Af t.q.nf cf, .slice Ao t.no co, .slice Ap t.np cp, .slice As t.ns cs, .int .i64 t.far, .int .i64 t.harm, .int .i64 t.many] 62)) w') => ((openP_any Aw Af Ao Ap As cw cf co cp cs t true w' HSM.out ((HT0.out.mono (bAlloc (Below.refl _ _) (.cells #[.int .i64 t.q.wells, .slice Aw t.q.nw cw, .slice Af t.q.nf cf, .slice Ao t.no co, .slice Ap t.np cp, .slice As t.ns cs, .int .i64 t.far, .int .i64 t.harm, .int .i64 t.many] 62))).mono hb) ((HTB0.out.mono (bAlloc (Below.refl _ _) (.cells #[.int .i64 t.q.wells, .slice Aw t.q.nw cw, .slice Af t.q.nf cf, .slice Ao t.no co, .slice Ap t.np cp, .slice As t.ns cs, .int .i64 t.far, .int .i64 t.harm, .int .i64 t.many] 62))).mono hb)).mono fun e w'' h => ⟨(HER.out ▸ h.1).lower hb.size, h.2⟩ : Calls Tryz.prog 82 #[.agg #[.int .i64 t.q.wells, .slice Aw t.q.nw cw, .slice Af t.q.nf cf, .slice Ao t.no co, .slice Ap t.np cp, .slice As t.ns cs, .int .i64 t.far, .int .i64 t.harm, .int .i64 t.many], .bool true] w' fun e w'' => StrOut w'' (w.alloc (.cells #[.int .i64 t.q.wells, .slice Aw t.q.nw cw, .slice Af t.q.nf cf, .slice Ao t.no co, .slice Ap t.np cp, .slice As t.ns cs, .int .i64 t.far, .int .i64 t.harm, .int .i64 t.many] 62)).heap.size Aw Af Ao Ap As cw cf co cp cs t 0 e ∧ Below w'.heap.size w' w''))
    refine wp_region_call 9 (fun v w2 => StrOut w2 (w.alloc (.cells #[.int .i64 t.q.wells, .slice Aw t.q.nw cw, .slice Af t.q.nf cf, .slice Ao t.no co, .slice Ap t.np cp, .slice As t.ns cs, .int .i64 t.far, .int .i64 t.harm, .int .i64 t.many] 62)).heap.size Aw Af Ao Ap As cw cf co cp cs t 0 (.returned v) ∧ Below (w.alloc (.cells #[.int .i64 t.q.wells, .slice Aw t.q.nw cw, .slice Af t.q.nf cf, .slice Ao t.no co, .slice Ap t.np cp, .slice As t.ns cs, .int .i64 t.far, .int .i64 t.harm, .int .i64 t.many] 62)).heap.size (w.alloc (.cells #[.int .i64 t.q.wells, .slice Aw t.q.nw cw, .slice Af t.q.nf cf, .slice Ao t.no co, .slice Ap t.np cp, .slice As t.ns cs, .int .i64 t.far, .int .i64 t.harm, .int .i64 t.many] 62)) w2) (by kernel_rfl) (by decide +kernel) rfl ?_
    apply Exists.intro
    refine ⟨fun K hK => ?_, ?_, fun w1 hb1 K Q' hK => ?_, ?_⟩
    · skip
      repeat (first | (refine wpCalm_skip rfl ?_) | (refine wpCalm_step rfl (fun K hK => ?_); go_simp; (first | (refine hK _ ?_; clear hK K) | (apply Exists.intro; refine ⟨fun _ => ?_, hK _ ?_⟩; ((first | (go_at_call 80; with_reducible exact newer_of (HC1.out _)) | (go_at_call 104; with_reducible exact newer_of (HC2.out _)))); clear hK K))))
      refine wpCalm_nil ?_
      exact hK
    · rfl
    · go_simp
      refine (HCO.out w1 hb1).mono ?_
      rintro e w2 ⟨ho, hb2⟩
      obtain ⟨v, rfl⟩ := StrOut.ret ho
      exact hK v w2 ⟨ho, bTrans hb1 hb2⟩
    clear HCO
    rintro v w2 ⟨ho, hb2⟩
    obtain ⟨C, Al, cl, e1, hst, hC⟩ := ho.2 rfl
    obtain rfl := Ending.returned.inj e1
    clear ho e1
    apply Exists.intro
    refine ⟨fun K hK => ?_, fun w1 hb3 => ?_⟩
    · skip
      repeat (first | (refine wpCalm_skip rfl ?_) | (refine wpCalm_step rfl (fun K hK => ?_); go_simp; (first | (refine hK _ ?_; clear hK K) | (apply Exists.intro; refine ⟨fun _ => ?_, hK _ ?_⟩; (fail); clear hK K))))
      refine wpCalm_nil ?_
      exact hK
    have hst := hst.mono hb3
    have hb := bTrans hb2 hb3
    clear hb2 hb3
    have hB1 : Below w.heap.size w w1 := bTrans (bAlloc (Below.refl _ _) (.cells #[.int .i64 t.q.wells, .slice Aw t.q.nw cw, .slice Af t.q.nf cf, .slice Ao t.no co, .slice Ap t.np cp, .slice As t.ns cs, .int .i64 t.far, .int .i64 t.harm, .int .i64 t.many] 62)) hb
    have HD1 := Lib.hid (bTrans HD0.out hB1)
    have HT1 := Lib.hid (HT0.out.mono hB1)
    have HTB1 := Lib.hid (HTB0.out.mono hB1)
    have HST1 := Lib.hid (hst)
    have T1 := Lib.hid (show TBox w1 w.heap.size 62 #[.int .i64 t.q.wells, .slice Aw t.q.nw cw, .slice Af t.q.nf cf, .slice Ao t.no co, .slice Ap t.np cp, .slice As t.ns cs, .int .i64 t.far, .int .i64 t.harm, .int .i64 t.many] from by have := ((TBox.new w #[.int .i64 t.q.wells, .slice Aw t.q.nw cw, .slice Af t.q.nf cf, .slice Ao t.no co, .slice Ap t.np cp, .slice As t.ns cs, .int .i64 t.far, .int .i64 t.harm, .int .i64 t.many] 62).mono (Below.refl _ _)).mono hb; simpa using this)
    clear hb hB1 HD0 HT0 HTB0
    obtain ⟨T_0, T_1, T_2, T_3, T_4, T_5, T_6, T_7, T_8, T_l⟩ := T1.out.c9
    have HC := Lib.hid hC
    clear hst hC
    have hbx := HST1.out.box
    rw [HLL.out] at hbx
    obtain ⟨c0, c1, c2, c3, c4, c5, c6, c7, c8, c9, hCl⟩ := hbx.c10
    clear hbx
    go_wp2_with fail
    refine (inP_any C Aw Af Ao Ap As cw cf co cp cs t Al cl i j _ HST1.out HOK.out HI.out HJ.out).mono ?_
    rintro e w2 ⟨rfl, hb⟩
    rw [HM.out]
    have hB2 : Below w1.heap.size w1 w2 := bTrans (Below.refl _ _) hb
    have HD2 := Lib.hid (bTrans HD1.out hB2)
    have HT2 := Lib.hid (HT1.out.mono hB2)
    have HTB2 := Lib.hid (HTB1.out.mono hB2)
    have HST2 := Lib.hid (HST1.out.mono hB2)
    have T2 := Lib.hid (T1.out.mono hB2)
    clear hb hB2 HD1 HT1 HTB1 HST1 T1 T_0 T_1 T_2 T_3 T_4 T_5 T_6 T_7 T_8 T_l
    obtain ⟨T_0, T_1, T_2, T_3, T_4, T_5, T_6, T_7, T_8, T_l⟩ := T2.out.c9
    have hbx := HST2.out.box
    rw [HLL.out] at hbx
    clear c0 c1 c2 c3 c4 c5 c6 c7 c8 c9 hCl
    obtain ⟨c0, c1, c2, c3, c4, c5, c6, c7, c8, c9, hCl⟩ := hbx.c10
    clear hbx
    go_wp2_with fail
    go_ret2
    exact ⟨by rw [← HR.out]; rfl, HD2.out⟩
  · skip
    have e0 : ((m : Int) == 0) = false := by simp; exact hw
    have e1 : (m == 0) = false := by simp; exact hw
    have e2 : ((m : Int) == (L : Int)) = false := by simp; omega
    have e3 : (m == L) = false := by simp; exact hw2
    have HR := Lib.hid (show (3 : Int) = kk by rw [← HKK.out]; unfold knownK; rw [if_neg (by omega), if_neg (by omega)])
    clear hw hw2
    go_wp2_with fail
    have HCO := Lib.hid (fun (w' : World) (hb : Below (w.alloc (.cells #[.int .i64 t.q.wells, .slice Aw t.q.nw cw, .slice Af t.q.nf cf, .slice Ao t.no co, .slice Ap t.np cp, .slice As t.ns cs, .int .i64 t.far, .int .i64 t.harm, .int .i64 t.many] 62)).heap.size (w.alloc (.cells #[.int .i64 t.q.wells, .slice Aw t.q.nw cw, .slice Af t.q.nf cf, .slice Ao t.no co, .slice Ap t.np cp, .slice As t.ns cs, .int .i64 t.far, .int .i64 t.harm, .int .i64 t.many] 62)) w') => ((openP_any Aw Af Ao Ap As cw cf co cp cs t true w' HSM.out ((HT0.out.mono (bAlloc (Below.refl _ _) (.cells #[.int .i64 t.q.wells, .slice Aw t.q.nw cw, .slice Af t.q.nf cf, .slice Ao t.no co, .slice Ap t.np cp, .slice As t.ns cs, .int .i64 t.far, .int .i64 t.harm, .int .i64 t.many] 62))).mono hb) ((HTB0.out.mono (bAlloc (Below.refl _ _) (.cells #[.int .i64 t.q.wells, .slice Aw t.q.nw cw, .slice Af t.q.nf cf, .slice Ao t.no co, .slice Ap t.np cp, .slice As t.ns cs, .int .i64 t.far, .int .i64 t.harm, .int .i64 t.many] 62))).mono hb)).mono fun e w'' h => ⟨(HER.out ▸ h.1).lower hb.size, h.2⟩ : Calls Tryz.prog 82 #[.agg #[.int .i64 t.q.wells, .slice Aw t.q.nw cw, .slice Af t.q.nf cf, .slice Ao t.no co, .slice Ap t.np cp, .slice As t.ns cs, .int .i64 t.far, .int .i64 t.harm, .int .i64 t.many], .bool true] w' fun e w'' => StrOut w'' (w.alloc (.cells #[.int .i64 t.q.wells, .slice Aw t.q.nw cw, .slice Af t.q.nf cf, .slice Ao t.no co, .slice Ap t.np cp, .slice As t.ns cs, .int .i64 t.far, .int .i64 t.harm, .int .i64 t.many] 62)).heap.size Aw Af Ao Ap As cw cf co cp cs t 0 e ∧ Below w'.heap.size w' w''))
    refine wp_region_call 9 (fun v w2 => StrOut w2 (w.alloc (.cells #[.int .i64 t.q.wells, .slice Aw t.q.nw cw, .slice Af t.q.nf cf, .slice Ao t.no co, .slice Ap t.np cp, .slice As t.ns cs, .int .i64 t.far, .int .i64 t.harm, .int .i64 t.many] 62)).heap.size Aw Af Ao Ap As cw cf co cp cs t 0 (.returned v) ∧ Below (w.alloc (.cells #[.int .i64 t.q.wells, .slice Aw t.q.nw cw, .slice Af t.q.nf cf, .slice Ao t.no co, .slice Ap t.np cp, .slice As t.ns cs, .int .i64 t.far, .int .i64 t.harm, .int .i64 t.many] 62)).heap.size (w.alloc (.cells #[.int .i64 t.q.wells, .slice Aw t.q.nw cw, .slice Af t.q.nf cf, .slice Ao t.no co, .slice Ap t.np cp, .slice As t.ns cs, .int .i64 t.far, .int .i64 t.harm, .int .i64 t.many] 62)) w2) (by kernel_rfl) (by decide +kernel) rfl ?_
    apply Exists.intro
    refine ⟨fun K hK => ?_, ?_, fun w1 hb1 K Q' hK => ?_, ?_⟩
    · skip
      repeat (first | (refine wpCalm_skip rfl ?_) | (refine wpCalm_step rfl (fun K hK => ?_); go_simp; (first | (refine hK _ ?_; clear hK K) | (apply Exists.intro; refine ⟨fun _ => ?_, hK _ ?_⟩; ((first | (go_at_call 80; with_reducible exact newer_of (HC1.out _)) | (go_at_call 104; with_reducible exact newer_of (HC2.out _)))); clear hK K))))
      refine wpCalm_nil ?_
      exact hK
    · rfl
    · go_simp
      refine (HCO.out w1 hb1).mono ?_
      rintro e w2 ⟨ho, hb2⟩
      obtain ⟨v, rfl⟩ := StrOut.ret ho
      exact hK v w2 ⟨ho, bTrans hb1 hb2⟩
    clear HCO
    rintro v w2 ⟨ho, hb2⟩
    obtain ⟨C, Al, cl, e1, hst, hC⟩ := ho.2 rfl
    obtain rfl := Ending.returned.inj e1
    clear ho e1
    apply Exists.intro
    refine ⟨fun K hK => ?_, fun w1 hb3 => ?_⟩
    · skip
      repeat (first | (refine wpCalm_skip rfl ?_) | (refine wpCalm_step rfl (fun K hK => ?_); go_simp; (first | (refine hK _ ?_; clear hK K) | (apply Exists.intro; refine ⟨fun _ => ?_, hK _ ?_⟩; (fail); clear hK K))))
      refine wpCalm_nil ?_
      exact hK
    have hst := hst.mono hb3
    have hb := bTrans hb2 hb3
    clear hb2 hb3
    have hB1 : Below w.heap.size w w1 := bTrans (bAlloc (Below.refl _ _) (.cells #[.int .i64 t.q.wells, .slice Aw t.q.nw cw, .slice Af t.q.nf cf, .slice Ao t.no co, .slice Ap t.np cp, .slice As t.ns cs, .int .i64 t.far, .int .i64 t.harm, .int .i64 t.many] 62)) hb
    have HD1 := Lib.hid (bTrans HD0.out hB1)
    have HT1 := Lib.hid (HT0.out.mono hB1)
    have HTB1 := Lib.hid (HTB0.out.mono hB1)
    have HST1 := Lib.hid (hst)
    have T1 := Lib.hid (show TBox w1 w.heap.size 62 #[.int .i64 t.q.wells, .slice Aw t.q.nw cw, .slice Af t.q.nf cf, .slice Ao t.no co, .slice Ap t.np cp, .slice As t.ns cs, .int .i64 t.far, .int .i64 t.harm, .int .i64 t.many] from by have := ((TBox.new w #[.int .i64 t.q.wells, .slice Aw t.q.nw cw, .slice Af t.q.nf cf, .slice Ao t.no co, .slice Ap t.np cp, .slice As t.ns cs, .int .i64 t.far, .int .i64 t.harm, .int .i64 t.many] 62).mono (Below.refl _ _)).mono hb; simpa using this)
    clear hb hB1 HD0 HT0 HTB0
    obtain ⟨T_0, T_1, T_2, T_3, T_4, T_5, T_6, T_7, T_8, T_l⟩ := T1.out.c9
    have HC := Lib.hid hC
    clear hst hC
    have hbx := HST1.out.box
    rw [HLL.out] at hbx
    obtain ⟨c0, c1, c2, c3, c4, c5, c6, c7, c8, c9, hCl⟩ := hbx.c10
    clear hbx
    go_wp2_with fail
    refine (inP_any C Aw Af Ao Ap As cw cf co cp cs t Al cl i j _ HST1.out HOK.out HI.out HJ.out).mono ?_
    rintro e w2 ⟨rfl, hb⟩
    rw [HM.out]
    have hB2 : Below w1.heap.size w1 w2 := bTrans (Below.refl _ _) hb
    have HD2 := Lib.hid (bTrans HD1.out hB2)
    have HT2 := Lib.hid (HT1.out.mono hB2)
    have HTB2 := Lib.hid (HTB1.out.mono hB2)
    have HST2 := Lib.hid (HST1.out.mono hB2)
    have T2 := Lib.hid (T1.out.mono hB2)
    clear hb hB2 HD1 HT1 HTB1 HST1 T1 T_0 T_1 T_2 T_3 T_4 T_5 T_6 T_7 T_8 T_l
    obtain ⟨T_0, T_1, T_2, T_3, T_4, T_5, T_6, T_7, T_8, T_l⟩ := T2.out.c9
    have hbx := HST2.out.box
    rw [HLL.out] at hbx
    clear c0 c1 c2 c3 c4 c5 c6 c7 c8 c9 hCl
    obtain ⟨c0, c1, c2, c3, c4, c5, c6, c7, c8, c9, hCl⟩ := hbx.c10
    clear hbx
    go_wp2_with fail
    go_ret2
    exact ⟨by rw [← HR.out]; rfl, HD2.out⟩
end Go.Proofs.YthnojgdckkdcgaaGreatDoor

namespace Go.Proofs.YthnojgdckkdcgaaGreatDoor
open Go.RowKit Go.Sort
theorem dist9_any (a b : Int) (w : World) (ha : 0 ≤ a ∧ a ≤ 99) (hb : 0 ≤ b ∧ b ≤ 99) : Calls Tryz.prog 106 #[.int .i64 a, .int .i64 b] w fun e w' => e = .returned (.int .i64 (dst a b)) ∧ Below w.heap.size w w' := by
  have h1 : IntKind.i64.wrap (a - b) = a - b := IntWalk.i64_in _ (by omega)
  have h2 : IntKind.i64.wrap (b - a) = b - a := IntWalk.i64_in _ (by omega)
  obtain ⟨u, hu⟩ : ∃ u, (if a - b < b - a then b - a else a - b) = u := ⟨_, rfl⟩
  have HU := Lib.hid (show dst a b = u by rw [← hu]; unfold dst; split <;> omega)
  clear ha hb
  go_enter Tryz.func106, Tryz.ntmps106
  go_wp2_with fail
  go_ret
  exact ⟨by rw [HU.out]; rfl, Below.refl _ _⟩
end Go.Proofs.YthnojgdckkdcgaaGreatDoor

namespace Go.Proofs.YthnojgdckkdcgaaGreatDoor
open Go.RowKit Go.Sort Go.Shelf
section
variable {F : Fence} {n : Nat} {P : Program}
theorem wpIn_scope_wide {Q : Exit → Act → World → Prop} {a : Act} {w : World} {c : Code} (h : c.wpIn Fence.wide n P (Exit.noGoto Q) a w) : (Code.scope c).wpIn Fence.wide n P Q a w := wpIn_wide.2 (wp_scope_straight (wpIn_wide.1 h))
end
end Go.Proofs.YthnojgdckkdcgaaGreatDoor

namespace Go.Proofs.YthnojgdckkdcgaaGreatDoor
open Go.RowKit Go.Sort Go.Shelf
attribute [local go_sem] Oper.semAt_some
noncomputable def encF (t : Pt) (x : Int) : Array Value := #[.int .i64 x, .int .i64 (t.cheap x.toNat).1]
theorem selTo_nil {p : Nat → Bool} : ∀ {n : Nat}, selTo p n = [] ↔ anyB p n = false
  | n => by
    rw [anyB_false]
    constructor
    · intro h i hi
      cases hp : p i
      · rfl
      · have : (i : Int) ∈ selTo p n := selTo_mem.2 ⟨i, hi, hp, rfl⟩
        rw [h] at this
        cases this
    · intro h
      cases hs : selTo p n with
      | nil => rfl
      | cons x l =>
        obtain ⟨i, hi, hp, _⟩ := selTo_mem.1 (show x ∈ selTo p n by rw [hs]; exact List.mem_cons_self ..)
        rw [h i hi] at hp
        cases hp
theorem whoAny_iff {t : Pt} {s : Nat} : t.whoAny s = false ↔ t.who s = [] := selTo_nil.symm
set_option maxHeartbeats 8000000 in
set_option maxRecDepth 100000 in
theorem free_seq (n C : Nat) (Aw Af Ao Ap As : Option Addr) (cw cf co cp cs : Nat) (t : Pt) (Al : Option Addr) (cl : Nat) (w0 w : World) (hn : 3 ≤ n) (hst : StreetAt w0 C Aw Af Ao Ap As cw cf co cp cs t Al cl) (hN : NoneAt w0) (hb0 : Below w0.heap.size w0 w) (ok : t.Ok) (hsm : t.Small) :
    SeqC Fence.wide n Tryz.prog 85 #[.pointer (some ⟨C, 0, none⟩)] #[] (encF t) (Below w0.heap.size) (· = t.frees) (· <+: t.frees) (fun pre x => pre ++ [x] <+: t.frees) w := by
  intro l J Jx W0 hW hJ hJx hY h0
  have HY := Lib.hid hY
  have HJJ := Lib.hid hJ
  have HJX := Lib.hid hJx
  have HST := Lib.hid hst
  have HNN := Lib.hid hN
  have HOK := Lib.hid ok
  have HSM := Lib.hid hsm
  have HB0 := Lib.hid (bTrans hb0 hW)
  have hns := ok.ns
  have hn1 : 1 ≤ n := by omega
  obtain ⟨c0, c1, c2, c3, c4, c5, c6, c7, c8, c9, hCl⟩ := (hst.mono HB0.out).box.c10
  have HW0 := Lib.hid (show w0.heap.size ≤ W0.heap.size from HB0.out.size)
  have leave : ∀ {G : List Int → World → Prop} {pre : List Int} (hG : OwnFrom W0.heap.size G) (tmps : Array Value) (ds : List Deferred) (W : World), Marks W0.heap.size W ds → G pre W → (G pre = G pre → ∀ X, G pre X → (∃ v, Ending.returned (.tuple #[]) = .returned v) ∧ ((∃ xs, xs = t.frees ∧ J xs X) ∨ (∃ pre, pre <+: t.frees ∧ Jx pre X))) → LeavesInM Fence.wide n Tryz.prog Tryz.f85 tmps (fun e W' => (∃ v, e = .returned v) ∧ ((∃ xs, xs = t.frees ∧ J xs W') ∨ (∃ pre, pre <+: t.frees ∧ Jx pre W'))) ds .returning W := by
    intro G pre hG tmps ds W hm hg hR
    exact leaves_marks (T := G pre) (fun X D hB hD h => hG.putObj (s := pre) _ h hB hD rfl) (fun X h => ⟨_, results_none rfl _ _ _, hR rfl X h⟩) ds W hm hg
  have HLV1 := Lib.hid (fun (tmps : Array Value) (ds : List Deferred) (W : World) (hm : Marks W0.heap.size W ds) (hg : J t.frees W) => leave (pre := t.frees) hJ tmps ds W hm hg (fun _ X h => ⟨⟨_, rfl⟩, .inl ⟨_, rfl, h⟩⟩))
  have HLV2 := Lib.hid (fun (pre : List Int) (hp : pre <+: t.frees) (tmps : Array Value) (ds : List Deferred) (W : World) (hm : Marks W0.heap.size W ds) (hg : Jx pre W) => leave (pre := pre) hJx tmps ds W hm hg (fun _ X h => ⟨⟨_, rfl⟩, .inr ⟨_, hp, h⟩⟩))
  clear leave hY hJ hJx hW hst hN ok hsm hb0
  refine callsIn_of_wp_marks Tryz.func85 rfl trivial ?_ rfl
  simp only [Tryz.ntmps85, List.size_toArray, List.length_cons, List.length_nil, Nat.reduceAdd, Nat.reduceSub, Array.replicate_succ, Array.replicate_zero, List.push_toArray, List.append_toArray, List.nil_append, List.cons_append]
  gi_wp2
  refine wpIn_scope_wide (wpIn_seq (wpIn_label ?_))
  gi_wp2
  clear c0 c1 c2 c3 c4 c5 c6 c7 c8 c9
  refine wpIn_loop_inv t.ns (fun i a W => ∃ u2 u3 u4 u5 u6 u7 u8 u9 u10 u11 u14 u15 u16 u17 u18 u19 u20 u21 u22 u23 u24 u25 u26 u27 u28 u29 u30 u31 u32 u33 ds, a = { tmps := #[.pointer (some ⟨C, 0, none⟩), .func (.yield l) #[] #[], u2, u3, u4, u5, u6, u7, u8, u9, u10, u11, .int .i64 t.ns, .int .i64 (i : Int), u14, u15, u16, u17, u18, u19, u20, u21, u22, u23, u24, u25, u26, u27, u28, u29, u30, u31, u32, u33], defers := ds } ∧ Marks W0.heap.size W ds ∧ J (selTo t.freeB i) W ∧ Below w0.heap.size w0 W ∧ W0.heap.size ≤ W.heap.size) ?h0 ?hr
  case h0 => exact ⟨_, _, _, _, _, _, _, _, _, _, _, _, _, _, _, _, _, _, _, _, _, _, _, _, _, _, _, _, _, _, _, rfl, trivial, h0, HB0.out, Nat.le_refl _⟩
  case hr =>
    rintro i a wr hi ⟨u2, u3, u4, u5, u6, u7, u8, u9, u10, u11, u14, u15, u16, u17, u18, u19, u20, u21, u22, u23, u24, u25, u26, u27, u28, u29, u30, u31, u32, u33, ds, rfl, hm, hj, hb, hz⟩ K hK
    have HK := Lib.hid hK
    have HM := Lib.hid hm
    have HJ := Lib.hid hj
    have HB := Lib.hid hb
    clear hm hj hb h0 hK
    by_cases hlt : i < t.ns
    · have i1 : (i : Int) < (t.ns : Int) := by omega
      have hi9 : i < 100 := by omega
      have HI := Lib.hid hlt
      have hwi : IntKind.i64.wrap ((i : Int) + 1) = ((i + 1 : Nat) : Int) := IntWalk.i64_in _ (by omega)
      gi_wp2
      refine ⟨trivial, (callsIn_wide.2 (priceP_any C Aw Af Ao Ap As cw cf co cp cs t Al cl i _ (HST.out.mono HB.out) HSM.out HI.out (HNN.out.mono HB.out))).mono ?_⟩
      rintro e w4 ⟨rfl, hb4⟩
      have HJ4 := Lib.hid (HJJ.out _ _ _ none HJ.out (grown_below hb4) (fun r e => by cases e))
      have HB4 := Lib.hid (bTrans HB.out hb4)
      have HM4 := Lib.hid (HM.out.keep fun D _ hD => (hb4.block D (Array.getElem?_eq_some_iff.1 hD).1).trans hD)
      obtain ⟨pr, hpr⟩ : ∃ p, (t.cheap i).1 = p := ⟨_, rfl⟩
      have HPR := Lib.hid hpr
      rw [hpr]
      have hz4 : W0.heap.size ≤ w4.heap.size := Nat.le_trans hz hb4.size
      clear hb4 hpr
      cases hcan : t.canB i
      · have HT := Lib.hid (selTo_f (p := t.freeB) (n := i) (by unfold Pt.freeB; rw [hcan]; rfl))
        clear hcan
        gi_wp2
        exact HK.out _ _ HI.out ⟨_, _, _, _, _, _, _, _, _, _, _, _, _, _, _, _, _, _, _, _, _, _, _, _, _, _, _, _, _, _, _, rfl, HM4.out, by rw [HT.out]; exact HJ4.out, HB4.out, hz4⟩
      · have HCAN := Lib.hid hcan
        clear hcan
        gi_wp2
        refine ⟨trivial, (callsIn_wide.2 (whoP_any C i _)).mono ?_⟩
        rintro e w5 ⟨rfl, hw5⟩
        have hb5 : Below w4.heap.size w4 w5 := hw5 ▸ bAlloc (bAlloc (Below.refl _ _) _) _
        have HX1 := Lib.hid (show TBox w5 w4.heap.size 135 #[.pointer (some ⟨C, 0, none⟩)] from hw5 ▸ (TBox.new w4 #[.pointer (some ⟨C, 0, none⟩)] 135).mono (bAlloc (Below.refl _ _) _))
        have HX2 := Lib.hid (show TBox w5 (w4.heap.size + 1) 3 #[.int .i64 (i : Int)] from hw5 ▸ (by have := TBox.new (w4.alloc (.cells #[.pointer (some ⟨C, 0, none⟩)] 135)) #[.int .i64 (i : Int)] 3; simpa using this))
        have HJ5 := Lib.hid (HJJ.out _ _ _ none HJ4.out (grown_below hb5) (fun r e => by cases e))
        have HB5 := Lib.hid (bTrans HB4.out hb5)
        have HM5 := Lib.hid (HM4.out.keep fun D _ hD => (hb5.block D (Array.getElem?_eq_some_iff.1 hD).1).trans hD)
        have hl1 := HX1.out.lt
        have hl2 := HX2.out.lt
        have hN5 := HB5.out.size
        have HW5 := Lib.hid (show W0.heap.size ≤ w5.heap.size from Nat.le_trans hz4 hb5.size)
        have HSEQ := Lib.hid (who_seq (n - 1) C w4.heap.size (w4.heap.size + 1) Aw Af Ao Ap As cw cf co cp cs t Al cl i w0 w5 (by omega) HST.out HB5.out HX1.out HX2.out HOK.out HI.out)
        clear hb5 hw5
        gi_wp2
        refine wpIn_range_caps (gf := 133) (bnd := #[]) (lb := whoF w4.heap.size (w4.heap.size + 1)) rfl (by omega) rfl trivial (enters_of Tryz.func133 (by kernel_rfl)) HSEQ.out (fun h k => h.trans k) (kpW_b hN5 hl1 hl2) (fun _ => rfl)
          (fun pre W => pre = [] ∧ Below w5.heap.size w5 W)
          (fun c pre W => c = .exit 1 ∧ pre ≠ [] ∧ Below w5.heap.size w5 W)
          ((ownFrom_pure _ (fun pre : List Int => pre = [])).and (ownFrom_below (Nat.le_refl _) (Nat.le_refl _)))
          (fun c => (ownFrom_pure _ (fun _ => c = .exit 1)).and ((ownFrom_pure _ (fun pre : List Int => pre ≠ [])).and (ownFrom_below (Nat.le_refl _) (Nat.le_refl _))))
          ⟨rfl, Below.refl _ _⟩
          (fun x a' W => True)
          (fun x a' _ X Y row hs hg hr => trivial) ?assign ?body ?done ?stop
        case assign =>
          rintro l' pre x W K' hsz ⟨hpre, hbel⟩ hK'
          gi_wp2
          exact hK' _ _ (KeepsFrom.refl _ _) (KpW.refl _ _ _ _) ⟨hpre, hbel⟩ trivial
        case body =>
          rintro l' pre x a' W hsz ⟨hpre, hbel⟩ _ hlen
          gi_wp2
          exact ⟨KeepsFrom.refl _ _, rfl, by simp, hbel⟩
        case done =>
          rintro D xs W hD hxs ⟨rfl, hbel⟩ hDef
          have HT := Lib.hid (selTo_t (p := t.freeB) (n := i) (by unfold Pt.freeB; rw [HCAN.out, whoAny_iff.2 hxs.symm]; rfl))
          have HJ6 := Lib.hid (HJJ.out _ _ _ none HJ5.out (grown_below hbel) (fun r e => by cases e))
          have HB6 := Lib.hid (bTrans HB5.out hbel)
          have HM6 := Lib.hid (HM5.out.push hbel (Nat.le_trans HW5.out hD) hD hDef)
          have hz6 := hbel.size
          clear hbel hDef hxs
          obtain ⟨fn, tmps, assign, body, hy, hR⟩ := HY.out _ (i : Int) _ HJ6.out (by rw [← HT.out]; exact selTo_prefix _ (by omega))
          simp only [encF, Int.toNat_natCast, HPR.out] at hy
          gi_wp2
          refine hR.mono ?_
          rintro e W3 (⟨rfl, hJ3, hk3, hkf⟩ | ⟨rfl, hJx3, hkf⟩)
          · have HJ3 := Lib.hid (HT.out.symm ▸ hJ3 : J (selTo t.freeB (i + 1)) W3)
            have HB3 := Lib.hid (below_chain HB6.out hk3)
            have HM3 := Lib.hid (HM6.out.keeps hkf)
            have hz3 := hk3.size
            clear hJ3 hk3 hkf hy
            gi_wp2
            exact HK.out _ _ HI.out ⟨_, _, _, _, _, _, _, _, _, _, _, _, _, _, _, _, _, _, _, _, _, _, _, _, _, _, _, _, _, _, _, rfl, HM3.out, HJ3.out, HB3.out, Nat.le_trans HW5.out (Nat.le_trans hz6 hz3)⟩
          · have HX := Lib.hid (HT.out.symm ▸ hJx3 : Jx (selTo t.freeB (i + 1)) W3)
            have HM3 := Lib.hid (HM6.out.keeps hkf)
            clear hJx3 hkf hy
            gi_wp2
            exact HLV2.out _ (selTo_prefix _ (by omega)) _ _ _ HM3.out HX.out
        case stop =>
          rintro D c pre W hD hpre ⟨rfl, hne, hbel⟩ hDef
          have HT := Lib.hid (selTo_f (p := t.freeB) (n := i) (by
            unfold Pt.freeB
            rw [HCAN.out]
            cases hwa : t.whoAny i
            · rw [whoAny_iff.1 hwa] at hpre
              exact absurd (List.prefix_nil.1 hpre) hne
            · rfl))
          have HJ6 := Lib.hid (HJJ.out _ _ _ none HJ5.out (grown_below hbel) (fun r e => by cases e))
          have HB6 := Lib.hid (bTrans HB5.out hbel)
          have HM6 := Lib.hid (HM5.out.push hbel (Nat.le_trans HW5.out hD) hD hDef)
          have hz6 := hbel.size
          clear hbel hDef hpre hne
          gi_wp2
          exact HK.out _ _ HI.out ⟨_, _, _, _, _, _, _, _, _, _, _, _, _, _, _, _, _, _, _, _, _, _, _, _, _, _, _, _, _, _, _, rfl, HM6.out, by rw [HT.out]; exact HJ6.out, HB6.out, Nat.le_trans HW5.out hz6⟩
    · obtain rfl : i = t.ns := by omega
      gi_wp2
      exact HLV1.out _ _ _ HM.out HJ.out
end Go.Proofs.YthnojgdckkdcgaaGreatDoor

namespace Go.Proofs.YthnojgdckkdcgaaGreatDoor
open Go.RowKit Go.Sort Go.Shelf
attribute [local go_sem] Oper.semAt_some
set_option maxHeartbeats 8000000 in
set_option maxRecDepth 100000 in
theorem freeP_any (Aw Af Ao Ap As : Option Addr) (cw cf co cp cs : Nat) (t : Pt) (w : World) (hs : t.Small) (hT : PAt w Aw Af Ao Ap As t) (hB : TabAt w) (hN : NoneAt w) :
    Calls Tryz.prog 29 #[.agg #[.int .i64 t.q.wells, .slice Aw t.q.nw cw, .slice Af t.q.nf cf, .slice Ao t.no co, .slice Ap t.np cp, .slice As t.ns cs, .int .i64 t.far, .int .i64 t.harm, .int .i64 t.many]] w fun e w' => NumsOut w' w.heap.size (t.knowErr true) t.frees e ∧ Below w.heap.size w w' := by
  have hb0 := bAlloc (Below.refl w.heap.size w) (.cells #[.int .i64 t.q.wells, .slice Aw t.q.nw cw, .slice Af t.q.nf cf, .slice Ao t.no co, .slice Ap t.np cp, .slice As t.ns cs, .int .i64 t.far, .int .i64 t.harm, .int .i64 t.many] 62)
  have HT := Lib.hid (hT.mono hb0)
  have HTB := Lib.hid (hB.mono hb0)
  have HNA := Lib.hid (hN.mono hb0)
  have HB0 := Lib.hid hb0
  have HSM := Lib.hid hs
  obtain ⟨er, her⟩ : ∃ v, t.knowErr true = v := ⟨_, rfl⟩
  have HER := Lib.hid her
  rw [her]
  clear hs hT hB hN hb0 her
  refine (callsIn_wide (n := 7)).1 ?_
  refine callsIn_of_wp_marks Tryz.func29 rfl trivial ?_ rfl
  simp only [Tryz.ntmps29, List.size_toArray, List.length_cons, List.length_nil, Nat.reduceAdd, Nat.reduceSub, Array.replicate_succ, Array.replicate_zero, List.push_toArray, List.append_toArray, List.nil_append, List.cons_append]
  gi_wp2
  refine ⟨trivial, (callsIn_wide.2 (openP_any Aw Af Ao Ap As cw cf co cp cs t true _ HSM.out HT.out HTB.out)).mono ?_⟩
  rintro e w1 ⟨ho, hb1⟩
  rw [HER.out] at ho
  have HB1 := Lib.hid (bTrans HB0.out hb1)
  have hz1 := hb1.size
  simp only [World.size_alloc] at hz1
  by_cases he : er = 0
  case neg =>
    obtain rfl := ho.1 he
    have g0 : (er != 0) = true := by simp [he]
    have HZ := Lib.hid he
    clear ho he hb1
    gi_wp2
    exact ⟨_, results_tmp2 rfl _ _ _, ⟨fun h => absurd h HZ.out, fun _ => rfl⟩, HB1.out⟩
  subst he
  obtain ⟨ok, _, _⟩ := Pt.knowErr_zero HER.out
  obtain ⟨C, Al, cl, rfl, hst, _⟩ := ho.2 rfl
  have HNA1 := Lib.hid (HNA.out.mono hb1)
  have hb2 : Below w1.heap.size w1 (w1.alloc (.cells #[.slice none 0 0] 34)) := bAlloc (Below.refl _ _) _
  have HSEQ := Lib.hid (free_seq 6 C Aw Af Ao Ap As cw cf co cp cs t Al cl w1 (w1.alloc (.cells #[.slice none 0 0] 34)) (by decide) hst HNA1.out hb2 ok HSM.out)
  have HB2 := Lib.hid hb2
  have hlen : t.frees.length ≤ 100 := by
    have := selTo_len t.freeB t.ns
    have := ok.ns
    unfold Pt.frees
    omega
  have HLEN := Lib.hid hlen
  clear ho hst ok hb2 hlen hb1
  gi_wp2
  refine wpIn_range_caps (gf := 85) (bnd := #[.pointer (some ⟨C, 0, none⟩)]) (lb := #[]) rfl (by decide) rfl trivial (enters_of Tryz.func85 (by kernel_rfl)) HSEQ.out below_chain (fun W l o o' hl _ _ => below_putB (Below.refl _ _) (by simp at hl; omega) _) (fun _ => rfl)
    (fun pre W => (∃ v, Boxed W w1.heap.size 34 v ∧ W.ownsRow (w1.heap.size + 1) 3 1 v pre.length (intE.cells pre) ∧ True) ∧ Below w1.heap.size w1 W)
    (fun c pre W => False)
    (OwnFrom.and (Own.from (holdsRow_own (w1.heap.size + 1) w1.heap.size 34 3 1 List.length intE.cells (fun _ _ => True)) _) (ownFrom_below (Nat.le_refl _) (by simp)))
    (fun c _ _ _ _ hs _ _ => hs)
    ⟨⟨_, Boxed.new w1 _ _, World.ownsRow_nil _ _ _ _, trivial⟩, HB2.out⟩
    (fun x a' W => ∃ u0 u1 u2 u3 u4 u5 u8 u9 u10 u11 u12 u13 u14 u15 u16 u17 u18 u19 u20 u21 u22 u23 u24, a' = { tmps := #[u0, u1, u2, u3, u4, u5, .pointer (some ⟨w1.heap.size, 0, none⟩), .int .i64 x, u8, u9, u10, u11, u12, u13, u14, u15, u16, u17, u18, u19, u20, u21, u22, u23, u24], defers := [] })
    (fun x a' _ X Y row hs hg hr => hs) ?assign ?body ?done ?stop
  case assign =>
    rintro l pre x W K hsz hI hK
    simp only [encF]
    gi_wp2
    exact hK _ _ (KeepsFrom.refl _ _) (Below.refl _ _) hI ⟨_, _, _, _, _, _, _, _, _, _, _, _, _, _, _, _, _, _, _, _, _, _, _, rfl⟩
  case body =>
    rintro l pre x a' W hsz ⟨⟨v, hv, hrow, _⟩, hbel⟩ ⟨u0, u1, u2, u3, u4, u5, u8, u9, u10, u11, u12, u13, u14, u15, u16, u17, u18, u19, u20, u21, u22, u23, u24, rfl⟩ hlen
    have HBL := Lib.hid hbel
    have HV := Lib.hid hv
    have HR := Lib.hid (show OwnE intE W (w1.heap.size + 1) v pre from hrow)
    have hpl : pre.length ≤ 100 := by
      have h1 := hlen.length_le
      rw [List.length_append] at h1
      have := HLEN.out
      omega
    have y0 := hv.cell
    have y1 := hv.frozen
    have z0 := hv.lt
    simp only [World.size_alloc] at hsz
    clear hbel hrow hlen hv
    gi_wp2_with (gi_at_builtin; refine wpListIn_snocE intG _ rfl (Operand.tmp 20) (Operand.tmp 22) rfl (w1.heap.size + 1) v pre x rfl ?q1 W.heap.size rfl ?q2 ?q3 ?q4 ?_)
    case q1 => exact HR.out.mono (bAlloc (Below.refl _ _) _)
    case q2 =>
      intro a u hu
      match a, hu with
      | 0, hu =>
        obtain rfl : Value.int .i64 x = u := by simpa [intE] using hu
        simp [go_sem]
    case q3 => omega
    case q4 => simp; omega
    intro v' w5 hown5 hb5 hg5
    have HB5 := Lib.hid (hb5 w1.heap.size w1 (by omega) (bAlloc HBL.out _))
    have hrowA : World.ownsRow (W.alloc (.cells #[.int .i64 x] 3)) (w1.heap.size + 1) 3 1 v pre.length (intE.cells pre) := owns_below HR.out (bAlloc (Below.refl _ _) _)
    have hv5 := (HV.out.alloc (.cells #[.int .i64 x] 3)).kept hg5 (Boxed.not_row (e := 3) (HV.out.alloc _) (by decide) hrowA)
    clear hrowA
    obtain ⟨g5, c5, rfl⟩ := owns_some hown5 (by simp)
    obtain ⟨n5, hn5⟩ : ∃ n5, (pre ++ [x]).length = n5 := ⟨_, rfl⟩
    rw [hn5] at hown5 ⊢
    clear hn5
    have HV5 := Lib.hid hv5
    have HO5 := Lib.hid hown5
    have HG5 := Lib.hid hg5
    have y5 := hv5.cell
    have y6 := hv5.frozen
    have z5 := hv5.lt
    have hz5 := hg5.size
    simp only [World.size_alloc] at hz5
    clear hb5 hg5 hv5 hown5 y0 y1
    gi_wp2
    have hbN : Below w1.heap.size w1 (w5.setCell ⟨w1.heap.size, 0, none⟩ (.slice (some ⟨g5, 0, none⟩) n5 c5)) := Below.setCell (p := ⟨w1.heap.size, 0, none⟩) HB5.out (Nat.le_refl _) _
    refine ⟨?_, ⟨hbN.os.trans HBL.out.os.symm, hbN.tape.trans HBL.out.tape.symm, hbN.output.trans HBL.out.output.symm, by simp [World.setCell]; omega, fun k hk => (hbN.block k hk).trans (HBL.out.block k hk).symm⟩, ⟨⟨_, HV5.out.set _, HO5.out.set (b := w1.heap.size) (by omega) 0 _, trivial⟩, hbN⟩⟩
    refine ((keeps_below (bAlloc (Below.refl W.heap.size W) _)).trans ((KeepsOthers.of_grownBy HG5.out fun r ob e hob => ?_).from _)).trans ((KeepsOthers.setCell _ _ _).from _)
    obtain ⟨_, cur, hcur⟩ := owns_typed (owns_below HR.out (bAlloc (Below.refl _ _) (.cells #[.int .i64 x] 3))) r e
    rw [hcur] at hob
    injection hob with hob
    rw [← hob]
    rfl
  case done =>
    rintro D xs W hD hxs ⟨⟨v, hv, hrow, _⟩, hbel⟩ hK
    have HBL := Lib.hid hbel
    have HV := Lib.hid hv
    have HR := Lib.hid (show W.ownsRow (w1.heap.size + 1) 3 1 v t.frees.length (numL t.frees) by rw [← intE_cells, ← hxs]; exact hrow)
    have y0 := hv.cell
    clear hbel hv hrow hxs
    gi_wp2
    refine ⟨by simp, .inl ⟨_, _, rfl, run_takeDeferred hK, ?_⟩⟩
    simp only [World.size_alloc] at hD
    exact ⟨_, results_tmp2 rfl _ _ _, ⟨fun _ => ⟨v, rfl, owns_lower (ownsRow_putObj HR.out _ hK rfl) (by omega)⟩, fun h => absurd rfl h⟩, bTrans HB1.out (below_put HBL.out (by have := HV.out.lt; omega) (by omega) _)⟩
  case stop =>
    rintro D c pre W _ _ h _
    exact h.elim
end Go.Proofs.YthnojgdckkdcgaaGreatDoor

namespace Go.Proofs.YthnojgdckkdcgaaGreatDoor
open Go.RowKit Go.Sort
theorem Pt.m_wells {t : Pt} (ok : t.Ok) : (t.m : Int) = t.q.wells := by have := ok.q.w0; unfold Pt.m; omega
/-! ### towns in which less is forbidden -/
section
variable {o t : Pt} (h : Looser o t)
include h
end
/-! ### towns that are alike -/
section
variable {o t : Pt} (h : Twin o t)
include h
end
/-! ### pairs -/
end Go.Proofs.YthnojgdckkdcgaaGreatDoor

namespace Go.Proofs.YthnojgdckkdcgaaGreatDoor
open Go.RowKit Go.Sort
theorem wellB_in {t : Qt} (ok : t.Ok) {p : Nat} (hp : (p : Int) < t.wells) : t.wellB (p : Int) = true := by rw [wellB_ok ok]; exact inR_t (by omega)
end Go.Proofs.YthnojgdckkdcgaaGreatDoor

namespace Go.Proofs.YthnojgdckkdcgaaGreatDoor
open Go.RowKit Go.Sort
set_option maxHeartbeats 2000000 in
set_option maxRecDepth 100000 in
theorem in1_any (A : Option Addr) (n c : Nat) (f : Nat → Int) (x : Int) (w : World) (hn : n ≤ 9223372036854775807) (hI : IntsAt w A n f) :
    Calls Tryz.prog 41 #[.slice A n c, .int .i64 x] w fun e w' => e = .returned (.bool (anyB (fun i => f i == x) n)) ∧ Below w.heap.size w w' := by
  have HI := Lib.hid hI
  clear hI
  go_enter Tryz.func41, Tryz.ntmps41
  go_wp2_with fail
  go_loopw [5] (fun s wr => ∃ k : Nat, k ≤ n ∧ s = .int .i64 k ∧ anyB (fun i => f i == x) k = false ∧ w = wr) (fun s _ => n - (intOf s).toNat)
  case atStart => exact ⟨0, Nat.zero_le _, rfl, rfl, rfl⟩
  case round =>
    obtain ⟨k, hk, rfl, hno, rfl⟩ := hrel
    have HNO := Lib.hid hno
    clear hno
    by_cases hlt : k < n
    · obtain ⟨b, o, rfl, hb, c0⟩ := HI.out.get hlt
      have k1 : (k : Int) < (n : Int) := by omega
      have k0 : (0 : Int) ≤ (k : Int) := by omega
      obtain ⟨v, hv⟩ : ∃ v, f k = v := ⟨_, rfl⟩
      rw [hv] at c0
      by_cases hx : v = x
      · have HH := Lib.hid (show anyB (fun i => f i == x) n = true from anyB_hit hlt (by simp [hv, hx]))
        have hx1 : (v == x) = true := by simp [hx]
        clear hv hx
        go_wp2_with fail
        go_ret
        exact ⟨ret_bool (by rw [HH.out]), Below.refl _ _⟩
      · have HH := Lib.hid (show anyB (fun i => f i == x) (k + 1) = false from anyB_step HNO.out (by simp [hv, hx]))
        have hx1 : (v == x) = false := by simp [hx]
        clear hv hx
        go_wp2_with fail
        go_roundw
        case rel =>
          first
          | exact ⟨k + 1, by omega, by go_num, HH.out, trivial⟩
          | ((repeat apply Exists.intro)
             refine ⟨⟨k + 1, by omega, ?_, HH.out, trivial⟩, rfl⟩
             go_num)
        case measure => simp [intOf]; omega
    · obtain rfl : k = n := by omega
      have k1 : ¬ (k : Int) < (k : Int) := by omega
      go_wp2_with fail
      go_ret
      exact ⟨ret_bool (by rw [HNO.out]), Below.refl _ _⟩
end Go.Proofs.YthnojgdckkdcgaaGreatDoor

namespace Go.Proofs.YthnojgdckkdcgaaGreatDoor
open Go.RowKit Go.Sort
/-- what the reference hands back: a list of tests, and an error -/
def RefLst (w : World) (er : Int) (L : List Tp) (e : Ending) : Prop := (er = 0 → ∃ A c, e = .returned (.tuple #[.slice A L.length c, .int .i64 er]) ∧ RowAt w A (tstE.cells L)) ∧ (er ≠ 0 → e = .returned (.tuple #[.slice none 0 0, .int .i64 er]))
theorem firstUpTo_none {l : List Tp} {p : List Tp → Bool} {k : Nat} (h0 : firstUpTo l p 0 k = none) (h1 : (listsL l k).find? p = none) : firstUpTo l p 0 (k + 1) = none := by
  rw [firstUpTo_snoc, h0]
  simpa using h1
theorem tests_len {t : Qt} (ok : t.Ok) : t.tests.length ≤ 16 := by
  obtain ⟨m, hm⟩ : ∃ m : Nat, t.wells = (m : Int) := ⟨t.wells.toNat, by have := ok.w0; omega⟩
  have m4 : m ≤ 4 := by have := ok.w1; omega
  unfold Qt.tests
  rw [testsL_len, hm, Int.toNat_natCast]
  have : m * m ≤ 4 * 4 := Nat.mul_le_mul m4 m4
  omega
theorem tests_ok5 {t : Qt} (ok : t.Ok) : t.TestsOk t.tests := fun x hx => by
  have := testsL_mem.1 hx
  have := ok.w0
  omega
end Go.Proofs.YthnojgdckkdcgaaGreatDoor

namespace Go.Proofs.YthnojgdckkdcgaaGreatDoor
open Go.RowKit Go.Sort
/-- the list that comes back with an error -/
def lstO (er : Int) (L : List Tp) : List Tp := if er = 0 then L else []
theorem RefLst.o {w : World} {er : Int} {L : List Tp} {e : Ending} (h : RefLst w er L e) : ∃ A c, e = .returned (.tuple #[.slice A (lstO er L).length c, .int .i64 er]) ∧ RowAt w A (tstE.cells (lstO er L)) := by
  unfold lstO
  by_cases h0 : er = 0
  · obtain ⟨A, c, e1, h1⟩ := h.1 h0
    rw [if_pos h0]
    exact ⟨A, c, e1, h1⟩
  · rw [if_neg h0]
    exact ⟨none, 0, h.2 h0, .inl rfl⟩
end Go.Proofs.YthnojgdckkdcgaaGreatDoor

namespace Go.Proofs.YthnojgdckkdcgaaGreatDoor
open Go.RowKit Go.Sort
theorem addAll_nw (t : Qt) (a : Int) (l : List Tp) : (t.addAll a l).wells = t.wells ∧ (t.addAll a l).world = t.world ∧ (t.addAll a l).nw = t.nw ∧ (t.addAll a l).nf = t.nf + l.length := addAll_same t a l t
theorem addAll_succ {t : Qt} {a : Int} {L : List Tp} {k : Nat} {x : Tp} (hx : L[k]? = some x) : t.addAll a (L.take (k + 1)) = (t.addAll a (L.take k)).add (shownF x (t.F a x)) := by
  unfold Qt.addAll
  rw [List.take_add_one, hx, Option.toList_some, List.foldl_append]
  rfl
theorem addAll_fits {t : Qt} (hf : t.Fits) {a : Int} {l : List Tp} (h2 : t.nf ≤ 2) (hl : l.length ≤ 100) : (t.addAll a l).Fits := by
  obtain ⟨h1, h3, h4, h5⟩ := addAll_nw t a l
  refine ⟨by rw [h4]; exact hf.1, by rw [h5]; omega, fun i hi => ?_⟩
  rw [h3]
  exact hf.2.2 i (by rw [← h4]; exact hi)
end Go.Proofs.YthnojgdckkdcgaaGreatDoor

namespace Go.Proofs.YthnojgdckkdcgaaGreatDoor
open Go.RowKit Go.Sort
/-- whether an old well forbids a spot in just one of two worlds -/
def Pt.unlike (t : Pt) (s : Nat) (a b : Int) : Bool := anyB (fun w => t.forb s w a != t.forb s w b) t.m
theorem unlike_comm (t : Pt) (s : Nat) (a b : Int) : t.unlike s a b = t.unlike s b a := anyB_congr fun w _ => bne_comm
theorem unlike_self (t : Pt) (s : Nat) (a : Int) : t.unlike s a a = false := anyB_false.2 fun w _ => by simp
/-- whether some tests decide all that must be for a spot -/
def Pt.decB (t : Pt) (s : Nat) (l : List Tp) : Bool := !anyB (fun i => anyB (fun k => t.unlike s (intL0 t.q.leftL i) (intL0 t.q.leftL k) && !t.q.someB l (intL0 t.q.leftL i) (intL0 t.q.leftL k)) i) t.q.leftL.length
theorem decB_iff {t : Pt} {s : Nat} {l : List Tp} : t.decB s l = true ↔ ∀ a, a ∈ t.q.leftL → ∀ b, b ∈ t.q.leftL → t.unlike s a b = true → t.q.someB l a b = true := by
  unfold Pt.decB
  rw [Bool.not_eq_true', anyB_false]
  constructor
  · intro h a ha b hb hs
    obtain ⟨i, hi, rfl⟩ := mem_intL0 ha
    obtain ⟨k, hk, rfl⟩ := mem_intL0 hb
    rcases Nat.lt_trichotomy i k with h1 | h1 | h1
    · have := anyB_false.1 (h k hk) i h1
      rw [unlike_comm, hs, someB_comm t.q l] at this
      simpa using this
    · subst h1
      rw [unlike_self] at hs
      cases hs
    · have := anyB_false.1 (h i hi) k h1
      rw [hs] at this
      simpa using this
  · intro h i hi
    refine anyB_false.2 fun k hk => ?_
    cases hs : t.unlike s (intL0 t.q.leftL i) (intL0 t.q.leftL k) with
    | false => rfl
    | true => rw [h _ (intL0_mem hi) _ (intL0_mem (by omega)) hs]; rfl
noncomputable def Pt.decErr (t : Pt) (s : Int) : Int := if t.knowErr (t.hasB s) = 0 then (if t.decB s.toNat t.q.tests then 0 else 3) else t.knowErr (t.hasB s)
/-- the tests of Decide -/
def Pt.decL (t : Pt) (s : Int) : List Tp := fewestL t.q.tests fun l => t.decB s.toNat l
theorem inN_zero {t : Pt} {s w : Nat} : t.inN s w = 0 ↔ ∀ a, a ∈ t.q.leftL → t.forb s w a = false := by
  unfold Pt.inN Pt.inTo
  rw [cntB_zero]
  constructor
  · intro h a ha
    obtain ⟨i, hi, rfl⟩ := mem_intL0 ha
    exact h i hi
  · intro h i hi
    exact h _ (intL0_mem hi)
theorem inN_all {t : Pt} {s w : Nat} : t.inN s w = t.q.leftL.length ↔ ∀ a, a ∈ t.q.leftL → t.forb s w a = true := by
  unfold Pt.inN Pt.inTo
  rw [cntB_all]
  constructor
  · intro h a ha
    obtain ⟨i, hi, rfl⟩ := mem_intL0 ha
    exact h i hi
  · intro h i hi
    exact h _ (intL0_mem hi)
theorem knownK_one {so all : Nat} : knownK (so : Int) (all : Int) = 1 ↔ so ≠ 0 ∧ so = all := by
  unfold knownK
  by_cases h0 : (so : Int) = 0
  · rw [if_pos h0]
    exact ⟨(fun h => by cases h), fun h => by omega⟩
  · rw [if_neg h0]
    by_cases h1 : (so : Int) = all
    · rw [if_pos h1]
      exact ⟨fun _ => by omega, fun _ => rfl⟩
    · rw [if_neg h1]
      exact ⟨(fun h => by cases h), fun h => by omega⟩
theorem knownK_two {so all : Nat} : knownK (so : Int) (all : Int) = 2 ↔ so = 0 := by
  unfold knownK
  by_cases h0 : (so : Int) = 0
  · rw [if_pos h0]
    exact ⟨fun _ => by omega, fun _ => rfl⟩
  · rw [if_neg h0]
    by_cases h1 : (so : Int) = all
    · rw [if_pos h1]
      exact ⟨(fun h => by cases h), fun h => by omega⟩
    · rw [if_neg h1]
      exact ⟨(fun h => by cases h), fun h => by omega⟩
/-! ### one fact more -/
def Pt.told (t : Pt) (f : Fact) : Pt := { t with q := t.q.add f }
/-! ### the looser law -/
/-! ### the street, seen from the other end -/
/-! ### one spot more -/
/-! ### the least harm -/
end Go.Proofs.YthnojgdckkdcgaaGreatDoor

namespace Go.Proofs.YthnojgdckkdcgaaGreatDoor
open Go.RowKit Go.Sort
set_option maxHeartbeats 8000000 in
set_option maxRecDepth 100000 in
theorem isForb9_any (Aw Af Ao Ap As : Option Addr) (cw cf co cp cs : Nat) (t : Pt) (a i v : Nat) (w : World) (ok : t.Ok) (hT : PAt w Aw Af Ao Ap As t) (hi : i < t.ns) (hv : (v : Int) < t.q.wells) (ha : a < t.q.nw) :
    Calls Tryz.prog 50 #[.agg #[.int .i64 t.q.wells, .slice Aw t.q.nw cw, .slice Af t.q.nf cf, .slice Ao t.no co, .slice Ap t.np cp, .slice As t.ns cs, .int .i64 t.far, .int .i64 t.harm, .int .i64 t.many], .int .i64 (a : Int), .int .i64 (i : Int), .int .i64 (v : Int)] w fun e w' => e = .returned (.bool (t.forb i v (a : Int))) ∧ Below w.heap.size w w' := by
  obtain ⟨b, o, Ar, Af2, Ax, cr, cf2, cx, hA, hb7, hsh, hrow, s0, s1, s2, s3, s4, s5, s6⟩ := hT.spots.get hi
  have hxs := ok.spot i hi
  have hi1 : (i : Int) < (t.ns : Int) := by omega
  have hi0 : (0 : Int) ≤ (i : Int) := by omega
  obtain ⟨x, hxx⟩ : ∃ x, t.spot i = x := ⟨_, rfl⟩
  rw [hxx] at s0 s1 s2 s3 s4 s5 s6 hsh hrow hxs
  subst hA
  have hvn : v < t.no := by have := ok.no; omega
  obtain ⟨bo, oo, hO, hbo, co0⟩ := hT.old.get hvn
  obtain ⟨br, or_, bq, oq, cq, hR, hbr, r0, hbq, r1⟩ := hrow.get (k := a) (j := v) (by rw [hxs.n]; exact ha) (by have := hxs.len a (by rw [hxs.n]; exact ha); omega)
  have hxa := And.intro hxs.a0 hxs.a1
  have hol := ok.old v hvn
  have hfa := hxs.fall a (by rw [hxs.n]; exact ha) v (by have := hxs.len a (by rw [hxs.n]; exact ha); omega)
  have hmm := ok.many
  have hln : (v : Int) < (x.fl.len a : Int) := by have := hxs.len a (by rw [hxs.n]; exact ha); omega
  have han : (a : Int) < (x.fl.n : Int) := by have := hxs.n; omega
  have hvo : (v : Int) < (t.no : Int) := by omega
  obtain ⟨fa, hfx⟩ : ∃ f, x.fl.fall a v = f := ⟨_, rfl⟩
  obtain ⟨u, hu⟩ : ∃ u, t.old v = u := ⟨_, rfl⟩
  rw [hfx] at r1 hfa
  rw [hu] at co0 hol
  obtain ⟨d, hd⟩ : ∃ d, dst x.at_ u = d := ⟨_, rfl⟩
  have hwr : IntKind.i64.wrap (fa * t.many) = fa * t.many := IntWalk.i64_in _ (by
    have h1 : 0 ≤ fa * t.many := Int.mul_nonneg hfa.1 hmm.1
    have h2 : fa * t.many ≤ 9 * 9 := Int.mul_le_mul hfa.2 hmm.2 hmm.1 (by decide)
    omega)
  have HF := Lib.hid (show t.forb i v (a : Int) = (decide (d < t.far) || decide (t.harm < fa * t.many)) by unfold Pt.forb; rw [Int.toNat_natCast, hxx, hu, dst_comm, hd, ← hfx])
  have HDI := Lib.hid (fun w' => hd ▸ dist9_any x.at_ u w' hxa hol : ∀ w' : World, Calls Tryz.prog 106 #[.int .i64 x.at_, .int .i64 u] w' fun e w'' => e = .returned (.int .i64 d) ∧ Below w'.heap.size w' w'')
  subst hO hR
  rw [HF.out]
  clear hvn hsh hrow hxs hxx hi hxa hol hfa hmm hd hfx hu HF ha hv ok
  have HD0 := Lib.hid (Below.refl w.heap.size w)
  go_enter Tryz.func50, Tryz.ntmps50
  go_wp2_with fail
  by_cases hdf : d < t.far
  case pos =>
    have hdd : decide (d < t.far) = true := by simpa using hdf
    refine wp_region_quiet_below (by kernel_rfl) (by kernel_rfl) ?_
    repeat (go_big_quiet_step ((go_at_call 106; exact Calls.regrown_of (HDI.out _))))
    refine wpQuiet_nil ?_
    intro w1 hw9
    have hb := below_of_regrown hw9
    clear hw9
    have hB1 : Below w.heap.size w w1 := bTrans (bAlloc (Below.refl _ _) (.cells #[.int .i64 t.q.wells, .slice Aw t.q.nw cw, .slice Af t.q.nf cf, .slice (some ⟨bo, oo, none⟩) t.no co, .slice Ap t.np cp, .slice (some ⟨b, o, none⟩) t.ns cs, .int .i64 t.far, .int .i64 t.harm, .int .i64 t.many] 62)) hb
    have HD1 := Lib.hid (bTrans HD0.out hB1)
    have T1 := Lib.hid (show TBox w1 w.heap.size 62 #[.int .i64 t.q.wells, .slice Aw t.q.nw cw, .slice Af t.q.nf cf, .slice (some ⟨bo, oo, none⟩) t.no co, .slice Ap t.np cp, .slice (some ⟨b, o, none⟩) t.ns cs, .int .i64 t.far, .int .i64 t.harm, .int .i64 t.many] from by have := ((TBox.new w #[.int .i64 t.q.wells, .slice Aw t.q.nw cw, .slice Af t.q.nf cf, .slice (some ⟨bo, oo, none⟩) t.no co, .slice Ap t.np cp, .slice (some ⟨b, o, none⟩) t.ns cs, .int .i64 t.far, .int .i64 t.harm, .int .i64 t.many] 62).mono (Below.refl _ _)).mono hb; simpa using this)
    clear hb hB1 HD0
    obtain ⟨T_0, T_1, T_2, T_3, T_4, T_5, T_6, T_7, T_8, T_l⟩ := T1.out.c9
    go_wp2_with fail
    go_ret
    exact ⟨by simp [hdd], HD1.out⟩
  have hdd : decide (d < t.far) = false := by simpa using hdf
  cases hbh : decide (t.harm < fa * t.many)
  · skip
    refine wp_region_quiet_below (by kernel_rfl) (by kernel_rfl) ?_
    repeat (go_big_quiet_step ((go_at_call 106; exact Calls.regrown_of (HDI.out _))))
    refine wpQuiet_nil ?_
    intro w1 hw9
    have hb := below_of_regrown hw9
    clear hw9
    have hB1 : Below w.heap.size w w1 := bTrans (bAlloc (Below.refl _ _) (.cells #[.int .i64 t.q.wells, .slice Aw t.q.nw cw, .slice Af t.q.nf cf, .slice (some ⟨bo, oo, none⟩) t.no co, .slice Ap t.np cp, .slice (some ⟨b, o, none⟩) t.ns cs, .int .i64 t.far, .int .i64 t.harm, .int .i64 t.many] 62)) hb
    have HD1 := Lib.hid (bTrans HD0.out hB1)
    have T1 := Lib.hid (show TBox w1 w.heap.size 62 #[.int .i64 t.q.wells, .slice Aw t.q.nw cw, .slice Af t.q.nf cf, .slice (some ⟨bo, oo, none⟩) t.no co, .slice Ap t.np cp, .slice (some ⟨b, o, none⟩) t.ns cs, .int .i64 t.far, .int .i64 t.harm, .int .i64 t.many] from by have := ((TBox.new w #[.int .i64 t.q.wells, .slice Aw t.q.nw cw, .slice Af t.q.nf cf, .slice (some ⟨bo, oo, none⟩) t.no co, .slice Ap t.np cp, .slice (some ⟨b, o, none⟩) t.ns cs, .int .i64 t.far, .int .i64 t.harm, .int .i64 t.many] 62).mono (Below.refl _ _)).mono hb; simpa using this)
    clear hb hB1 HD0
    obtain ⟨T_0, T_1, T_2, T_3, T_4, T_5, T_6, T_7, T_8, T_l⟩ := T1.out.c9
    go_wp2_with fail
    go_ret
    exact ⟨by simp [hdd, hbh], HD1.out⟩
  · skip
    refine wp_region_quiet_below (by kernel_rfl) (by kernel_rfl) ?_
    repeat (go_big_quiet_step ((go_at_call 106; exact Calls.regrown_of (HDI.out _))))
    refine wpQuiet_nil ?_
    intro w1 hw9
    have hb := below_of_regrown hw9
    clear hw9
    have hB1 : Below w.heap.size w w1 := bTrans (bAlloc (Below.refl _ _) (.cells #[.int .i64 t.q.wells, .slice Aw t.q.nw cw, .slice Af t.q.nf cf, .slice (some ⟨bo, oo, none⟩) t.no co, .slice Ap t.np cp, .slice (some ⟨b, o, none⟩) t.ns cs, .int .i64 t.far, .int .i64 t.harm, .int .i64 t.many] 62)) hb
    have HD1 := Lib.hid (bTrans HD0.out hB1)
    have T1 := Lib.hid (show TBox w1 w.heap.size 62 #[.int .i64 t.q.wells, .slice Aw t.q.nw cw, .slice Af t.q.nf cf, .slice (some ⟨bo, oo, none⟩) t.no co, .slice Ap t.np cp, .slice (some ⟨b, o, none⟩) t.ns cs, .int .i64 t.far, .int .i64 t.harm, .int .i64 t.many] from by have := ((TBox.new w #[.int .i64 t.q.wells, .slice Aw t.q.nw cw, .slice Af t.q.nf cf, .slice (some ⟨bo, oo, none⟩) t.no co, .slice Ap t.np cp, .slice (some ⟨b, o, none⟩) t.ns cs, .int .i64 t.far, .int .i64 t.harm, .int .i64 t.many] 62).mono (Below.refl _ _)).mono hb; simpa using this)
    clear hb hB1 HD0
    obtain ⟨T_0, T_1, T_2, T_3, T_4, T_5, T_6, T_7, T_8, T_l⟩ := T1.out.c9
    go_wp2_with fail
    go_ret
    exact ⟨by simp [hdd, hbh], HD1.out⟩
end Go.Proofs.YthnojgdckkdcgaaGreatDoor

namespace Go.Proofs.YthnojgdckkdcgaaGreatDoor
open Go.RowKit Go.Sort
theorem left_get {t : Pt} {w : World} {A : Option Addr} (hL : IntsAt w A t.q.leftL.length (intL0 t.q.leftL)) {k : Nat} (hk : k < t.q.leftL.length) : ∃ (b o i : Nat), A = some ⟨b, o, none⟩ ∧ b < w.heap.size ∧ w.cell? ⟨b, o + k, none⟩ = some (.int .i64 (i : Int)) ∧ intL0 t.q.leftL k = (i : Int) ∧ i < t.q.nw := by
  obtain ⟨i, h1, h2, _⟩ := left_at hk
  obtain ⟨b, o, h3, h4, h5⟩ := hL.get hk
  rw [h1] at h5
  exact ⟨b, o, i, h3, h4, h5, h1, h2⟩
set_option maxHeartbeats 4000000 in
set_option maxRecDepth 100000 in
theorem leftOf9_any (Aw Af Ao Ap As : Option Addr) (cw cf co cp cs : Nat) (t : Pt) (w : World) (ok : t.Ok) (hT : PAt w Aw Af Ao Ap As t) :
    Calls Tryz.prog 42 #[.agg #[.int .i64 t.q.wells, .slice Aw t.q.nw cw, .slice Af t.q.nf cf, .slice Ao t.no co, .slice Ap t.np cp, .slice As t.ns cs, .int .i64 t.far, .int .i64 t.harm, .int .i64 t.many]] w fun e w' => (∃ A c, e = .returned (.slice A t.q.leftL.length c) ∧ IntsAt w' A t.q.leftL.length (intL0 t.q.leftL)) ∧ Below w.heap.size w w' := by
  have HD0 := Lib.hid (Below.refl w.heap.size w)
  have HOK := Lib.hid ok
  have HT0 := Lib.hid hT
  clear ok hT
  go_enter Tryz.func42, Tryz.ntmps42
  go_wp2_with fail
  refine (refLeftOf Aw Af cw cf t.q _ HOK.out.q (HT0.out.mono (bAlloc (Below.refl _ _) (.cells #[.int .i64 t.q.wells, .slice Aw t.q.nw cw, .slice Af t.q.nf cf, .slice Ao t.no co, .slice Ap t.np cp, .slice As t.ns cs, .int .i64 t.far, .int .i64 t.harm, .int .i64 t.many] 62))).q).mono ?_
  rintro e w1 ⟨⟨v, rfl, hv⟩, hb⟩
  obtain ⟨A4, c4, rfl, hi4, _⟩ := left_base hv
  have hB1 : Below w.heap.size w w1 := bTrans (bAlloc (Below.refl _ _) (.cells #[.int .i64 t.q.wells, .slice Aw t.q.nw cw, .slice Af t.q.nf cf, .slice Ao t.no co, .slice Ap t.np cp, .slice As t.ns cs, .int .i64 t.far, .int .i64 t.harm, .int .i64 t.many] 62)) hb
  have HD1 := Lib.hid (bTrans HD0.out hB1)
  have HT1 := Lib.hid (HT0.out.mono hB1)
  have HI41 := Lib.hid (hi4)
  have T1 := Lib.hid (show TBox w1 w.heap.size 62 #[.int .i64 t.q.wells, .slice Aw t.q.nw cw, .slice Af t.q.nf cf, .slice Ao t.no co, .slice Ap t.np cp, .slice As t.ns cs, .int .i64 t.far, .int .i64 t.harm, .int .i64 t.many] from by have := ((TBox.new w #[.int .i64 t.q.wells, .slice Aw t.q.nw cw, .slice Af t.q.nf cf, .slice Ao t.no co, .slice Ap t.np cp, .slice As t.ns cs, .int .i64 t.far, .int .i64 t.harm, .int .i64 t.many] 62).mono (Below.refl _ _)).mono hb; simpa using this)
  clear hb hB1 HD0 HT0
  obtain ⟨T_0, T_1, T_2, T_3, T_4, T_5, T_6, T_7, T_8, T_l⟩ := T1.out.c9
  clear hv hi4
  go_wp2_with fail
  go_ret
  exact ⟨⟨A4, c4, rfl, HI41.out⟩, HD1.out⟩
end Go.Proofs.YthnojgdckkdcgaaGreatDoor

namespace Go.Proofs.YthnojgdckkdcgaaGreatDoor
open Go.RowKit Go.Sort
theorem CopyAt9.setTy {w : World} {base : Nat} {vW vF vO vP vS : Value} {t : Pt} (h : CopyAt9 w base vW vF vO vP vS t) {b : Nat} (hb : ∃ cs, TBox w b 62 cs) (o : Nat) (u : Value) : CopyAt9 (w.setCell ⟨b, o, none⟩ u) base vW vF vO vP vS t := by
  obtain ⟨h1, h2, h3, us, h4, h5⟩ := h
  obtain ⟨cs, hx⟩ := hb
  have hb : ∃ cs, TBox w b 62 cs := ⟨cs, hx⟩
  exact ⟨h1.setTy hb o u, owns_setTy h2 hb (by decide) o u, owns_setTy h3 hb (by decide) o u, us, owns_setTy h4 hb (by decide) o u, h5.kept (Kept.set (l := [3, 34, 190]) hx (by decide) o u) (by simp) (by simp) (by simp)⟩
end Go.Proofs.YthnojgdckkdcgaaGreatDoor

namespace Go.Proofs.YthnojgdckkdcgaaGreatDoor
open Go.RowKit Go.Sort
set_option maxHeartbeats 8000000 in
set_option maxRecDepth 100000 in
theorem told9c_any (Aw Af Ao Ap As : Option Addr) (cw cf co cp cs : Nat) (t : Pt) (f : Fact) (w : World) (hs : t.Fits) (hT : PAt w Aw Af Ao Ap As t) :
    Calls Tryz.prog 46 #[.agg #[.int .i64 t.q.wells, .slice Aw t.q.nw cw, .slice Af t.q.nf cf, .slice Ao t.no co, .slice Ap t.np cp, .slice As t.ns cs, .int .i64 t.far, .int .i64 t.harm, .int .i64 t.many], .agg #[.int .i64 f.from_, .int .i64 f.many, .int .i64 f.to_, .int .i64 f.low, .int .i64 f.high]] w fun e w' => CopyOut9 w' w.heap.size (t.told f) e ∧ Below w.heap.size w w' := by
  have HD0 := Lib.hid (Below.refl w.heap.size w)
  have HFI := Lib.hid hs
  have HT0 := Lib.hid hT
  clear hs hT
  go_enter Tryz.func46, Tryz.ntmps46
  go_wp2_with fail
  refine (copy9_any Aw Af Ao Ap As cw cf co cp cs t _ HFI.out (HT0.out.mono (bAlloc (bAlloc (bAlloc (Below.refl _ _) (.cells #[.int .i64 t.q.wells, .slice Aw t.q.nw cw, .slice Af t.q.nf cf, .slice Ao t.no co, .slice Ap t.np cp, .slice As t.ns cs, .int .i64 t.far, .int .i64 t.harm, .int .i64 t.many] 62)) (.cells #[.int .i64 f.from_, .int .i64 f.many, .int .i64 f.to_, .int .i64 f.low, .int .i64 f.high] 27)) (.cells #[.int .i64 0, .slice none 0 0, .slice none 0 0, .slice none 0 0, .slice none 0 0, .slice none 0 0, .int .i64 0, .int .i64 0, .int .i64 0] 62)))).mono ?_
  rintro e w1 ⟨ho, hb⟩
  obtain ⟨_, _, _, _, _, rfl, hc⟩ := ho
  obtain ⟨Bw, dw, Bf, df, Bo, do_, Bp, dp, Bs, ds, rfl, rfl, rfl, rfl, rfl, hU⟩ := hc.pat
  have hB1 : Below w.heap.size w w1 := bTrans (bAlloc (bAlloc (bAlloc (Below.refl _ _) (.cells #[.int .i64 t.q.wells, .slice Aw t.q.nw cw, .slice Af t.q.nf cf, .slice Ao t.no co, .slice Ap t.np cp, .slice As t.ns cs, .int .i64 t.far, .int .i64 t.harm, .int .i64 t.many] 62)) (.cells #[.int .i64 f.from_, .int .i64 f.many, .int .i64 f.to_, .int .i64 f.low, .int .i64 f.high] 27)) (.cells #[.int .i64 0, .slice none 0 0, .slice none 0 0, .slice none 0 0, .slice none 0 0, .slice none 0 0, .int .i64 0, .int .i64 0, .int .i64 0] 62)) hb
  have HD1 := Lib.hid (bTrans HD0.out hB1)
  have HT1 := Lib.hid (HT0.out.mono hB1)
  have HC1 := Lib.hid (hc)
  have T1 := Lib.hid (show TBox w1 w.heap.size 62 #[.int .i64 t.q.wells, .slice Aw t.q.nw cw, .slice Af t.q.nf cf, .slice Ao t.no co, .slice Ap t.np cp, .slice As t.ns cs, .int .i64 t.far, .int .i64 t.harm, .int .i64 t.many] from by have := ((TBox.new w #[.int .i64 t.q.wells, .slice Aw t.q.nw cw, .slice Af t.q.nf cf, .slice Ao t.no co, .slice Ap t.np cp, .slice As t.ns cs, .int .i64 t.far, .int .i64 t.harm, .int .i64 t.many] 62).mono (bAlloc (bAlloc (Below.refl _ _) (.cells #[.int .i64 f.from_, .int .i64 f.many, .int .i64 f.to_, .int .i64 f.low, .int .i64 f.high] 27)) (.cells #[.int .i64 0, .slice none 0 0, .slice none 0 0, .slice none 0 0, .slice none 0 0, .slice none 0 0, .int .i64 0, .int .i64 0, .int .i64 0] 62))).mono hb; simpa using this)
  have F1 := Lib.hid (show TBox w1 (w.heap.size + 1) 27 #[.int .i64 f.from_, .int .i64 f.many, .int .i64 f.to_, .int .i64 f.low, .int .i64 f.high] from by have := ((TBox.new (w.alloc (.cells #[.int .i64 t.q.wells, .slice Aw t.q.nw cw, .slice Af t.q.nf cf, .slice Ao t.no co, .slice Ap t.np cp, .slice As t.ns cs, .int .i64 t.far, .int .i64 t.harm, .int .i64 t.many] 62)) #[.int .i64 f.from_, .int .i64 f.many, .int .i64 f.to_, .int .i64 f.low, .int .i64 f.high] 27).mono (bAlloc (Below.refl _ _) (.cells #[.int .i64 0, .slice none 0 0, .slice none 0 0, .slice none 0 0, .slice none 0 0, .slice none 0 0, .int .i64 0, .int .i64 0, .int .i64 0] 62))).mono hb; simpa using this)
  have R1 := Lib.hid (show TBox w1 (w.heap.size + 1 + 1) 62 #[.int .i64 0, .slice none 0 0, .slice none 0 0, .slice none 0 0, .slice none 0 0, .slice none 0 0, .int .i64 0, .int .i64 0, .int .i64 0] from by have := ((TBox.new ((w.alloc (.cells #[.int .i64 t.q.wells, .slice Aw t.q.nw cw, .slice Af t.q.nf cf, .slice Ao t.no co, .slice Ap t.np cp, .slice As t.ns cs, .int .i64 t.far, .int .i64 t.harm, .int .i64 t.many] 62)).alloc (.cells #[.int .i64 f.from_, .int .i64 f.many, .int .i64 f.to_, .int .i64 f.low, .int .i64 f.high] 27)) #[.int .i64 0, .slice none 0 0, .slice none 0 0, .slice none 0 0, .slice none 0 0, .slice none 0 0, .int .i64 0, .int .i64 0, .int .i64 0] 62).mono (Below.refl _ _)).mono hb; simpa using this)
  clear hb hB1 HD0 HT0
  obtain ⟨T_0, T_1, T_2, T_3, T_4, T_5, T_6, T_7, T_8, T_l⟩ := T1.out.c9
  obtain ⟨F_0, F_1, F_2, F_3, F_4, F_l⟩ := F1.out.c5
  obtain ⟨R_0, R_1, R_2, R_3, R_4, R_5, R_6, R_7, R_8, R_l⟩ := R1.out.c9
  clear hc hU
  have HDB := Lib.hid HD1.out
  have HRU := Lib.hid R1.out.lt
  go_wp2_with fail
  refine (told5_any Aw Af cw cf t.q f _ HFI.out.q (HT1.out.mono (bAlloc (Below.refl _ _) (.cells #[.int .i64 t.q.wells, .slice Bw t.q.nw dw, .slice Bf t.q.nf df, .slice Bo t.no do_, .slice Bp t.np dp, .slice Bs t.ns ds, .int .i64 t.far, .int .i64 t.harm, .int .i64 t.many] 62))).q).mono ?_
  rintro e w2 ⟨ho, hb⟩
  obtain ⟨vW, vF, rfl, hc⟩ := ho
  obtain ⟨Cw, ew, Cf, ef, rfl, rfl, _⟩ := hc.qat
  rw [show (t.q.add f).wells = t.q.wells from rfl, show (t.q.add f).nw = t.q.nw from rfl, show (t.q.add f).nf = t.q.nf + 1 from rfl]
  have hB2 : Below w1.heap.size w1 w2 := bTrans (bAlloc (Below.refl _ _) (.cells #[.int .i64 t.q.wells, .slice Bw t.q.nw dw, .slice Bf t.q.nf df, .slice Bo t.no do_, .slice Bp t.np dp, .slice Bs t.ns ds, .int .i64 t.far, .int .i64 t.harm, .int .i64 t.many] 62)) hb
  have HD2 := Lib.hid (bTrans HD1.out hB2)
  have HT2 := Lib.hid (HT1.out.mono hB2)
  have HC2 := Lib.hid (HC1.out.mono hB2)
  have HQ2 := Lib.hid (hc)
  have T2 := Lib.hid (T1.out.mono hB2)
  have F2 := Lib.hid (F1.out.mono hB2)
  have R2 := Lib.hid (R1.out.mono hB2)
  have U2 := Lib.hid (show TBox w2 w1.heap.size 62 #[.int .i64 t.q.wells, .slice Bw t.q.nw dw, .slice Bf t.q.nf df, .slice Bo t.no do_, .slice Bp t.np dp, .slice Bs t.ns ds, .int .i64 t.far, .int .i64 t.harm, .int .i64 t.many] from by have := ((TBox.new w1 #[.int .i64 t.q.wells, .slice Bw t.q.nw dw, .slice Bf t.q.nf df, .slice Bo t.no do_, .slice Bp t.np dp, .slice Bs t.ns ds, .int .i64 t.far, .int .i64 t.harm, .int .i64 t.many] 62).mono (Below.refl _ _)).mono hb; simpa using this)
  clear hb hB2 HD1 HT1 HC1 T1 T_0 T_1 T_2 T_3 T_4 T_5 T_6 T_7 T_8 T_l F1 F_0 F_1 F_2 F_3 F_4 F_l R1 R_0 R_1 R_2 R_3 R_4 R_5 R_6 R_7 R_8 R_l
  obtain ⟨T_0, T_1, T_2, T_3, T_4, T_5, T_6, T_7, T_8, T_l⟩ := T2.out.c9
  obtain ⟨F_0, F_1, F_2, F_3, F_4, F_l⟩ := F2.out.c5
  obtain ⟨R_0, R_1, R_2, R_3, R_4, R_5, R_6, R_7, R_8, R_l⟩ := R2.out.c9
  obtain ⟨U_0, U_1, U_2, U_3, U_4, U_5, U_6, U_7, U_8, U_l⟩ := U2.out.c9
  clear hc
  have f0 := R2.out.frozen 0
  have f1 := R2.out.frozen 1
  have f2 := R2.out.frozen 2
  have f3 := R2.out.frozen 3
  have f4 := R2.out.frozen 4
  have f5 := R2.out.frozen 5
  have f6 := R2.out.frozen 6
  have f7 := R2.out.frozen 7
  have f8 := R2.out.frozen 8
  have u0 := U2.out.frozen 0
  have u1 := U2.out.frozen 1
  have u2 := U2.out.frozen 2
  have u3 := U2.out.frozen 3
  have u4 := U2.out.frozen 4
  have u5 := U2.out.frozen 5
  have u6 := U2.out.frozen 6
  have u7 := U2.out.frozen 7
  have u8 := U2.out.frozen 8
  have hr1 := HRU.out
  have hr2 : ¬ w.heap.size + 1 + 1 = w1.heap.size := by omega
  have hr3 : ¬ w1.heap.size = w.heap.size + 1 + 1 := by omega
  go_wp2_with fail
  have tyR : ∃ cs, TBox w2 (w.heap.size + 1 + 1) 62 cs := ⟨_, R2.out⟩
  have tyU : ∃ cs, TBox w2 w1.heap.size 62 cs := ⟨_, U2.out⟩
  have hsz := HD2.out.size
  have h9 : CopyAt9 w2 w.heap.size (.slice Cw t.q.nw ew) (.slice Cf (t.q.nf + 1) ef) (.slice Bo t.no do_) (.slice Bp t.np dp) (.slice Bs t.ns ds) (t.told f) :=
    have h := HC2.out.lower (base' := w.heap.size) (by simp; omega)
    ⟨HQ2.out.lower (by have := HDB.out.size; simp; omega), h.old, h.pence, h.spots⟩
  refine bodyPost_ret (v := .agg #[.int .i64 t.q.wells, .slice Cw t.q.nw ew, .slice Cf (t.q.nf + 1) ef, .slice Bo t.no do_, .slice Bp t.np dp, .slice Bs t.ns ds, .int .i64 t.far, .int .i64 t.harm, .int .i64 t.many]) (by simp [results, Tryz.results46, go_sem, *]) rfl ⟨⟨_, _, _, _, _, rfl, ?_⟩, ?_⟩
  · repeat with_reducible refine CopyAt9.setTy ?_ ?_ _ _
    · exact h9
    all_goals repeat (first | with_reducible refine TyB.set ?_ _ _ _ | with_reducible exact tyR | with_reducible exact tyU)
  · have k1 : w.heap.size ≤ w1.heap.size := HDB.out.size
    have k2 : w.heap.size ≤ w.heap.size + 1 + 1 := by omega
    repeat (with_reducible refine Below.setCell ?_ ?_ _)
    · exact HD2.out
    all_goals first | exact k2 | exact k1
end Go.Proofs.YthnojgdckkdcgaaGreatDoor

namespace Go.Proofs.YthnojgdckkdcgaaGreatDoor
open Go.RowKit Go.Sort
/-- a town to which is told what some tests show in a world -/
def Pt.toldAll (t : Pt) (a : Int) (l : List Tp) : Pt := { t with q := t.q.addAll a l }
theorem toldAll_forb (t : Pt) (a : Int) (l : List Tp) (s w : Nat) (b : Int) : (t.toldAll a l).forb s w b = t.forb s w b := rfl
theorem toldAll_wells (t : Pt) (a : Int) (l : List Tp) : (t.toldAll a l).q.wells = t.q.wells := (addAll_nw t.q a l).1
theorem toldAll_m (t : Pt) (a : Int) (l : List Tp) : (t.toldAll a l).m = t.m := by unfold Pt.m; rw [toldAll_wells]
theorem toldAll_left {t : Pt} {a : Int} {l : List Tp} {b : Int} : b ∈ (t.toldAll a l).q.leftL ↔ b ∈ t.q.leftL ∧ ∀ x, x ∈ l → t.q.F b x = t.q.F a x := by
  have h : (t.toldAll a l).q.leftL = t.q.leftL.filter fun b => l.all fun x => t.q.F b x == t.q.F a x := addAll_left t.q a l t.q rfl
  rw [h, List.mem_filter, List.all_eq_true]
  simp only [beq_iff_eq]
theorem toldAll_self {t : Pt} {a : Int} {l : List Tp} (h : a ∈ t.q.leftL) : a ∈ (t.toldAll a l).q.leftL := toldAll_left.2 ⟨h, fun _ _ => rfl⟩
theorem toldAll_succ {t : Pt} {a : Int} {L : List Tp} {k : Nat} {x : Tp} (hx : L[k]? = some x) : t.toldAll a (L.take (k + 1)) = (t.toldAll a (L.take k)).told (shownF x (t.q.F a x)) := by
  unfold Pt.toldAll Pt.told
  rw [addAll_succ hx]
end Go.Proofs.YthnojgdckkdcgaaGreatDoor

namespace Go.Proofs.YthnojgdckkdcgaaGreatDoor
open Go.RowKit Go.Sort
theorem mem_anyB (L : List Int) (x : Int) : anyB (fun i => intL0 L i == x) L.length = decide (x ∈ L) := by
  refine Bool.eq_iff_iff.2 ?_
  rw [anyB_true, decide_eq_true_eq]
  constructor
  · rintro ⟨i, hi, h⟩
    rw [← eq_of_beq h]
    exact intL0_mem hi
  · intro h
    obtain ⟨k, hk, e⟩ := mem_intL0 h
    exact ⟨k, hk, by rw [e]; exact beq_self_eq_true _⟩
theorem mem_frees {t : Pt} {s : Nat} (hs : s < t.ns) : ((s : Int) ∈ t.frees) ↔ t.freeB s = true := by
  constructor
  · intro h
    obtain ⟨i, _, h2, h3⟩ := selTo_mem.1 (show (s : Int) ∈ selTo t.freeB t.ns from h)
    obtain rfl : s = i := by omega
    exact h2
  · intro h
    exact selTo_mem.2 ⟨s, hs, h, rfl⟩
end Go.Proofs.YthnojgdckkdcgaaGreatDoor

namespace Go.Proofs.YthnojgdckkdcgaaGreatDoor
open Go.RowKit Go.Sort
/-- the worlds that are left then show all tests as this one does -/
theorem fewest_told {t : Pt} {a b : Int} (ha : a ∈ t.q.leftL) (hb : b ∈ (t.toldAll a (t.q.fewest t.q.leftL)).q.leftL) : b ∈ t.q.leftL ∧ t.q.someB t.q.tests a b = false := by
  obtain ⟨h1, h2⟩ := toldAll_left.1 hb
  refine ⟨h1, ?_⟩
  cases h : t.q.someB t.q.tests a b
  · rfl
  · have h3 := allApart_iff.1 (fewest_all t.q t.q.leftL) a ha b h1 h
    unfold Qt.someB at h3
    rw [List.any_eq_true] at h3
    obtain ⟨x, hx, h4⟩ := h3
    unfold Qt.apart at h4
    rw [h2 x hx] at h4
    simp at h4
/-- an old well forbids the spot there just if it does in this world -/
theorem told_same {t : Pt} {s w : Nat} {a b : Int} (hd : t.decB s t.q.tests = true) (ha : a ∈ t.q.leftL) (hb : b ∈ (t.toldAll a (t.q.fewest t.q.leftL)).q.leftL) (hw : w < t.m) : t.forb s w b = t.forb s w a := by
  obtain ⟨h1, h2⟩ := fewest_told ha hb
  have hu : t.unlike s a b = false := by
    cases hu : t.unlike s a b
    · rfl
    · rw [decB_iff.1 hd a ha b h1 hu] at h2
      cases h2
  have := anyB_false.1 hu w hw
  cases h3 : t.forb s w a <;> cases h4 : t.forb s w b <;> rw [h3, h4] at this <;> first | rfl | cases this
theorem told_in {t o : Pt} {s w : Nat} {a : Int} (ho : t.toldAll a (t.q.fewest t.q.leftL) = o) (hd : t.decB s t.q.tests = true) (ha : a ∈ t.q.leftL) (hw : w < t.m) : knownK (o.inN s w) o.q.leftL.length = (if t.forb s w a then 1 else 2) ∧ o.whoB s w = t.forb s w a := by
  subst ho
  have hne : (t.toldAll a (t.q.fewest t.q.leftL)).q.leftL.length ≠ 0 := fun e => by
    have := toldAll_self (l := t.q.fewest t.q.leftL) ha
    rw [List.eq_nil_of_length_eq_zero e] at this
    cases this
  cases hf : t.forb s w a
  · have h0 : (t.toldAll a (t.q.fewest t.q.leftL)).inN s w = 0 := inN_zero.2 fun b hb => by
      rw [toldAll_forb, told_same hd ha hb hw, hf]
    refine ⟨by rw [h0]; exact knownK_two.2 rfl, ?_⟩
    unfold Pt.whoB
    rw [h0]
    rfl
  · have h0 : (t.toldAll a (t.q.fewest t.q.leftL)).inN s w = (t.toldAll a (t.q.fewest t.q.leftL)).q.leftL.length := inN_all.2 fun b hb => by
      rw [toldAll_forb, told_same hd ha hb hw, hf]
    refine ⟨by rw [h0]; exact knownK_one.2 ⟨hne, rfl⟩, ?_⟩
    unfold Pt.whoB
    rw [h0]
    simp
    omega
/-- in how many of the first k old wells that forbid a spot in a world -/
def Pt.cntW (t : Pt) (s : Nat) (a : Int) (k : Nat) : Nat := cntB (fun w => t.forb s w a) k
theorem told_free {t o : Pt} {s : Nat} {a : Int} (ho : t.toldAll a (t.q.fewest t.q.leftL) = o) (hd : t.decB s t.q.tests = true) (ha : a ∈ t.q.leftL) : o.freeB s = (decide (t.cntW s a t.m = 0) && t.canB s) := by
  have hw : o.whoAny s = !decide (t.cntW s a t.m = 0) := by
    have hm : o.m = t.m := by rw [← ho]; exact toldAll_m t a _
    by_cases h0 : t.cntW s a t.m = 0
    · rw [decide_eq_true h0]
      unfold Pt.whoAny
      rw [hm]
      refine anyB_false.2 fun w hw => ?_
      rw [(told_in ho hd ha hw).2]
      exact cntB_zero.1 h0 w hw
    · rw [decide_eq_false h0]
      unfold Pt.whoAny
      rw [hm]
      cases h1 : anyB (o.whoB s) t.m
      · exfalso
        refine h0 (cntB_zero.2 fun w hw => ?_)
        rw [← (told_in ho hd ha hw).2]
        exact anyB_false.1 h1 w hw
      · rfl
  have hc : o.canB s = t.canB s := by rw [← ho]; rfl
  unfold Pt.freeB
  rw [hc, hw, Bool.and_comm, Bool.not_not]
theorem cntW_le (t : Pt) (s : Nat) (a : Int) (k : Nat) : t.cntW s a k ≤ k := cntB_le _ k
theorem cntW_succ (t : Pt) (s : Nat) (a : Int) (k : Nat) : t.cntW s a (k + 1) = if t.forb s k a then t.cntW s a k + 1 else t.cntW s a k := by
  unfold Pt.cntW
  show (if t.forb s k a then _ else _) = _
  rfl
end Go.Proofs.YthnojgdckkdcgaaGreatDoor

namespace Go.Proofs.YthnojgdckkdcgaaGreatDoor
open Go.RowKit Go.Sort
/-- a town, as a value -/
def pcV (u : Pt) (A1 A2 A3 A4 A5 : Option Addr) (c1 c2 c3 c4 c5 : Nat) : Value := .agg #[.int .i64 u.q.wells, .slice A1 u.q.nw c1, .slice A2 u.q.nf c2, .slice A3 u.no c3, .slice A4 u.np c4, .slice A5 u.ns c5, .int .i64 u.far, .int .i64 u.harm, .int .i64 u.many]
def pcS (u : Pt) (v : Value) : Prop := ∃ A1 A2 A3 A4 A5 c1 c2 c3 c4 c5, v = pcV u A1 A2 A3 A4 A5 c1 c2 c3 c4 c5
def pcR (N : Nat) (u : Pt) (w : World) (v : Value) : Prop := ∀ A1 A2 A3 A4 A5 c1 c2 c3 c4 c5, v = pcV u A1 A2 A3 A4 A5 c1 c2 c3 c4 c5 → CopyAt9 w N (.slice A1 u.q.nw c1) (.slice A2 u.q.nf c2) (.slice A3 u.no c3) (.slice A4 u.np c4) (.slice A5 u.ns c5) u
theorem pcG {N : Nat} {u : Pt} : (Stir.held (pcS u) (pcR N u)).good := ⟨⟨_, none, none, none, none, none, 0, 0, 0, 0, 0, rfl⟩, fun _ _ _ hb h a b c d e a' b' c' d' e' he => (h a b c d e a' b' c' d' e' he).mono hb⟩
theorem CopyOut9.pc {w : World} {base N : Nat} {u : Pt} {e : Ending} (h : CopyOut9 w base u e) (hb : N ≤ base) : ∃ v, e = .returned v ∧ pcS u v ∧ pcR N u w v := by
  obtain ⟨_, _, _, _, _, rfl, h⟩ := h
  have h2 := h
  obtain ⟨a1, c1, a2, c2, a3, c3, a4, c4, a5, c5, rfl, rfl, rfl, rfl, rfl, _⟩ := h2.pat
  refine ⟨_, rfl, ⟨a1, a2, a3, a4, a5, c1, c2, c3, c4, c5, rfl⟩, fun b1 b2 b3 b4 b5 d1 d2 d3 d4 d5 e => ?_⟩
  unfold pcV at e
  simp only [Value.agg.injEq, Array.mk.injEq, List.cons.injEq, Value.slice.injEq, and_true, true_and] at e
  obtain ⟨⟨rfl, rfl⟩, ⟨rfl, rfl⟩, ⟨rfl, rfl⟩, ⟨rfl, rfl⟩, rfl, rfl⟩ := e
  exact h.lower hb
theorem toldAll_fits {t : Pt} (hf : t.Fits) {a : Int} {l : List Tp} (h2 : t.q.nf ≤ 2) (hl : l.length ≤ 100) : (t.toldAll a l).Fits := ⟨addAll_fits hf.q h2 hl, hf.no, hf.np, hf.ns, hf.spot⟩
theorem told_chain {w : World} {N : Nat} {u : Pt} {A1 A2 A3 A4 A5 : Option Addr} {c1 c2 c3 c4 c5 : Nat} (h : CopyAt9 w N (.slice A1 u.q.nw c1) (.slice A2 u.q.nf c2) (.slice A3 u.no c3) (.slice A4 u.np c4) (.slice A5 u.ns c5) u) : PAt w A1 A2 A3 A4 A5 u := by
  obtain ⟨a1, d1, a2, d2, a3, d3, a4, d4, a5, d5, e1, e2, e3, e4, e5, hU⟩ := h.pat
  simp only [Value.slice.injEq, true_and] at e1 e2 e3 e4 e5
  obtain ⟨rfl, rfl⟩ := e1
  obtain ⟨rfl, rfl⟩ := e2
  obtain ⟨rfl, rfl⟩ := e3
  obtain ⟨rfl, rfl⟩ := e4
  obtain ⟨rfl, rfl⟩ := e5
  exact hU
theorem test_in {t : Qt} (ok : t.Ok) {a b : Nat} (ha : (a : Int) < t.wells) (hb : (b : Int) < t.wells) : t.testB (a : Int) (b : Int) = true := by
  unfold Qt.testB
  rw [wellB_in ok ha, wellB_in ok hb]
  rfl
theorem told_forbOut {t o : Pt} {s w : Nat} {a : Int} (ho : t.toldAll a (t.q.fewest t.q.leftL) = o) (hok : o.Ok) (hd : t.decB s t.q.tests = true) (ha : a ∈ t.q.leftL) (hs : s < t.ns) (hw : (w : Int) < t.q.wells) : o.forbidsOut (s : Int) (w : Int) = (if t.forb s w a then 1 else 2, 0) := by
  have hne : o.q.leftL ≠ [] := by rw [← ho]; exact List.ne_nil_of_mem (toldAll_self ha)
  have h1 : o.hasB (s : Int) = true := hasB_in (show s < o.ns by rw [← ho]; exact hs)
  have h2 : o.oldB (w : Int) = true := wellB_in hok.q (by rw [← ho, toldAll_wells]; exact hw)
  have hm : w < t.m := by unfold Pt.m; omega
  unfold Pt.forbidsOut
  rw [h1, h2, Bool.and_self, Pt.knowErr_ok hok hne, if_pos rfl, Int.toNat_natCast, Int.toNat_natCast, (told_in ho hd ha hm).1]
theorem told_last {t o : Pt} {s : Nat} {a : Int} (ho : t.toldAll a (t.q.fewest t.q.leftL) = o) (hok : o.Ok) (hd : t.decB s t.q.tests = true) (ha : a ∈ t.q.leftL) (hs : s < t.ns) : decide ((s : Int) ∈ o.frees) = (decide (t.cntW s a t.m = 0) && decide ((o.priceOut (s : Int)).2 = 0)) := by
  have hs' : s < o.ns := by rw [← ho]; exact hs
  have h1 : decide ((s : Int) ∈ o.frees) = o.freeB s := by
    cases h : o.freeB s
    · exact decide_eq_false fun hm => by rw [(mem_frees hs').1 hm] at h; cases h
    · exact decide_eq_true ((mem_frees hs').2 h)
  have h2 : (o.priceOut (s : Int)).2 = (t.cheap s).2 := by
    unfold Pt.priceOut
    rw [hasB_in hs', Pt.askErr_ok hok, if_pos rfl, Int.toNat_natCast]
    rw [← ho]
    rfl
  rw [h1, told_free ho hd ha, h2]
  rfl
end Go.Proofs.YthnojgdckkdcgaaGreatDoor

namespace Go.Proofs.YthnojgdckkdcgaaGreatDoor
open Go.RowKit Go.Sort
set_option maxHeartbeats 4000000 in
set_option maxRecDepth 100000 in
theorem unlikeP_any (C : Nat) (Aw Af Ao Ap As : Option Addr) (cw cf co cp cs : Nat) (t : Pt) (Al : Option Addr) (cl : Nat) (i a b : Nat) (w : World) (hst : StreetAt w C Aw Af Ao Ap As cw cf co cp cs t Al cl) (ok : t.Ok) (hi : i < t.ns) (ha : a < t.q.nw) (hb : b < t.q.nw) :
    Calls Tryz.prog 143 #[.pointer (some ⟨C, 0, none⟩), .int .i64 i, .int .i64 a, .int .i64 b] w fun e w' => e = .returned (.bool (t.unlike i (a : Int) (b : Int))) ∧ Below w.heap.size w w' := by
  have HD0 := Lib.hid (Below.refl w.heap.size w)
  have HST0 := Lib.hid hst
  have HOK := Lib.hid ok
  have HI := Lib.hid hi
  have HA := Lib.hid ha
  have HB := Lib.hid hb
  clear hst ok hi ha hb
  go_enter Tryz.func143, Tryz.ntmps143
  have HMW := Lib.hid (Pt.m_wells HOK.out)
  have hm4 : t.m ≤ 4 := by have := HOK.out.q.w1; have := HMW.out; omega
  obtain ⟨c0, c1, c2, c3, c4, c5, c6, c7, c8, c9, hCl⟩ := HST0.out.box.c10
  go_wp2_with fail
  clear c0 c1 c2 c3 c4 c5 c6 c7 c8 c9 hCl
  go_loopw [16] (fun s16 wr => ∃ k : Nat, k ≤ t.m ∧ s16 = .int .i64 (k : Int) ∧ (∀ v : Nat, v < k → t.forb i v (a : Int) = t.forb i v (b : Int)) ∧ Below w.heap.size w wr) (fun s16 _ => t.m - (intOf s16).toNat)
  case atStart => exact ⟨0, Nat.zero_le _, rfl, fun v h => absurd h (Nat.not_lt_zero _), Below.refl _ _⟩
  case round =>
    obtain ⟨k, hk_k, rfl, hno, hb⟩ := hrel
    have HBk := Lib.hid hb
    have HNO := Lib.hid hno
    clear hno
    have hB1 : Below w.heap.size w wr := bTrans (Below.refl _ _) hb
    have HD1 := Lib.hid (bTrans HD0.out hB1)
    have HST1 := Lib.hid (HST0.out.mono hB1)
    have HU_k1 := Lib.hid ((show Upto w wr from HBk.out))
    clear hb hB1
    by_cases hlt_k : k < t.m
    case pos =>
      have h1_k : (k : Int) < (t.m : Int) := by omega
      have h0_k : (0 : Int) ≤ (k : Int) := by omega
      have hb_k : k < 100 := by omega
      have hkw : (k : Int) < t.q.wells := by have := HMW.out; omega
      have HKW := Lib.hid hkw
      have HKM := Lib.hid hlt_k
      obtain ⟨fa, hfa⟩ : ∃ f, t.forb i k (a : Int) = f := ⟨_, rfl⟩
      obtain ⟨fb, hfb⟩ : ∃ f, t.forb i k (b : Int) = f := ⟨_, rfl⟩
      have HFA := Lib.hid hfa
      have HFB := Lib.hid hfb
      clear hfa hfb
      go_wp2_with fail
      refine (HFA.out ▸ forbidsP_any C Aw Af Ao Ap As cw cf co cp cs t Al cl i k a _ HST1.out HOK.out HI.out HKW.out HA.out).mono ?_
      rintro e w2 ⟨rfl, hb⟩
      have hB2 : Below wr.heap.size wr w2 := bTrans (Below.refl _ _) hb
      have HD2 := Lib.hid (bTrans HD1.out hB2)
      have HST2 := Lib.hid (HST1.out.mono hB2)
      have HU_k2 := Lib.hid (HU_k1.out.mono hB2)
      clear hb hB2 HD1 HST1 HU_k1
      go_wp2_with fail
      refine (HFB.out ▸ forbidsP_any C Aw Af Ao Ap As cw cf co cp cs t Al cl i k b _ HST2.out HOK.out HI.out HKW.out HB.out).mono ?_
      rintro e w3 ⟨rfl, hb⟩
      have hB3 : Below w2.heap.size w2 w3 := bTrans (Below.refl _ _) hb
      have HD3 := Lib.hid (bTrans HD2.out hB3)
      have HST3 := Lib.hid (HST2.out.mono hB3)
      have HU_k3 := Lib.hid (HU_k2.out.mono hB3)
      clear hb hB3 HD2 HST2 HU_k2
      cases fa <;> cases fb
      · skip
        have HN2 := Lib.hid (show ∀ v : Nat, v < k + 1 → t.forb i v (a : Int) = t.forb i v (b : Int) from fun v hv => by
          rcases Nat.lt_or_ge v k with h1 | h1
          · exact HNO.out v h1
          · obtain rfl : v = k := by omega
            rw [HFA.out, HFB.out])
        go_wp2_with fail
        go_roundw
        case rel =>
          first
          | exact ⟨k + 1, by omega, by go_num, HN2.out, HU_k3.out⟩
          | ((repeat apply Exists.intro)
             refine ⟨⟨k + 1, by omega, ?_, HN2.out, HU_k3.out⟩, rfl⟩
             go_num)
        case measure => simp [intOf]; omega
      · skip
        have HR := Lib.hid (show t.unlike i (a : Int) (b : Int) = true from anyB_true.2 ⟨k, HKM.out, by rw [HFA.out, HFB.out]; rfl⟩)
        go_wp2_with fail
        go_ret
        exact ⟨by rw [HR.out] <;> rfl, HD3.out⟩
      · skip
        have HR := Lib.hid (show t.unlike i (a : Int) (b : Int) = true from anyB_true.2 ⟨k, HKM.out, by rw [HFA.out, HFB.out]; rfl⟩)
        go_wp2_with fail
        go_ret
        exact ⟨by rw [HR.out] <;> rfl, HD3.out⟩
      · skip
        have HN2 := Lib.hid (show ∀ v : Nat, v < k + 1 → t.forb i v (a : Int) = t.forb i v (b : Int) from fun v hv => by
          rcases Nat.lt_or_ge v k with h1 | h1
          · exact HNO.out v h1
          · obtain rfl : v = k := by omega
            rw [HFA.out, HFB.out])
        go_wp2_with fail
        go_roundw
        case rel =>
          first
          | exact ⟨k + 1, by omega, by go_num, HN2.out, HU_k3.out⟩
          | ((repeat apply Exists.intro)
             refine ⟨⟨k + 1, by omega, ?_, HN2.out, HU_k3.out⟩, rfl⟩
             go_num)
        case measure => simp [intOf]; omega
    have he_k : k = t.m := by omega
    have hkw : ¬ (k : Int) < t.q.wells := by have := HMW.out; omega
    have HR := Lib.hid (show t.unlike i (a : Int) (b : Int) = false from anyB_false.2 fun v hv => by rw [HNO.out v (by omega)]; simp)
    clear he_k
    go_wp2_with fail
    go_ret
    exact ⟨by rw [HR.out] <;> rfl, HD1.out⟩
set_option maxHeartbeats 4000000 in
set_option maxRecDepth 100000 in
theorem tellsP_any (C : Nat) (Aw Af Ao Ap As : Option Addr) (cw cf co cp cs : Nat) (t : Pt) (Al : Option Addr) (cl : Nat) (p q a b : Nat) (w : World) (hst : StreetAt w C Aw Af Ao Ap As cw cf co cp cs t Al cl) (ok : t.Ok) (hp : (p : Int) < t.q.wells) (hq : (q : Int) < t.q.wells) (ha : a < t.q.nw) (hb : b < t.q.nw) :
    Calls Tryz.prog 144 #[.pointer (some ⟨C, 0, none⟩), .agg #[.int .i64 p, .int .i64 q], .int .i64 a, .int .i64 b] w fun e w' => e = .returned (.bool (t.q.apart (p, q) (a : Int) (b : Int))) ∧ Below w.heap.size w w' := by
  obtain ⟨va, hva⟩ : ∃ v, t.q.F (a : Int) (p, q) = v := ⟨_, rfl⟩
  obtain ⟨vb, hvb⟩ : ∃ v, t.q.F (b : Int) (p, q) = v := ⟨_, rfl⟩
  have HE := Lib.hid (show t.q.apart (p, q) (a : Int) (b : Int) = (va != vb) by unfold Qt.apart; rw [hva, hvb])
  have hva : (t.q.world a).fall p q = va := by rw [← hva]; unfold Qt.F; rw [Int.toNat_natCast]
  have hvb : (t.q.world b).fall p q = vb := by rw [← hvb]; unfold Qt.F; rw [Int.toNat_natCast]
  obtain ⟨bw, ow, rfl, hbw, hcw⟩ : ∃ b o, Aw = some ⟨b, o, none⟩ ∧ b < w.heap.size ∧ ∀ i, i < t.q.nw → ∃ A' c', w.cell? ⟨b, o + i, none⟩ = some (.slice A' (t.q.world i).n c') ∧ RowsAt w A' (t.q.world i) ∧ (t.q.world i).n ≤ 9223372036854775807 := by
    rcases hst.p.q.worlds with h | h
    · omega
    · exact h
  obtain ⟨A1, c1, ca0, hra, _⟩ := hcw a ha
  obtain ⟨A2, c2, cb0, hrb, _⟩ := hcw b hb
  have oka := ok.q.world a ha
  have okb := ok.q.world b hb
  have pna : p < (t.q.world a).n := by have := oka.n; omega
  have pnb : p < (t.q.world b).n := by have := okb.n; omega
  have qna : q < (t.q.world a).len p := by have := oka.len p pna; omega
  have qnb : q < (t.q.world b).len p := by have := okb.len p pnb; omega
  obtain ⟨b1, o1, b2, o2, cc2, rfl, hb1, ca1, hb2, ca2⟩ := hra.get pna qna
  obtain ⟨d1, e1, d2, e2, dd2, rfl, hd1, cb1, hd2, cb2⟩ := hrb.get pnb qnb
  rw [hva] at ca2
  rw [hvb] at cb2
  obtain ⟨c0, x1, x2, x3, x4, x5, x6, x7, x8, x9, hCl⟩ := hst.box.c10
  obtain ⟨na, hna⟩ : ∃ n, (t.q.world a).n = n := ⟨_, rfl⟩
  obtain ⟨nb, hnb⟩ : ∃ n, (t.q.world b).n = n := ⟨_, rfl⟩
  obtain ⟨la, hla⟩ : ∃ n, (t.q.world a).len p = n := ⟨_, rfl⟩
  obtain ⟨lb, hlb⟩ : ∃ n, (t.q.world b).len p = n := ⟨_, rfl⟩
  rw [hna] at ca0 pna
  rw [hnb] at cb0 pnb
  rw [hla] at ca1 qna
  rw [hlb] at cb1 qnb
  have i1 : (a : Int) < (t.q.nw : Int) := by omega
  have i2 : (b : Int) < (t.q.nw : Int) := by omega
  have i3 : (p : Int) < (na : Int) := by omega
  have i4 : (p : Int) < (nb : Int) := by omega
  have i5 : (q : Int) < (la : Int) := by omega
  have i6 : (q : Int) < (lb : Int) := by omega
  clear hcw hra hrb oka okb hva hvb hna hnb hla hlb
  have HD0 := Lib.hid (Below.refl w.heap.size w)
  have HST0 := Lib.hid hst
  have HOK := Lib.hid ok
  have HP := Lib.hid hp
  have HQ := Lib.hid hq
  have HA := Lib.hid ha
  have HB := Lib.hid hb
  clear hst ok hp hq ha hb
  go_enter Tryz.func144, Tryz.ntmps144
  go_wp2_with fail
  refine wp_region_quiet_below (by kernel_rfl) (by kernel_rfl) ?_
  repeat (go_big_quiet_step ((fail)))
  refine wpQuiet_nil ?_
  intro w9 hw9
  have hb9 := below_of_regrown hw9
  have HB9 := Lib.hid hb9
  clear hw9 hb9
  go_wp2_with fail
  go_ret
  exact ⟨by rw [HE.out]; first | rfl | exact ret_bool (by by_cases h : va = vb <;> simp [h]), bTrans (bAlloc (Below.refl w.heap.size w) _) HB9.out⟩
end Go.Proofs.YthnojgdckkdcgaaGreatDoor

