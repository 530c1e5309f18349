/- Parts joined. -/
import Derived.Test.YtjpfdhhiofjpbaaGreatDoorNPD
import Derived.Deep.LoopGhost
import Derived.RangeFuncNested
import Derived.RangeFuncBound
import Derived.RangeFuncCalls
import Derived.RangeFuncLeaves
import Derived.Shelf.Abstract
import Derived.Shelf.RegionOpen
import Derived.OwnWalkIn
import Derived.TacticsInMore
import Derived.LoopNIn
import Derived.LoopIn
import Derived.Test.YtjpfdhhiofjpbaaGreatDoorNPB
set_option linter.unusedSimpArgs false
set_option linter.unusedVariables false
/- Slices of the call's own, whatever their elements, gone on with one by one. No condition. -/
namespace Go.Proofs.YtjpfdhhiofjpbaaGreatDoor
open Go.RowKit Go.Sort
/-- how an element lies in memory -/
structure Elem (α : Type) where
  enc : α → List Value
  size : Nat
  ty : TypeId
  sl : TypeId
  z : Value
  bytes : Nat
structure Elem.Good {α : Type} (E : Elem α) : Prop where
  info : (Tryz.prog.info? E.ty).map (fun i => (i.zero, i.size, i.bytes)) = some (some E.z, E.size, E.bytes)
  und : Tryz.prog.underlying E.sl = some (.slice E.ty)
  zs : E.z.cells.size = E.size
  pos : 0 < E.size
  len : ∀ x, (E.enc x).length = E.size
  one : ∀ x, ∀ u ∈ E.enc x, u.oneCell' = true
  by_ : E.bytes ≤ 1000000
def Elem.cells {α : Type} (E : Elem α) (l : List α) : List Value := l.flatMap E.enc
theorem Elem.cells_len {α : Type} {E : Elem α} (g : E.Good) : ∀ l : List α, (E.cells l).length = l.length * E.size
  | [] => by simp [Elem.cells]
  | x :: l => by
    have ih := Elem.cells_len g l
    unfold Elem.cells at ih ⊢
    rw [List.flatMap_cons, List.length_append, g.len, ih, List.length_cons, Nat.succ_mul, Nat.add_comm]
theorem Elem.cells_get {α : Type} {E : Elem α} (g : E.Good) : ∀ {l : List α} {j : Nat} {x : α} (i : Nat), l[j]? = some x → i < E.size → (E.cells l)[j * E.size + i]? = (E.enc x)[i]?
  | [], j, x, i, h, _ => by simp at h
  | y :: l, 0, x, i, h, hi => by
    obtain rfl : y = x := by simpa using h
    unfold Elem.cells
    rw [List.flatMap_cons, Nat.zero_mul, Nat.zero_add, List.getElem?_append_left (by rw [g.len]; exact hi)]
  | y :: l, j + 1, x, i, h, hi => by
    have ih := Elem.cells_get g (l := l) (j := j) (x := x) i (by simpa using h) hi
    unfold Elem.cells at ih ⊢
    rw [List.flatMap_cons, List.getElem?_append_right (by rw [g.len, Nat.succ_mul]; omega), g.len, Nat.succ_mul, show j * E.size + E.size + i - E.size = j * E.size + i by omega]
    exact ih
/-- a slice of the call's own that holds a list -/
def OwnE {α : Type} (E : Elem α) (w : World) (base : Nat) (v : Value) (l : List α) : Prop := w.ownsRow base E.ty E.size v l.length (E.cells l)
section
variable {α : Type} {E : Elem α} {w w' : World} {base : Nat} {v : Value} {l : List α}
theorem OwnE.nil (E : Elem α) (w : World) (base : Nat) : OwnE E w base (.slice none 0 0) [] := World.ownsRow_nil _ _ _ _
theorem OwnE.mono (h : OwnE E w base v l) (hb : Below w.heap.size w w') : OwnE E w' base v l := owns_below h hb
theorem OwnE.lower {base' : Nat} (h : OwnE E w base v l) (hb : base' ≤ base) : OwnE E w base' v l := owns_lower h hb
/-- a slice that reads as a list -/
def SliceE (E : Elem α) (w : World) (v : Value) (l : List α) : Prop := ∃ A c, v = .slice A l.length c ∧ RowAt w A (E.cells l)
theorem SliceE.mono (h : SliceE E w v l) (hb : Below w.heap.size w w') : SliceE E w' v l := by
  obtain ⟨A, c, e, h⟩ := h
  exact ⟨A, c, e, h.mono hb⟩
theorem OwnE.read (h : OwnE E w base v l) : SliceE E w v l := by
  rcases Nat.eq_zero_or_pos l.length with h0 | h0
  · obtain rfl := List.eq_nil_of_length_eq_zero h0
    rcases h.2 with ⟨rfl, _⟩ | ⟨g, cap, cur, rfl, _⟩
    · exact ⟨_, _, rfl, .inl rfl⟩
    · exact ⟨_, _, rfl, .inl rfl⟩
  · obtain ⟨A, c, e, hr⟩ := AtHand.row (N := base) (.inr ⟨h0, h⟩)
    exact ⟨A, c, e, hr⟩
end
/-! ### Tests, pairs of worlds -/
def tstE : Elem Tp := { enc := fun x => [.int .i64 x.1, .int .i64 x.2], size := 2, ty := 79, sl := 71, z := .agg #[.int .i64 0, .int .i64 0], bytes := 16 }
theorem tstG : tstE.Good :=
  ⟨by kernel_rfl, Tryz.underlying71, by decide, by decide, fun _ => rfl, fun x u hu => by
    rcases (by simpa [tstE] using hu : u = .int .i64 x.1 ∨ u = .int .i64 x.2) with rfl | rfl <;> rfl, by decide⟩
def prE : Elem (Int × Int) := { enc := fun x => [.int .i64 x.1, .int .i64 x.2], size := 2, ty := 186, sl := 142, z := .agg #[.int .i64 0, .int .i64 0], bytes := 16 }
end Go.Proofs.YtjpfdhhiofjpbaaGreatDoor
/- Walks of the package quarrels: areDraws, the closure of Total. Conditions: lengths are Go's; of the closure: a valid world and draws. -/
namespace Go.Proofs.YtjpfdhhiofjpbaaGreatDoor
open Go.RowKit Go.Sort
end Go.Proofs.YtjpfdhhiofjpbaaGreatDoor
/- Walks of the reference 05: AreDraws, Lowers. Conditions: lengths are Go's; for Lowers a valid town, draws, a world and a well of it. -/
namespace Go.Proofs.YtjpfdhhiofjpbaaGreatDoor
open Go.RowKit Go.Sort
end Go.Proofs.YtjpfdhhiofjpbaaGreatDoor
/- Walks of the reference 05: Lowers. Conditions: a valid town, draws, a world and a well of it. -/
namespace Go.Proofs.YtjpfdhhiofjpbaaGreatDoor
open Go.RowKit Go.Sort
end Go.Proofs.YtjpfdhhiofjpbaaGreatDoor
/- Walks of the reference 05: IsBlamed. Conditions: a valid town, draws, a world and wells of it. -/
namespace Go.Proofs.YtjpfdhhiofjpbaaGreatDoor
open Go.RowKit Go.Sort
end Go.Proofs.YtjpfdhhiofjpbaaGreatDoor
/- Walks of the reference 05: IsLaw, Harms. Conditions: lengths are Go's. -/
namespace Go.Proofs.YtjpfdhhiofjpbaaGreatDoor
open Go.RowKit Go.Sort
theorem KnownOut.ret {w : World} {base : Nat} {t : Qt} {is : Bool} {e : Ending} (h : KnownOut w base t is e) : ∃ v, e = .returned v := by
  obtain ⟨v, h, _⟩ := h
  exact ⟨_, h⟩
end Go.Proofs.YtjpfdhhiofjpbaaGreatDoor
/- Walks of the reference 05: IsTest. No condition. -/
namespace Go.Proofs.YtjpfdhhiofjpbaaGreatDoor
open Go.RowKit Go.Sort
end Go.Proofs.YtjpfdhhiofjpbaaGreatDoor
/- Walks of the package quarrels: Between, Total. Conditions: lengths are Go's; the listed table holds what it holds. -/
namespace Go.Proofs.YtjpfdhhiofjpbaaGreatDoor
open Go.RowKit Go.Sort
end Go.Proofs.YtjpfdhhiofjpbaaGreatDoor
/- Walks of the package quarrels: Total. Conditions: lengths are Go's; the listed table holds what it holds. -/
namespace Go.Proofs.YtjpfdhhiofjpbaaGreatDoor
open Go.RowKit Go.Sort
end Go.Proofs.YtjpfdhhiofjpbaaGreatDoor
/- The walk of Blame of the package quarrels. Conditions: lengths are Go's; the listed table holds what it holds. -/
namespace Go.Proofs.YtjpfdhhiofjpbaaGreatDoor
open Go.RowKit Go.Sort
end Go.Proofs.YtjpfdhhiofjpbaaGreatDoor
/- The walk of Blame of the package quarrels, whatever it is handed. Conditions: lengths are Go's; the listed table holds what it holds. -/
namespace Go.Proofs.YtjpfdhhiofjpbaaGreatDoor
open Go.RowKit Go.Sort
end Go.Proofs.YtjpfdhhiofjpbaaGreatDoor
/- Walks of the reference 05: Blame. Conditions: lengths are Go's. -/
namespace Go.Proofs.YtjpfdhhiofjpbaaGreatDoor
open Go.RowKit Go.Sort
end Go.Proofs.YtjpfdhhiofjpbaaGreatDoor
/- Walks of math/bits.OnesCount of small numbers; of the package quarrels: many, shows. Conditions: a number below 64; of shows: a valid town. -/
namespace Go.Proofs.YtjpfdhhiofjpbaaGreatDoor
open Go.RowKit Go.Sort
end Go.Proofs.YtjpfdhhiofjpbaaGreatDoor
/- The walk of behind of the package quarrels. Conditions: a valid town; the listed table holds what it holds. -/
namespace Go.Proofs.YtjpfdhhiofjpbaaGreatDoor
open Go.RowKit Go.Sort
theorem selTo_mem {p : Nat → Bool} {x : Int} : ∀ {n : Nat}, x ∈ selTo p n ↔ ∃ i : Nat, i < n ∧ p i = true ∧ x = i
  | 0 => by simp [selTo]
  | n + 1 => by
    have ih := selTo_mem (p := p) (x := x) (n := n)
    unfold selTo
    constructor
    · intro h
      split at h
      · rename_i hp
        rw [List.mem_append, ih] at h
        rcases h with ⟨i, h1, h2, h3⟩ | h
        · exact ⟨i, by omega, h2, h3⟩
        · exact ⟨n, by omega, hp, by simpa using h⟩
      · obtain ⟨i, h1, h2, h3⟩ := ih.1 h
        exact ⟨i, by omega, h2, h3⟩
    · rintro ⟨i, h1, h2, h3⟩
      rcases Nat.lt_or_ge i n with h4 | h4
      · have := ih.2 ⟨i, h4, h2, h3⟩
        split
        · rw [List.mem_append]; exact .inl this
        · exact this
      · obtain rfl : i = n := by omega
        rw [if_pos h2, List.mem_append]
        exact .inr (by simp [h3])
/-- an array of ten masks -/
structure ArrAt (w : World) (B : Nat) (m : Nat → Nat) : Prop where
  lt : B < w.heap.size
  cell : ∀ f, f < 10 → w.cell? ⟨B, f, none⟩ = some (.int .u64 (m f : Int))
  frz : ∀ o, w.frozen? ⟨B, o, none⟩ = false
theorem ArrAt.mono {w w' : World} {B : Nat} {m : Nat → Nat} (h : ArrAt w B m) (hb : Below w.heap.size w w') : ArrAt w' B m :=
  ⟨Nat.lt_of_lt_of_le h.lt hb.size, fun f hf => (hb.cell (p := ⟨B, f, none⟩) h.lt).trans (h.cell f hf), fun o => (hb.frozen (p := ⟨B, o, none⟩) h.lt).trans (h.frz o)⟩
theorem ArrAt.put {w : World} {B : Nat} {m m' : Nat → Nat} (h : ArrAt w B m) {f : Nat} (hf : f < 10) {u : Nat} (hu : m' f = u) (ho : ∀ g, g ≠ f → m' g = m g) : ArrAt (w.setCell ⟨B, f, none⟩ (.int .u64 (u : Int))) B m' :=
  ⟨by simpa [World.setCell] using h.lt, fun g hg => by
    by_cases e : g = f
    · subst e
      rw [hu]
      exact World.cell?_setCell_same _ _ _ (h.cell g hg)
    · rw [ho g e]
      exact (World.cell?_setCell_other _ _ _ _ (fun e' => by injection e' with _ e'; exact e e'.symm)).trans (h.cell g hg), fun o => by rw [World.frozen?_setCell]; exact h.frz o⟩
end Go.Proofs.YtjpfdhhiofjpbaaGreatDoor
/- The walk of Split of the package quarrels. Conditions: lengths are Go's; the listed table holds what it holds. -/
namespace Go.Proofs.YtjpfdhhiofjpbaaGreatDoor
open Go.RowKit Go.Sort
end Go.Proofs.YtjpfdhhiofjpbaaGreatDoor
/- Walks of the package quarrels: told and its closure. Conditions: a valid town, tests and worlds of it. -/
namespace Go.Proofs.YtjpfdhhiofjpbaaGreatDoor
open Go.RowKit Go.Sort
def tget (l : List Tp) (i : Nat) : Tp := l[i]?.getD (0, 0)
theorem tget_some {l : List Tp} {i : Nat} (h : i < l.length) : l[i]? = some (tget l i) := by
  unfold tget
  rw [List.getElem?_eq_getElem h]
  rfl
end Go.Proofs.YtjpfdhhiofjpbaaGreatDoor
/- 'append' onto a full slice, at a step of a region; the first list of tests behind others. No condition. -/
namespace Go.Proofs.YtjpfdhhiofjpbaaGreatDoor
open Go.RowKit Go.Sort
/-- a slice of tests that one may read and go on with -/
def LstAt (w : World) (A : Option Addr) (c : Nat) (l : List Tp) : Prop :=
  (l = [] ∧ A = none ∧ c = 0) ∨ (l ≠ [] ∧ (∃ g, A = some ⟨g, 0, none⟩) ∧ RowAt w A (tstE.cells l) ∧ l.length ≤ c ∧ c ≤ 9223372036854775807)
theorem LstAt.mono {w w' : World} {A : Option Addr} {c : Nat} {l : List Tp} (h : LstAt w A c l) (hb : Below w.heap.size w w') : LstAt w' A c l :=
  h.imp id fun ⟨h1, h2, h3, h4⟩ => ⟨h1, h2, h3.mono hb, h4⟩
theorem LstAt.row {w : World} {A : Option Addr} {c : Nat} {l : List Tp} (h : LstAt w A c l) : RowAt w A (tstE.cells l) := by
  rcases h with ⟨rfl, _⟩ | ⟨_, _, h, _⟩
  · exact .inl rfl
  · exact h
theorem LstAt.cap {w : World} {A : Option Addr} {c : Nat} {l : List Tp} (h : LstAt w A c l) : l.length ≤ c ∧ c ≤ 9223372036854775807 := by
  rcases h with ⟨rfl, _, rfl⟩ | ⟨_, _, _, h⟩
  · exact ⟨Nat.le_refl _, by omega⟩
  · exact h
theorem LstAt.none {w : World} {A : Option Addr} {c : Nat} {l : List Tp} (h : LstAt w A c l) : A = none → l = [] := by
  rcases h with ⟨rfl, _⟩ | ⟨_, ⟨g, rfl⟩, _⟩
  · exact fun _ => rfl
  · intro h; cases h
theorem OwnE.lst {w : World} {base : Nat} {v : Value} {l : List Tp} (h : OwnE tstE w base v l) (h0 : l ≠ []) : ∃ g c, v = .slice (some ⟨g, 0, none⟩) l.length c ∧ LstAt w (some ⟨g, 0, none⟩) c l := by
  obtain ⟨A, c, e, hr⟩ := h.read
  have hp : 0 < l.length := List.length_pos_iff.2 h0
  rcases h.2 with ⟨rfl, h1⟩ | ⟨g, cap, cur, rfl, _, _, h3, h4, _⟩
  · omega
  · injection e with e1 _ e2
    subst e1 e2
    exact ⟨g, _, rfl, .inr ⟨h0, ⟨g, rfl⟩, hr, h3, by unfold maxLen at h4; omega⟩⟩
end Go.Proofs.YtjpfdhhiofjpbaaGreatDoor
/- The walk of the closure find of fewest of the package quarrels, which calls itself. Conditions: a valid town, tests and pairs of it. -/
namespace Go.Proofs.YtjpfdhhiofjpbaaGreatDoor
open Go.RowKit Go.Sort
/-- what find has captured -/
structure FindEnv (w : World) (C : Nat) (Aw Af Ap At : Option Addr) (cw cf cp ct mp s bc bp bt bf : Nat) (t : Qt) (Z : List Tp) (ps : List (Int × Int)) : Prop where
  court : CourtAt w C Aw Af cw cf t s mp
  town : QAt w Aw Af t
  pairs : RowAt w Ap (prE.cells ps)
  tests : RowAt w At (tstE.cells Z)
  boxC : BoxAt w bc [.pointer (some ⟨C, 0, none⟩)]
  boxP : BoxAt w bp [.slice Ap ps.length cp]
  boxT : BoxAt w bt [.slice At Z.length ct]
  boxF : BoxAt w bf [.func (.func 164) #[] #[.pointer (some ⟨bc, 0, none⟩), .pointer (some ⟨bp, 0, none⟩), .pointer (some ⟨bt, 0, none⟩), .pointer (some ⟨bf, 0, none⟩)]]
theorem FindEnv.mono {w w' : World} {C : Nat} {Aw Af Ap At : Option Addr} {cw cf cp ct mp s bc bp bt bf : Nat} {t : Qt} {Z : List Tp} {ps : List (Int × Int)} (h : FindEnv w C Aw Af Ap At cw cf cp ct mp s bc bp bt bf t Z ps) (hb : Below w.heap.size w w') : FindEnv w' C Aw Af Ap At cw cf cp ct mp s bc bp bt bf t Z ps :=
  ⟨h.court.mono hb, h.town.mono hb, h.pairs.mono hb, h.tests.mono hb, h.boxC.mono hb, h.boxP.mono hb, h.boxT.mono hb, h.boxF.mono hb⟩
end Go.Proofs.YtjpfdhhiofjpbaaGreatDoor
/- The walk of fewest of the package quarrels. Conditions: a valid town, tests and pairs of it. -/
namespace Go.Proofs.YtjpfdhhiofjpbaaGreatDoor
open Go.RowKit Go.Sort
end Go.Proofs.YtjpfdhhiofjpbaaGreatDoor
/- The walk of pairs of the package quarrels, whatever function it is handed, by its contract. Conditions: a valid town; the listed table holds what it holds. -/
namespace Go.Proofs.YtjpfdhhiofjpbaaGreatDoor
open Go.RowKit Go.Sort
theorem OwnL.cap {w : World} {base : Nat} {v : Value} {l : List Int} (h : OwnL w base v l) (h0 : 0 < l.length) : ∃ g c, v = .slice (some ⟨g, 0, none⟩) l.length c ∧ l.length ≤ c ∧ c ≤ 9223372036854775807 := by
  rcases h.2 with ⟨rfl, h1⟩ | ⟨g, cap, cur, rfl, _, _, h3, h4, _⟩
  · omega
  · exact ⟨g, _, rfl, h3, by unfold maxLen at h4; omega⟩
end Go.Proofs.YtjpfdhhiofjpbaaGreatDoor
/- A range over a method's value: the loop, by the iterator's contract; the iterator has an argument ahead of yield. No program in sight. (The proof turns that of the kit's wpIn_rangeFunc_ownH.) -/
namespace Go.Proofs.YtjpfdhhiofjpbaaGreatDoor
open Go.RowKit Go.Sort Go.Shelf
section
variable {F : Fence} {n : Nat} {P : Program} {w : World}
end
end Go.Proofs.YtjpfdhhiofjpbaaGreatDoor
/- The iterator tests of the package quarrels, by its contract. Condition: at most 4 wells. -/
namespace Go.Proofs.YtjpfdhhiofjpbaaGreatDoor
open Go.RowKit Go.Sort Go.Shelf
attribute [local go_sem] Oper.semAt_some
end Go.Proofs.YtjpfdhhiofjpbaaGreatDoor
/- A region that draws its order within a round of a range over a function, all of whose operations are calm. No program in sight. -/
namespace Go.Proofs.YtjpfdhhiofjpbaaGreatDoor
open Go.RowKit Go.Sort Go.Shelf
section
variable {P : Program} {ops : Array Oper} {md : Region.Mode} {lp n : Nat}
theorem wpAnyIn_inv {F : Fence} {Q : Exit → Act → World → Prop} (Inv : Array Bool → Act → World → Prop)
    (hstep : ∀ listed a w i, Shut md ops listed → Inv listed a w → i ∈ Region.ready md ops listed → wpOpIn F n P ops Q i (Inv (listed.setIfInBounds i true)) a w)
    (hend : ∀ listed a w, Shut md ops listed → Inv listed a w → Region.ready md ops listed = [] → Q .normal a w) :
    ∀ (fuel : Nat) (listed : Array Bool) (a : Act) (w : World), left listed ops.size ≤ fuel → Shut md ops listed → Inv listed a w → wpAnyIn F n P md ops Q fuel listed a w
  | 0, listed, a, w, hl, hs, hI => by
    have hr : Region.ready md ops listed = [] := by
      cases hr : Region.ready md ops listed with
      | nil => rfl
      | cons i rest =>
        have hm : i ∈ Region.ready md ops listed := by rw [hr]; exact List.mem_cons_self
        have h0 := (mem_ready.1 hm).1
        have := left_pos h0 ops.size (by rw [← hs.size]; exact lt_of_unlisted h0)
        omega
    exact ⟨hr, hend _ _ _ hs hI hr⟩
  | fuel + 1, listed, a, w, hl, hs, hI => by
    refine ⟨fun hr => hend _ _ _ hs hI hr, fun i hi => ?_⟩
    have h0 := (mem_ready.1 hi).1
    have h1 := left_set h0 ops.size (by rw [← hs.size]; exact lt_of_unlisted h0)
    exact wpOpIn_mono (fun a' w' h' => wpAnyIn_inv Inv hstep hend fuel _ a' w' (by omega) (hs.set hi) h') (hstep _ _ _ _ hs hI hi)
theorem Oper.wpIn_of_calm {o : Oper} {a : Act} {w : World} {v : Value} {K : Act → World → Prop} {Q : Exit → Act → World → Prop} (hdf : ∀ c, o.op ≠ .defer c) (h : Oper.calmAt P o a w v) (hK : ∀ w', Below w.heap.size w w' → K (a.put o.dst v) w') : o.wpIn (Fence.wide.inRound lp) n P a w K Q := by
  unfold Oper.calmAt at h
  unfold Oper.wpIn
  refine ⟨fun _ _ => trivial, ?_⟩
  rw [Oper.semAt_eq _ _ _ hdf]
  generalize (execOp a.eval o).run P w = r at *
  cases r with
  | ok n' w' =>
    cases n' <;> simp only [Oper.calmUpon] at h <;> simp only [Oper.uponIn]
    case value u =>
      obtain ⟨e1, e2⟩ := h
      rw [e1, e2]
      exact hK _ (Below.refl _ _)
    case skip =>
      obtain ⟨e1, e2⟩ := h
      rw [e1, ← e2]
      exact hK _ (Below.refl _ _)
    case enter f args =>
      obtain ⟨e1, hc⟩ := h
      rw [e1]
      exact ⟨fun h => by simp [Fence.wide, Fence.inRound] at h, (CallsIn.inRound lp (callsIn_wide.2 hc)).mono fun e w'' ⟨he, hw''⟩ => by subst he; exact hK _ hw''⟩
  | halt x w' => simp only [Oper.calmUpon] at h
theorem CalmAt.wpOpIn {W : World} {i : Nat} {o : Oper} {a b : Act} {w : World} {v : Value} {K : Act → World → Prop} {Q : Exit → Act → World → Prop} (ho : ops[i]? = some o) (hdf : ∀ c, o.op ≠ .defer c) (hsel : ∀ cs b, o.op ≠ .select cs b) (h : CalmAt P ops W o b v) (hw : Below W.heap.size W w)
    (hl : ∀ t, t ∈ o.looksAt ops → a.tmps[t]? = b.tmps[t]?) (hK : ∀ w', Below w.heap.size w w' → K (a.put o.dst v) w') : wpOpIn (Fence.wide.inRound lp) n P ops Q i K a w := by
  unfold Go.wpOpIn
  simp only [ho]
  rw [wanted_of_slots hl]
  rcases h with ⟨h1, h2⟩ | ⟨h1, rfl⟩
  · rw [if_pos h1]
    refine Oper.wpIn_of_calm hdf ?_ hK
    have := h2 w hw
    unfold Oper.calmAt at this ⊢
    rwa [exec_of_slots hsel hl]
  · rw [if_neg (by rw [h1]; exact Bool.false_ne_true)]
    exact ⟨fun _ _ => trivial, hK _ (Below.refl _ _)⟩
def noDefer (ops : Array Oper) : Bool := ops.all fun o => match o.op with | .defer _ => false | _ => true
theorem noDefer_spec (h : noDefer ops = true) {i : Nat} {o : Oper} (ho : ops[i]? = some o) (c) : o.op ≠ .defer c := by
  intro e
  unfold noDefer at h
  have := Array.all_eq_true'.1 h o (Array.mem_of_getElem? ho)
  rw [e] at this
  cases this
/-- a region all of whose operations are calm, within a round -/
theorem wpIn_region_calm {id : Nat} {Q : Exit → Act → World → Prop} {a : Act} {w : World} {l : List Oper} (hm : P.follows .mixedOrders = true) (hB : (orderedB .any l.toArray && noDefer l.toArray) = true)
    (h : wpCalm P l.toArray w (fun _ => false) (fun a' => ∀ w', Below w.heap.size w w' → Q .normal a' w') 0 l a) : (Code.region id l.toArray true).wpIn (Fence.wide.inRound lp) n P Q a w := by
  rw [Bool.and_eq_true] at hB
  have H := ordered_of hB.1
  obtain ⟨V, _, hval, hQ⟩ := wpCalm_values a l 0 (fun _ => undef) (fun j => by simp) h
  refine wpIn_region_any hm ?_
  refine wpAnyIn_inv (fun listed a' w' => a' = frameOf l.toArray V (fun k => listed.getD k false) a l.toArray.size ∧ Below w.heap.size w w') ?_ ?_ _ _ _ _ (left_le _ _) Shut.none ⟨?_, (Below.refl _ _).drew⟩
  · rintro listed a' w' i hs ⟨rfl, hb⟩ hr
    obtain ⟨hun, oi, hoi, _⟩ := mem_ready.1 hr
    have hi : i < l.toArray.size := (Array.getElem?_eq_some_iff.1 hoi).1
    refine CalmAt.wpOpIn hoi (noDefer_spec hB.2 hoi) (fun cs b => Region.noSelect_spec H.sel i oi cs b hoi) (hval i oi (Nat.zero_le _) (by simpa using hi) hoi rfl) hb (H.sees hs hoi hr (fun k hk hk2 d hd => ?_) (fun _ _ => rfl)) (fun w'' hb' => ⟨?_, bTrans hb hb'⟩)
    · simp at hk2
    · have e1 : dstOf l.toArray i = oi.dst := by simp [dstOf, hoi]
      rw [H.frame_put hs hi hun, e1]
  · rintro listed a' w' hs ⟨rfl, hb⟩ hr
    have hA := H.all hs hr
    have := hQ w' hb
    have hsz' : l.toArray.size = 0 + l.length := by simp
    rw [← hsz'] at this
    rw [frameOf_congr (M := fun k => !(fun _ => false) k) (V' := V) _ (fun j hj => ⟨by rw [hA j hj]; rfl, fun _ => rfl⟩)]
    exact this
  · refine (frameOf_none (fun k => ?_) _).symm
    rcases Nat.lt_or_ge k l.length with h' | h' <;> simp [h']
end
end Go.Proofs.YtjpfdhhiofjpbaaGreatDoor
/- The walk of alike of the package quarrels. Condition: a valid town, worlds of it. -/
namespace Go.Proofs.YtjpfdhhiofjpbaaGreatDoor
open Go.RowKit Go.Sort Go.Shelf
attribute [local go_sem] Oper.semAt_some
theorem keeps_below {B : Nat} {W W' : World} (h : Below W.heap.size W W') : KeepsFrom B W W' := ⟨h.size, fun k _ _ hk _ => (h.block k (Array.getElem?_eq_some_iff.1 hk).1).trans hk⟩
theorem below_put {base : Nat} {w W : World} {D : Nat} (h : Below base w W) (hb : base ≤ W.heap.size) (hD : base ≤ D) (o : Obj) : Below base w (W.putObj D o) :=
  h.grown (grownBy_putObj' W D o) hb (fun k e => by injection e with e; omega)
end Go.Proofs.YtjpfdhhiofjpbaaGreatDoor
/- Walks of slices.AppendSeq and slices.Collect at the iterator tests. Condition: at most 4 wells. -/
namespace Go.Proofs.YtjpfdhhiofjpbaaGreatDoor
open Go.RowKit Go.Sort Go.Shelf
attribute [local go_sem] Oper.semAt_some
theorem wpListIn_snocE {α : Type} {E : Elem α} (g : E.Good) {F : Fence} {n : Nat} (w : World) {ops : Array Oper} {rest : List Oper} {o : Oper} {a : Act} {Q : Exit → Act → World → Prop} (hg : o.guard = none) (s x : Operand) (hop : o.op = Op.call { callee := Callee.builtin Builtin.append, args := #[s, x], argTypes := #[E.sl, E.sl] })
    (base : Nat) (v : Value) (l : List α) (y : α) (hs : a.eval s = v) (hown : OwnE E w base v l) (b : Nat) (hx : a.eval x = .slice (some ⟨b, 0, none⟩) 1 1) (hc : ∀ i u, (E.enc y)[i]? = some u → w.cell? ⟨b, i, none⟩ = some u) (hlen : l.length ≤ 100000) (hbase : base ≤ w.heap.size)
    (h : ∀ v' w', OwnE E w' base v' (l ++ [y]) → (∀ b0 W, b0 ≤ base → Below b0 W w → Below b0 W w') → w.grownBy w' v.ownBlock → wpListIn F n Tryz.prog ops Q rest (a.put o.dst v') w') : wpListIn F n Tryz.prog ops Q (o :: rest) a w := by
  obtain ⟨i0, hi, iz0, iz1, iz2⟩ := info_parts g.info
  refine wpListIn_append_own w hg s x E.sl hop base E.ty i0 E.z E.size E.bytes g.und hi iz0 iz1 iz2 g.zs g.pos v l.length (E.cells l) hs hown ⟨b, 0, none⟩ 1 1 (E.enc y) hx (by rw [g.len, Nat.one_mul]) (fun j u hj => ?_) (fun u hu => g.one y u hu) (by unfold maxLen; omega) (by have := g.by_; exact Nat.le_trans (Nat.mul_le_mul (show l.length + 1 ≤ 100001 by omega) this) (by decide)) hbase fun v' w' h1 h2 h3 => ?_
  · have := hc j u hj
    rwa [show (⟨b, 0, none⟩ : Addr).add j = ⟨b, j, none⟩ from by unfold Addr.add; split <;> simp_all]
  · refine h v' w' ?_ (fun b0 W hb hB => hB.grown h2 (Nat.le_trans hb hbase) fun k hk => Nat.le_trans hb (hown.lt k hk).1) h2
    show w'.ownsRow base E.ty E.size v' (l ++ [y]).length (E.cells (l ++ [y]))
    rw [List.length_append, show E.cells (l ++ [y]) = E.cells l ++ E.enc y from by simp [Elem.cells]]
    exact h1
theorem OwnE.set {α : Type} {E : Elem α} {w : World} {base : Nat} {v : Value} {l : List α} (h : OwnE E w base v l) {b : Nat} (hb : b < base) (o : Nat) (u : Value) : OwnE E (w.setCell ⟨b, o, none⟩ u) base v l :=
  ⟨h.1, h.2.imp id fun ⟨g, cap, cur, h1, h2, h3, h4⟩ => ⟨g, cap, cur, h1, h2, (Below.heap_setCell w ⟨b, o, none⟩ u g (by show g ≠ b; omega)).trans h3, h4⟩⟩
end Go.Proofs.YtjpfdhhiofjpbaaGreatDoor
/- Worlds that are alike, fewer worlds: what becomes of how many tests are enough, and of the fewest. Plain Lean. -/
namespace Go.Proofs.YtjpfdhhiofjpbaaGreatDoor
open Go.RowKit Go.Sort
/-- each world of some is alike to one of others, maybe in another town -/
def Cov (t t' : Qt) (L L' : List Int) : Prop := ∀ a, a ∈ L → ∃ b, b ∈ L' ∧ ∀ x, x ∈ t.tests → t.F a x = t'.F b x
theorem Cov.refl (t : Qt) (L : List Int) : Cov t t L L := fun a ha => ⟨a, ha, fun _ _ => rfl⟩
theorem tests_eq {t t' : Qt} (h : t.wells = t'.wells) : t.tests = t'.tests := by unfold Qt.tests; rw [h]
theorem Cov.shown {t t' : Qt} {L L' : List Int} (h : Cov t t' L L') {x : Tp} (hx : x ∈ t.tests) (f : Int) : Cov t t' (t.shown x L f) (t'.shown x L' f) := fun a ha => by
  obtain ⟨h1, h2⟩ := List.mem_filter.1 ha
  obtain ⟨b, hb, e⟩ := h a h1
  exact ⟨b, List.mem_filter.2 ⟨hb, by rw [← e x hx]; exact h2⟩, e⟩
theorem Cov.apart {t t' : Qt} {L L' : List Int} (h : Cov t t' L L') (hw : t.wells = t'.wells) {l : List Tp} (hl : ∀ x, x ∈ l → x ∈ t.tests) (ha : t'.allApart l L' = true) : t.allApart l L = true := by
  refine allApart_iff.2 fun a h1 b h2 hs => ?_
  obtain ⟨a', ha', ea⟩ := h a h1
  obtain ⟨b', hb', eb⟩ := h b h2
  have e : ∀ {m : List Tp}, (∀ x, x ∈ m → x ∈ t.tests) → (t.someB m a b = true ↔ t'.someB m a' b' = true) := fun {m} hm => by
    rw [someB_iff, someB_iff]
    exact ⟨fun ⟨x, hx, hn⟩ => ⟨x, hx, by rw [← ea x (hm x hx), ← eb x (hm x hx)]; exact hn⟩, fun ⟨x, hx, hn⟩ => ⟨x, hx, by rw [ea x (hm x hx), eb x (hm x hx)]; exact hn⟩⟩
  have h3 := (e (m := t.tests) fun x hx => hx).1 hs
  rw [tests_eq hw] at h3
  exact (e hl).2 (allApart_iff.1 ha a' ha' b' hb' h3)
/-- the fewest tests that tell all apart -/
def Qt.fewest (t : Qt) (L : List Int) : List Tp := fewestL t.tests fun l => t.allApart l L
/-! ### Next -/
/-- the first test with which one can begin -/
def Qt.next (t : Qt) (L : List Int) : Option Tp := if 0 < t.depth L then t.tests.find? fun x => decide (t.behind x L < t.depth L) else none
end Go.Proofs.YtjpfdhhiofjpbaaGreatDoor
/- The walk of Fewest of the package quarrels. Conditions: lengths are Go's; the listed table holds what it holds. -/
namespace Go.Proofs.YtjpfdhhiofjpbaaGreatDoor
open Go.RowKit Go.Sort Go.Shelf
/-- a list of tests, or an error -/
def LstOut (w : World) (er : Int) (L : List Tp) (e : Ending) : Prop := (er = 0 → ∃ A c, e = .returned (.tuple #[.slice A L.length c, .int .i64 er]) ∧ LstAt w A c L) ∧ (er ≠ 0 → e = .returned (.tuple #[.slice none 0 0, .int .i64 er]))
def FewR (bz : Bool) (L : List Tp) (w : World) (v : Value) : Prop := ∀ A n c, v = .tuple #[.slice A n c, .bool bz] → bz = true → LstAt w A c L
def SliR (bz : Bool) (L : List Tp) (w : World) (v : Value) : Prop := ∀ A n c, v = .slice A n c → bz = true → LstAt w A c L
theorem FewR.get {bz : Bool} {L : List Tp} {w : World} {A : Option Addr} {n c : Nat} (h : FewR bz L w (.tuple #[.slice A n c, .bool bz])) : bz = true → LstAt w A c L := h A n c rfl
theorem SliR.get {bz : Bool} {L : List Tp} {w : World} {A : Option Addr} {n c : Nat} (h : SliR bz L w (.slice A n c)) : bz = true → LstAt w A c L := h A n c rfl
end Go.Proofs.YtjpfdhhiofjpbaaGreatDoor
/- Walks of slices.IndexFunc and slices.DeleteFunc where just one element is hit. Condition: just one is. -/
namespace Go.Proofs.YtjpfdhhiofjpbaaGreatDoor
open Go.RowKit Go.Sort Go.Shelf
/-- a block of tests -/
structure RowV (w : World) (g n : Nat) (v : Nat → Tp) : Prop where
  lt : g < w.heap.size
  cell : ∀ r, r < n → w.cell? ⟨g, r * 2, none⟩ = some (.int .i64 (v r).1) ∧ w.cell? ⟨g, r * 2 + 1, none⟩ = some (.int .i64 (v r).2)
  frz : ∀ o, w.frozen? ⟨g, o, none⟩ = false
theorem RowV.mono {w w' : World} {g n : Nat} {v : Nat → Tp} (h : RowV w g n v) (hb : Below w.heap.size w w') : RowV w' g n v :=
  ⟨Nat.lt_of_lt_of_le h.lt hb.size, fun r hr => ⟨(hb.cell (p := ⟨g, r * 2, none⟩) h.lt).trans (h.cell r hr).1, (hb.cell (p := ⟨g, r * 2 + 1, none⟩) h.lt).trans (h.cell r hr).2⟩, fun o => (hb.frozen (p := ⟨g, o, none⟩) h.lt).trans (h.frz o)⟩
theorem RowV.put {w : World} {g n : Nat} {v v' : Nat → Tp} (h : RowV w g n v) {d : Nat} (hd : d < n) {x : Tp} (h1 : v' d = x) (h2 : ∀ r, r ≠ d → v' r = v r) : RowV ((w.setCell ⟨g, d * 2, none⟩ (.int .i64 x.1)).setCell ⟨g, d * 2 + 1, none⟩ (.int .i64 x.2)) g n v' := by
  obtain ⟨c0, c1⟩ := h.cell d hd
  have o : ∀ (w : World) (i j : Nat) (u : Value), i ≠ j → (w.setCell ⟨g, j, none⟩ u).cell? ⟨g, i, none⟩ = w.cell? ⟨g, i, none⟩ := fun w i j u hij => World.cell?_setCell_other _ _ _ _ (fun e => by injection e with _ e; exact hij e.symm)
  refine ⟨by simpa [World.setCell] using h.lt, fun r hr => ?_, fun o => by rw [World.frozen?_setCell, World.frozen?_setCell]; exact h.frz o⟩
  by_cases e : r = d
  · subst e
    rw [h1]
    refine ⟨?_, ?_⟩
    · rw [o _ _ _ _ (by omega)]
      exact World.cell?_setCell_same _ _ _ c0
    · exact World.cell?_setCell_same _ _ _ ((o _ _ _ _ (by omega)).trans c1)
  · rw [h2 r e]
    obtain ⟨e0, e1⟩ := h.cell r hr
    exact ⟨by rw [o _ _ _ _ (by omega), o _ _ _ _ (by omega)]; exact e0, by rw [o _ _ _ _ (by omega), o _ _ _ _ (by omega)]; exact e1⟩
theorem cells_inv {l : List Tp} {j : Nat} {u : Value} (h : (tstE.cells l)[j]? = some u) : ∃ r, r < l.length ∧ ((j = r * 2 ∧ u = .int .i64 (tget l r).1) ∨ (j = r * 2 + 1 ∧ u = .int .i64 (tget l r).2)) := by
  have hlen := Elem.cells_len tstG l
  have hj : j < (tstE.cells l).length := by
    rcases Nat.lt_or_ge j (tstE.cells l).length with h' | h'
    · exact h'
    · rw [List.getElem?_eq_none h'] at h; cases h
  rw [hlen] at hj
  have hj2 : j < l.length * 2 := hj
  refine ⟨j / 2, by omega, ?_⟩
  have hr : j / 2 < l.length := by omega
  rcases Nat.mod_two_eq_zero_or_one j with h2 | h2
  · have e : j = j / 2 * 2 := by omega
    have := Elem.cells_get tstG (l := l) (j := j / 2) 0 (tget_some hr) (by decide)
    rw [show j / 2 * tstE.size + 0 = j by show j / 2 * 2 + 0 = j; omega, h] at this
    exact .inl ⟨e, Option.some.inj this⟩
  · have e : j = j / 2 * 2 + 1 := by omega
    have := Elem.cells_get tstG (l := l) (j := j / 2) 1 (tget_some hr) (by decide)
    rw [show j / 2 * tstE.size + 1 = j by show j / 2 * 2 + 1 = j; omega, h] at this
    exact .inr ⟨e, Option.some.inj this⟩
theorem RowV.row {w : World} {g n : Nat} {v : Nat → Tp} {l : List Tp} (h : RowV w g n v) (hl : l.length ≤ n) (he : ∀ r, r < l.length → tget l r = v r) : RowAt w (some ⟨g, 0, none⟩) (tstE.cells l) := by
  refine .inr ⟨g, 0, rfl, h.lt, fun j u hj => ?_⟩
  obtain ⟨r, hr, ⟨rfl, rfl⟩ | ⟨rfl, rfl⟩⟩ := cells_inv hj
  · rw [Nat.zero_add, he r hr]; exact (h.cell r (by omega)).1
  · rw [Nat.zero_add, he r hr]; exact (h.cell r (by omega)).2
end Go.Proofs.YtjpfdhhiofjpbaaGreatDoor
/- Struct values compared; the walks of Decide's closures of the package quarrels. Conditions: a valid town, worlds and tests of it. -/
namespace Go.Proofs.YtjpfdhhiofjpbaaGreatDoor
open Go.RowKit Go.Sort Go.Shelf
/-- whether two pairs of numbers are equal (a Bool that the walk does not open) -/
def sameT (a b a' b' : Int) : Bool := decide (a = a' ∧ b = b')
theorem eqlT (w : World) (a b a' b' : Int) : (binOp .eql 79 (.agg #[.int .i64 a, .int .i64 b]) (.agg #[.int .i64 a', .int .i64 b'])).run Tryz.prog w = .ok (.bool (sameT a b a' b')) w := by
  by_cases h1 : a = a'
  · by_cases h2 : b = b'
    · subst h1 h2; simp [go_sem, sameT]
    · have : ¬ b = b' := h2
      simp [go_sem, sameT, h2, this]
  · have : ¬ a = a' := h1
    simp [go_sem, sameT, h1, this]
theorem neqT (w : World) (a b a' b' : Int) : (binOp .neq 79 (.agg #[.int .i64 a, .int .i64 b]) (.agg #[.int .i64 a', .int .i64 b'])).run Tryz.prog w = .ok (.bool (!sameT a b a' b')) w := by
  by_cases h1 : a = a'
  · by_cases h2 : b = b'
    · subst h1 h2; simp [go_sem, sameT]
    · have : ¬ b = b' := h2
      simp [go_sem, sameT, h2, this]
  · have : ¬ a = a' := h1
    simp [go_sem, sameT, h1, this]
attribute [go_sem ↓] eqlT neqT
end Go.Proofs.YtjpfdhhiofjpbaaGreatDoor
/- Walks of the law 05: SameTests. Conditions: lengths are Go's. -/
namespace Go.Proofs.YtjpfdhhiofjpbaaGreatDoor
open Go.RowKit Go.Sort
end Go.Proofs.YtjpfdhhiofjpbaaGreatDoor
/- Walks of the reference 05: Tests. Condition: at most 4 wells. -/
namespace Go.Proofs.YtjpfdhhiofjpbaaGreatDoor
open Go.RowKit Go.Sort
end Go.Proofs.YtjpfdhhiofjpbaaGreatDoor
/- Walks of the reference 05: Apart. Conditions: a valid town, a test and worlds of it. -/
namespace Go.Proofs.YtjpfdhhiofjpbaaGreatDoor
open Go.RowKit Go.Sort
end Go.Proofs.YtjpfdhhiofjpbaaGreatDoor
/- Walks of the reference 05: some. Conditions: a valid town, tests and worlds of it. -/
namespace Go.Proofs.YtjpfdhhiofjpbaaGreatDoor
open Go.RowKit Go.Sort
end Go.Proofs.YtjpfdhhiofjpbaaGreatDoor
/- Walks of the reference 05: Shown. Conditions: a valid town, a test and worlds of it. -/
namespace Go.Proofs.YtjpfdhhiofjpbaaGreatDoor
open Go.RowKit Go.Sort
end Go.Proofs.YtjpfdhhiofjpbaaGreatDoor
/- Walks of the reference 05: AllApart. Conditions: a valid town, tests and worlds of it. -/
namespace Go.Proofs.YtjpfdhhiofjpbaaGreatDoor
open Go.RowKit Go.Sort
end Go.Proofs.YtjpfdhhiofjpbaaGreatDoor
/- Walks of the reference 05: Between. Conditions: lengths are Go's. -/
namespace Go.Proofs.YtjpfdhhiofjpbaaGreatDoor
open Go.RowKit Go.Sort
end Go.Proofs.YtjpfdhhiofjpbaaGreatDoor
/- Walks of the reference 05: Total. Conditions: lengths are Go's. -/
namespace Go.Proofs.YtjpfdhhiofjpbaaGreatDoor
open Go.RowKit Go.Sort
end Go.Proofs.YtjpfdhhiofjpbaaGreatDoor
/- Memory that is kept by the types of its blocks; own boxes; copies of worlds and of towns, and how they read. No program in sight but the layout. -/
namespace Go.Proofs.YtjpfdhhiofjpbaaGreatDoor
open Go.RowKit Go.Sort
/-- all blocks of some types are kept -/
def Kept (l : List TypeId) (w w' : World) : Prop := w.heap.size ≤ w'.heap.size ∧ ∀ (b : Nat) (cs : Array Value) (t : TypeId) (fr : Nat × Nat), w.heap[b]? = some (Obj.cells cs t fr) → t ∈ l → w'.heap[b]? = w.heap[b]?
theorem Kept.of_below {l : List TypeId} {w w' : World} (h : Below w.heap.size w w') : Kept l w w' := ⟨h.size, fun b _ _ _ hb _ => h.block b (Array.getElem?_eq_some_iff.1 hb).1⟩
theorem Kept.trans {l : List TypeId} {w w' w'' : World} (h : Kept l w w') (k : Kept l w' w'') : Kept l w w'' :=
  ⟨Nat.le_trans h.1 k.1, fun b cs t fr hb hl => by
    have h1 := h.2 b cs t fr hb hl
    rw [← h1]
    exact k.2 b cs t fr (h1.trans hb) hl⟩
theorem Kept.set {l : List TypeId} {w : World} {b : Nat} {cs : Array Value} {t : TypeId} {fr : Nat × Nat} (hb : w.heap[b]? = some (Obj.cells cs t fr)) (ht : t ∉ l) (o : Nat) (u : Value) : Kept l w (w.setCell ⟨b, o, none⟩ u) :=
  ⟨by simp, fun b' cs' t' fr' hb' hl => Below.heap_setCell w ⟨b, o, none⟩ u b' fun e => by
    subst e
    rw [hb] at hb'
    injection hb' with h1
    injection h1 with _ h1 _
    exact ht (h1 ▸ hl)⟩
/-! ### A box of the call's own, whole -/
def TBox (w : World) (b : Nat) (t : TypeId) (cs : Array Value) : Prop := w.heap[b]? = some (Obj.cells cs t (0, 0))
theorem TBox.new (w : World) (cs : Array Value) (t : TypeId) : TBox (w.alloc (.cells cs t)) w.heap.size t cs := heap_alloc_new _ _
theorem TBox.lt {w : World} {b : Nat} {t : TypeId} {cs : Array Value} (h : TBox w b t cs) : b < w.heap.size := (Array.getElem?_eq_some_iff.1 h).1
theorem TBox.cell {w : World} {b : Nat} {t : TypeId} {cs : Array Value} (h : TBox w b t cs) (i : Nat) : w.cell? ⟨b, i, none⟩ = cs[i]? := cell_of_row w b i _ _ _ h
theorem TBox.frozen {w : World} {b : Nat} {t : TypeId} {cs : Array Value} (h : TBox w b t cs) (i : Nat) : w.frozen? ⟨b, i, none⟩ = false := by
  unfold World.frozen?
  simp only [show w.heap[b]? = some (Obj.cells cs t (0, 0)) from h]
  simp
theorem TBox.mono {w w' : World} {b : Nat} {t : TypeId} {cs : Array Value} (h : TBox w b t cs) (hb : Below w.heap.size w w') : TBox w' b t cs := (hb.block b h.lt).trans h
theorem TBox.kept {l : List TypeId} {w w' : World} {b : Nat} {t : TypeId} {cs : Array Value} (h : TBox w b t cs) (hk : Kept l w w') (ht : t ∈ l) : TBox w' b t cs := (hk.2 b cs t _ h ht).trans h
theorem TBox.grown {w w' : World} {b : Nat} {t : TypeId} {cs : Array Value} {row : Option Nat} (h : TBox w b t cs) (hg : w.grownBy w' row) (hne : some b ≠ row) : TBox w' b t cs := (hg.block b h.lt hne).trans h
theorem TBox.set {w : World} {b : Nat} {t : TypeId} {cs : Array Value} (h : TBox w b t cs) (o : Nat) (u : Value) : TBox (w.setCell ⟨b, o, none⟩ u) b t (cs.setIfInBounds o u) := by
  unfold TBox at *
  unfold World.setCell
  simp [Array.getElem?_modify, h]
theorem TBox.other {w : World} {b b' : Nat} {t : TypeId} {cs : Array Value} (h : TBox w b t cs) (hne : b' ≠ b) (o : Nat) (u : Value) : TBox (w.setCell ⟨b', o, none⟩ u) b t cs :=
  (Below.heap_setCell w ⟨b', o, none⟩ u b fun e => hne e.symm).trans h
/-! ### Rows that know the type of their block -/
def RowK (w : World) (A : Option Addr) (T : TypeId) (xs : List Value) : Prop := xs = [] ∨ ∃ b o cur fr, A = some ⟨b, o, none⟩ ∧ w.heap[b]? = some (Obj.cells cur T fr) ∧ ∀ j v, xs[j]? = some v → cur[o + j]? = some v
theorem RowK.row {w : World} {A : Option Addr} {T : TypeId} {xs : List Value} (h : RowK w A T xs) : RowAt w A xs :=
  h.imp id fun ⟨b, o, cur, fr, h1, h2, h3⟩ => ⟨b, o, h1, (Array.getElem?_eq_some_iff.1 h2).1, fun j v hj => (cell_of_row w b _ _ _ _ h2).trans (h3 j v hj)⟩
theorem RowK.kept {l : List TypeId} {w w' : World} {A : Option Addr} {T : TypeId} {xs : List Value} (h : RowK w A T xs) (hk : Kept l w w') (ht : T ∈ l) : RowK w' A T xs :=
  h.imp id fun ⟨b, o, cur, fr, h1, h2, h3⟩ => ⟨b, o, cur, fr, h1, (hk.2 b cur T fr h2 ht).trans h2, h3⟩
theorem RowK.mono {w w' : World} {A : Option Addr} {T : TypeId} {xs : List Value} (h : RowK w A T xs) (hb : Below w.heap.size w w') : RowK w' A T xs := h.kept (Kept.of_below (l := [T]) hb) (by simp)
theorem RowK.own {w : World} {base : Nat} {T : TypeId} {size n : Nat} {v : Value} {xs : List Value} (h : w.ownsRow base T size v n xs) : ∃ A c, v = .slice A n c ∧ RowK w A T xs := by
  rcases h.2 with ⟨rfl, rfl⟩ | ⟨g, cap, cur, rfl, _, h3, _, _, _, h6⟩
  · exact ⟨none, 0, rfl, .inl (List.eq_nil_of_length_eq_zero (by rw [h.1, Nat.zero_mul]))⟩
  · refine ⟨_, cap, rfl, .inr ⟨g, 0, cur, _, rfl, h3, fun j u hj => ?_⟩⟩
    rw [← h6, List.getElem?_take] at hj
    split at hj
    · rw [Nat.zero_add]
      simpa using hj
    · cases hj
/-! ### Worlds and towns that have been copied -/
/-- the rows of the first k wells of a world -/
def WdRows (w : World) (x : Wd) (k : Nat) (vs : List Value) : Prop := vs.length = k ∧ ∀ j u, vs[j]? = some u → ∃ A c, u = .slice A (x.len j) c ∧ RowK w A 3 (intL (x.fall j) (x.len j)) ∧ x.len j ≤ 9223372036854775807
theorem WdRows.kept {l : List TypeId} {w w' : World} {x : Wd} {k : Nat} {vs : List Value} (h : WdRows w x k vs) (hk : Kept l w w') (ht : 3 ∈ l) : WdRows w' x k vs :=
  ⟨h.1, fun j u hj => by
    obtain ⟨A, c, h1, h2, h3⟩ := h.2 j u hj
    exact ⟨A, c, h1, h2.kept hk ht, h3⟩⟩
/-- a world, as a value: its rows -/
def WdK (w : World) (v : Value) (x : Wd) : Prop := ∃ A c vs, v = .slice A x.n c ∧ RowK w A 26 vs ∧ WdRows w x x.n vs
theorem WdK.kept {l : List TypeId} {w w' : World} {v : Value} {x : Wd} (h : WdK w v x) (hk : Kept l w w') (h1 : 3 ∈ l) (h2 : 26 ∈ l) : WdK w' v x := by
  obtain ⟨A, c, vs, e, hr, hv⟩ := h
  exact ⟨A, c, vs, e, hr.kept hk h2, hv.kept hk h1⟩
theorem WdK.mono {w w' : World} {v : Value} {x : Wd} (h : WdK w v x) (hb : Below w.heap.size w w') : WdK w' v x := h.kept (Kept.of_below (l := [3, 26]) hb) (by simp) (by simp)
/-- the first n worlds, as values -/
def WsRows (w : World) (f : Nat → Wd) (n : Nat) (us : List Value) : Prop := us.length = n ∧ ∀ i u, us[i]? = some u → WdK w u (f i) ∧ (f i).n ≤ 9223372036854775807
theorem WsRows.kept {l : List TypeId} {w w' : World} {f : Nat → Wd} {n : Nat} {us : List Value} (h : WsRows w f n us) (hk : Kept l w w') (h1 : 3 ∈ l) (h2 : 26 ∈ l) : WsRows w' f n us :=
  ⟨h.1, fun i u hi => ⟨(h.2 i u hi).1.kept hk h1 h2, (h.2 i u hi).2⟩⟩
theorem WsRows.mono {w w' : World} {f : Nat → Wd} {n : Nat} {us : List Value} (h : WsRows w f n us) (hb : Below w.heap.size w w') : WsRows w' f n us := h.kept (Kept.of_below (l := [3, 26]) hb) (by simp) (by simp)
theorem WsRows.congr {w : World} {f g : Nat → Wd} {n : Nat} {us : List Value} (h : WsRows w f n us) (e : ∀ i, i < n → f i = g i) : WsRows w g n us :=
  ⟨h.1, fun i u hi => by
    have := (List.getElem?_eq_some_iff.1 hi).1
    rw [← e i (by rw [← h.1]; exact this)]
    exact h.2 i u hi⟩
/-- the cells of facts -/
def factL (f : Nat → Fact) : Nat → List Value := catL fun i => [.int .i64 (f i).from_, .int .i64 (f i).many, .int .i64 (f i).to_, .int .i64 (f i).low, .int .i64 (f i).high]
/-- a town of the call's own -/
structure CopyAt (w : World) (base : Nat) (vW vF : Value) (t : Qt) : Prop where
  worlds : ∃ us, w.ownsRow base 128 1 vW t.nw us ∧ WsRows w t.world t.nw us
  facts : w.ownsRow base 64 5 vF t.nf (factL t.fact t.nf)
theorem CopyAt.mono {w w' : World} {base : Nat} {vW vF : Value} {t : Qt} (h : CopyAt w base vW vF t) (hb : Below w.heap.size w w') : CopyAt w' base vW vF t := by
  obtain ⟨⟨us, h1, h2⟩, h3⟩ := h
  exact ⟨⟨us, owns_below h1 hb, h2.mono hb⟩, owns_below h3 hb⟩
theorem CopyAt.lower {w : World} {base base' : Nat} {vW vF : Value} {t : Qt} (h : CopyAt w base vW vF t) (hb : base' ≤ base) : CopyAt w base' vW vF t := by
  obtain ⟨⟨us, h1, h2⟩, h3⟩ := h
  exact ⟨⟨us, owns_lower h1 hb, h2⟩, owns_lower h3 hb⟩
end Go.Proofs.YtjpfdhhiofjpbaaGreatDoor
/- Walks of the reference 05: CopyWorld. Conditions: what is read fits into memory. -/
namespace Go.Proofs.YtjpfdhhiofjpbaaGreatDoor
open Go.RowKit Go.Sort
/-- what fits into memory -/
def Wd.Fits (x : Wd) : Prop := x.n * 24 ≤ 140737488351232 ∧ ∀ k, k < x.n → x.len k * 8 ≤ 140737488351232
def Qt.Fits (t : Qt) : Prop := t.nw * 24 ≤ 140737488351232 ∧ t.nf * 40 ≤ 140737488351232 ∧ ∀ i, i < t.nw → (t.world i).Fits
theorem Qt.Fits.small {t : Qt} (h : t.Fits) : t.Small :=
  ⟨by have := h.1; omega, by have := h.2.1; omega, fun i hi k hk => by have := (h.2.2 i hi).2 k hk; omega⟩
end Go.Proofs.YtjpfdhhiofjpbaaGreatDoor
