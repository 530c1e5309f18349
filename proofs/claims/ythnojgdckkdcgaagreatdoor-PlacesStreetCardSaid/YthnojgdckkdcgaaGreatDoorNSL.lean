/- Parts joined: what all claims of this seat need. -/
import Derived.Test.YthnojgdckkdcgaaGreatDoorNSF
import Derived.Test.YthnojgdckkdcgaaGreatDoorNSI
import Derived.Test.YthnojgdckkdcgaaGreatDoorNSD
import Derived.Test.YthnojgdckkdcgaaGreatDoorNSE
import Derived.Test.YthnojgdckkdcgaaGreatDoorNSJ
import Derived.Test.YthnojgdckkdcgaaGreatDoorNSC
import Derived.Test.YthnojgdckkdcgaaGreatDoorNSK
set_option linter.unusedSimpArgs false
set_option linter.unusedVariables false
namespace Go.Proofs.YthnojgdckkdcgaaGreatDoor
open Go.RowKit Go.Sort
/-- how far two places are apart -/
def dst (a b : Int) : Int := max (a - b) (b - a)
/-- whether an old well forbids a spot in a world -/
def Pt.forb (t : Pt) (s w : Nat) (a : Int) : Bool := decide (dst (t.old w) (t.spot s).at_ < t.far) || decide (t.harm < (t.spot s).fl.fall a.toNat w * t.many)
/-- in how many of the first k worlds that are left -/
def Pt.inTo (t : Pt) (s w k : Nat) : Nat := cntB (fun i => t.forb s w (intL0 t.q.leftL i)) k
def Pt.inN (t : Pt) (s w : Nat) : Nat := t.inTo s w t.q.leftL.length
def Pt.whoB (t : Pt) (s w : Nat) : Bool := decide (0 < t.inN s w)
def Pt.m (t : Pt) : Nat := t.q.wells.toNat
/-- the old wells that forbid a spot in some world -/
def Pt.who (t : Pt) (s : Nat) : List Int := selTo (t.whoB s) t.m
def Pt.whoAny (t : Pt) (s : Nat) : Bool := anyB (t.whoB s) t.m
noncomputable def Pt.cheap (t : Pt) (s : Nat) : Int × Int := (t.spot s).sh.cheapOut
noncomputable def Pt.canB (t : Pt) (s : Nat) : Bool := decide ((t.cheap s).2 = 0)
noncomputable def Pt.freeB (t : Pt) (s : Nat) : Bool := t.canB s && !t.whoAny s
noncomputable def Pt.frees (t : Pt) : List Int := selTo t.freeB t.ns
/-- what the first k wells that forbid a spot ask -/
def Pt.askedTo (t : Pt) (s k : Nat) : Int := sumTo (fun w => if t.whoB s w then t.pence w else 0) k
noncomputable def Pt.whole (t : Pt) (s : Nat) : Int := (t.cheap s).1 + t.askedTo s t.m
/-- the first of the first n with p at which f is least -/
def minBy (f : Nat → Int) (p : Nat → Bool) : Nat → Option Nat
  | 0 => none
  | n + 1 => if p n && (match minBy f p n with | none => true | some b => decide (f n < f b)) then some n else minBy f p n
noncomputable def Pt.best (t : Pt) : Option Nat := minBy (fun s => (t.cheap s).1) t.freeB t.ns
noncomputable def Pt.cheapest (t : Pt) : Option Nat := minBy t.whole t.canB t.ns
/-- the distance of the nearest of the first k old wells, from 99 on -/
def Pt.nearTo (t : Pt) (s : Nat) : Nat → Int
  | 0 => 99
  | k + 1 => min (t.nearTo s k) (dst (t.old k) (t.spot s).at_)
def Pt.harmed (t : Pt) (h : Int) : Pt := { t with harm := h }
noncomputable def Pt.anyFree (t : Pt) : Bool := anyB t.freeB t.ns
noncomputable def Pt.loosen (t : Pt) : Nat := firstFrom (fun h => (t.harmed (h : Int)).anyFree) 100 0
/-- the pair that is cheapest so far, and what it costs -/
structure Pr where
  (one other least : Int)
/-- whether two spots may be a pair -/
noncomputable def Pt.mayB (t : Pt) (a b : Nat) : Bool := t.canB a && t.canB b && decide (a < b) && decide (t.far ≤ dst (t.spot a).at_ (t.spot b).at_)
noncomputable def Pt.pairIn (t : Pt) (a : Nat) : Nat → Pr → Pr
  | 0, x => x
  | b + 1, x => if t.mayB a b && (decide ((t.pairIn a b x).least < 0) || decide (t.whole a + t.whole b < (t.pairIn a b x).least)) then ⟨a, b, t.whole a + t.whole b⟩ else t.pairIn a b x
noncomputable def Pt.pairTo (t : Pt) : Nat → Pr
  | 0 => ⟨0, 0, -1⟩
  | a + 1 => t.pairIn a t.ns (t.pairTo a)
noncomputable def Pt.pair (t : Pt) : Pr := t.pairTo t.ns
/-! ### errors -/
noncomputable def Pt.askErr (t : Pt) (is : Bool) : Int := if t.err = 0 then (if is then 0 else 1) else t.err
noncomputable def Pt.knowErr (t : Pt) (is : Bool) : Int := if t.askErr is = 0 then (if t.q.leftL = [] then 3 else 0) else t.askErr is
def Pt.hasB (t : Pt) (n : Int) : Bool := inR n 0 ((t.ns : Int) - 1)
theorem Pt.askErr_zero {t : Pt} {is : Bool} (h : t.askErr is = 0) : t.Ok ∧ is = true := by
  unfold Pt.askErr at h
  by_cases ok : t.Ok
  · rw [Pt.err_ok ok, if_pos rfl] at h
    cases is
    · simp at h
    · exact ⟨ok, rfl⟩
  · rw [Pt.err_bad ok, if_neg (by decide)] at h
    exact absurd h (by decide)
theorem Pt.askErr_ok {t : Pt} (ok : t.Ok) : t.askErr true = 0 := by unfold Pt.askErr; rw [Pt.err_ok ok, if_pos rfl, if_pos rfl]
theorem Pt.askErr_arg {t : Pt} (ok : t.Ok) : t.askErr false = 1 := by unfold Pt.askErr; rw [Pt.err_ok ok, if_pos rfl, if_neg (by decide)]
theorem Pt.askErr_bad {t : Pt} (h : ¬ t.Ok) (is : Bool) : t.askErr is = 90 := by unfold Pt.askErr; rw [Pt.err_bad h, if_neg (by decide)]
theorem Pt.knowErr_zero {t : Pt} {is : Bool} (h : t.knowErr is = 0) : t.Ok ∧ is = true ∧ t.q.leftL ≠ [] := by
  unfold Pt.knowErr at h
  by_cases h0 : t.askErr is = 0
  · rw [if_pos h0] at h
    obtain ⟨a, b⟩ := Pt.askErr_zero h0
    refine ⟨a, b, fun e => ?_⟩
    rw [if_pos e] at h
    exact absurd h (by decide)
  · rw [if_neg h0] at h
    exact absurd h h0
theorem Pt.knowErr_ok {t : Pt} (ok : t.Ok) (h : t.q.leftL ≠ []) : t.knowErr true = 0 := by unfold Pt.knowErr; rw [Pt.askErr_ok ok, if_pos rfl, if_neg h]
theorem Pt.knowErr_none {t : Pt} (ok : t.Ok) (h : t.q.leftL = []) : t.knowErr true = 3 := by unfold Pt.knowErr; rw [Pt.askErr_ok ok, if_pos rfl, if_pos h]
/-! ### what each function returns -/
noncomputable def Pt.nearOut (t : Pt) (s : Int) : Int × Int := if t.askErr (t.hasB s) = 0 then (if t.no = 0 then (0, 3) else (t.nearTo s.toNat t.no, 0)) else (0, t.askErr (t.hasB s))
noncomputable def Pt.priceOut (t : Pt) (s : Int) : Int × Int := if t.askErr (t.hasB s) = 0 then t.cheap s.toNat else (0, t.askErr (t.hasB s))
def Pt.oldB (t : Pt) (n : Int) : Bool := t.q.wellB n
noncomputable def Pt.forbidsOut (t : Pt) (s w : Int) : Int × Int := if t.knowErr (t.hasB s && t.oldB w) = 0 then (knownK (t.inN s.toNat w.toNat) t.q.leftL.length, 0) else (0, t.knowErr (t.hasB s && t.oldB w))
def optOut : Option Nat → Int × Int
  | none => (0, 3)
  | some b => (b, 0)
noncomputable def Pt.bestOut (t : Pt) : Int × Int := if t.knowErr true = 0 then optOut t.best else (0, t.knowErr true)
noncomputable def Pt.cheapestOut (t : Pt) : Int × Int := if t.knowErr true = 0 then optOut t.cheapest else (0, t.knowErr true)
noncomputable def Pt.loosenOut (t : Pt) : Int × Int := if t.knowErr true = 0 then (if t.loosen < 100 then ((t.loosen : Int), 0) else (0, 3)) else (0, t.knowErr true)
noncomputable def Pt.pairOut (t : Pt) : Int × Int × Int := if t.knowErr true = 0 then (if t.pair.least < 0 then (0, 0, 3) else (t.pair.one, t.pair.other, 0)) else (0, 0, t.knowErr true)
end Go.Proofs.YthnojgdckkdcgaaGreatDoor

namespace Go.Proofs.YthnojgdckkdcgaaGreatDoor
open Go.RowKit Go.Sort
/-! ### One fact more -/
def Qt.add (t : Qt) (f : Fact) : Qt := ⟨t.wells, t.nw, t.world, t.nf + 1, fun i => if i < t.nf then t.fact i else f⟩
/-- what a test has shown, as a fact -/
def shownF (x : Tp) (f : Int) : Fact := ⟨x.1, 1, x.2, f, f⟩
/-! ### One world more -/
/-! ### Another order -/
/-! ### Fewer worlds: spans, and what is known -/
end Go.Proofs.YthnojgdckkdcgaaGreatDoor

namespace Go.Proofs.YthnojgdckkdcgaaGreatDoor
open Go.RowKit Go.Sort Go.Shelf
section
variable {P : Program} {ops : Array Oper} {md : Region.Mode} {n : Nat} {F : Fence} {Cl : World → Prop}
/-- a fence that lets everything by -/
structure Open (F : Fence) (P : Program) : Prop where
  fn : ∀ f, F.fn f
  depth : F.depth.isSome = false
  call : ∀ {n f : Nat} {args : Array Value} {w : World} {R : Ending → World → Prop}, Calls P f args w R → CallsIn F n P f args w R
theorem openRound (P : Program) (l : Nat) : Open (Fence.wide.inRound l) P := ⟨fun _ => trivial, rfl, fun h => CallsIn.inRound l (callsIn_wide.2 h)⟩
def clsUpon (P : Program) (Cl : World → Prop) (w : World) (v : Value) : Result Next → Prop
  | .ok (.value u) w' => Cl w' ∧ u = v
  | .ok .skip w' => Cl w' ∧ v = undef
  | .ok (.enter f args) w' => w' = w ∧ Calls P f args w (fun e w'' => e = .returned v ∧ Cl w'')
  | _ => False
def clsAt (P : Program) (Cl : World → Prop) (o : Oper) (a : Act) (w : World) (v : Value) : Prop := clsUpon P Cl w v ((execOp a.eval o).run P w)
attribute [go_sem] clsAt clsUpon
theorem wpIn_of_cls (hF : Open F P) {o : Oper} {a : Act} {w : World} {v : Value} {K : Act → World → Prop} {Q : Exit → Act → World → Prop} (hdf : ∀ c, o.op ≠ .defer c) (h : clsAt P Cl o a w v) (hK : ∀ w', Cl w' → K (a.put o.dst v) w') : o.wpIn F n P a w K Q := by
  unfold clsAt at h
  unfold Oper.wpIn
  refine ⟨fun f _ => hF.fn f, ?_⟩
  rw [Oper.semAt_eq _ _ _ hdf]
  generalize (execOp a.eval o).run P w = r at *
  cases r with
  | ok n' w' =>
    cases n' <;> simp only [clsUpon] at h <;> simp only [Oper.uponIn]
    case value u =>
      obtain ⟨e1, e2⟩ := h
      rw [e2]
      exact hK _ e1
    case skip =>
      obtain ⟨e1, e2⟩ := h
      rw [← e2]
      exact hK _ e1
    case enter f args =>
      obtain ⟨e1, hc⟩ := h
      rw [e1]
      exact ⟨(fun h => by rw [hF.depth] at h; cases h), (hF.call hc).mono fun e w'' ⟨he, hw''⟩ => by subst he; exact hK _ hw''⟩
  | halt x w' => simp only [clsUpon] at h
end
end Go.Proofs.YthnojgdckkdcgaaGreatDoor

namespace Go.Proofs.YthnojgdckkdcgaaGreatDoor
open Go.RowKit Go.Sort Go.Shelf
end Go.Proofs.YthnojgdckkdcgaaGreatDoor

namespace Go.Proofs.YthnojgdckkdcgaaGreatDoor
open Go.RowKit Go.Sort Go.Shelf
end Go.Proofs.YthnojgdckkdcgaaGreatDoor

namespace Go.Proofs.YthnojgdckkdcgaaGreatDoor
open Go.RowKit Go.Sort Go.Shelf
attribute [local go_sem] Oper.semAt_some
end Go.Proofs.YthnojgdckkdcgaaGreatDoor

namespace Go.Proofs.YthnojgdckkdcgaaGreatDoor
open Go.RowKit Go.Sort Go.Shelf
section
variable {P : Program} {ops : Array Oper} {md : Region.Mode} {F : Fence} {k : Nat}
theorem wpIn_of_stir (hF : Open F P) {o : Oper} {a : Act} {w : World} {S : World → World → Prop} {r : World → Value → Prop} {K : Act → World → Prop} {Q : Exit → Act → World → Prop} (hdf : ∀ c, o.op ≠ .defer c) (h : Oper.stirAt P o a w S r) (hK : ∀ v w', S w w' → r w' v → K (a.put o.dst v) w') : o.wpIn F k P a w K Q := by
  unfold Oper.stirAt at h
  unfold Oper.wpIn
  refine ⟨fun f _ => hF.fn f, ?_⟩
  rw [Oper.semAt_eq _ _ _ hdf]
  generalize (execOp a.eval o).run P w = x at *
  cases x with
  | ok n' w' =>
    cases n' <;> simp only [Oper.stirUpon] at h <;> simp only [Oper.uponIn]
    case value u => exact hK _ _ h.1 h.2
    case skip =>
      obtain ⟨e1, e3, e2⟩ := h
      rw [e1]
      exact hK _ _ e3 e2
    case enter f args =>
      obtain ⟨e1, hc⟩ := h
      rw [e1]
      exact ⟨(fun h => by rw [hF.depth] at h; cases h), (hF.call hc).mono fun e w'' ⟨v, he, hw'', hr⟩ => by subst he; exact hK _ _ hw'' hr⟩
  | halt x w' => simp only [Oper.stirUpon] at h
end
end Go.Proofs.YthnojgdckkdcgaaGreatDoor

namespace Go.Proofs.YthnojgdckkdcgaaGreatDoor
open Go.RowKit Go.Sort Go.Shelf
end Go.Proofs.YthnojgdckkdcgaaGreatDoor

namespace Go.Proofs.YthnojgdckkdcgaaGreatDoor
open Go.RowKit Go.Sort Go.Shelf
section
variable {P : Program} {ops : Array Oper} {md : Region.Mode} {n : Nat} {F : Fence} {Cl : Option Nat → World → Prop} {val : Nat → Value}
end
end Go.Proofs.YthnojgdckkdcgaaGreatDoor

namespace Go.Proofs.YthnojgdckkdcgaaGreatDoor
open Go.RowKit Go.Sort Go.Shelf
attribute [local go_sem] Oper.semAt_some
section
variable {P : Program} {ops : Array Oper} {Cl : World → Prop}
end
end Go.Proofs.YthnojgdckkdcgaaGreatDoor

namespace Go.Proofs.YthnojgdckkdcgaaGreatDoor
open Go.RowKit Go.Sort Go.Shelf
end Go.Proofs.YthnojgdckkdcgaaGreatDoor

namespace Go.Proofs.YthnojgdckkdcgaaGreatDoor
open Go.RowKit Go.Sort
/-! ### Tests in order -/
/-! ### The fewest tests -/
/-! ### The next test -/
/-! ### The tests that decide -/
/-- with what some tests show in a world, as facts -/
def Qt.addAll (t : Qt) (a : Int) (l : List Tp) : Qt := l.foldl (fun s x => s.add (shownF x (t.F a x))) t
end Go.Proofs.YthnojgdckkdcgaaGreatDoor

namespace Go.Proofs.YthnojgdckkdcgaaGreatDoor
open Go.RowKit Go.Sort
/-! ### Who is blamed -/
theorem firstFrom_congr {p q : Nat → Bool} : ∀ {m k : Nat}, (∀ i, k ≤ i → i < k + m → p i = q i) → firstFrom p m k = firstFrom q m k
  | m, k, h => by
    obtain ⟨h1, h2, h3, h4⟩ := firstFrom_spec q m k
    refine firstFrom_eq p m k _ h1 h2 (fun j a b => ?_) fun h5 => ?_
    · rw [h j a (by omega)]
      exact h3 j a b
    · rw [h _ h1 h5]
      exact h4 h5
end Go.Proofs.YthnojgdckkdcgaaGreatDoor

namespace Go.Proofs.YthnojgdckkdcgaaGreatDoor
open Go.RowKit Go.Sort
theorem owns_kept {l : List TypeId} {w w' : World} {base : Nat} {e : TypeId} {size n : Nat} {v : Value} {xs : List Value} (h : w.ownsRow base e size v n xs) (hk : Kept l w w') (he : e ∈ l) : w'.ownsRow base e size v n xs :=
  ⟨h.1, h.2.imp id fun ⟨g, cap, cur, h1, h2, h3, h4⟩ => ⟨g, cap, cur, h1, h2, (hk.2 g _ _ _ h3 he).trans h3, h4⟩⟩
end Go.Proofs.YthnojgdckkdcgaaGreatDoor

namespace Go.Proofs.YthnojgdckkdcgaaGreatDoor
open Go.RowKit Go.Sort
theorem ints2 {w : World} {b : Nat} {g : Nat → Int} (hl : b < w.heap.size) (h0 : w.cell? ⟨b, 0, none⟩ = some (.int .i64 (g 0))) (h1 : w.cell? ⟨b, 1, none⟩ = some (.int .i64 (g 1))) : IntsAt w (some ⟨b, 0, none⟩) 2 g :=
  .inr ⟨b, 0, rfl, hl, fun i hi => match i, hi with
    | 0, _ => h0
    | 1, _ => h1
    | n + 2, hi => absurd hi (by omega)⟩
theorem CopyAt.kept {l : List TypeId} {w w' : World} {base : Nat} {vW vF : Value} {t : Qt} (h : CopyAt w base vW vF t) (hk : Kept l w w') (h1 : 3 ∈ l) (h2 : 34 ∈ l) (h3 : 101 ∈ l) (h4 : 27 ∈ l) : CopyAt w' base vW vF t := by
  obtain ⟨⟨us, a, b⟩, c⟩ := h
  exact ⟨⟨us, owns_kept a hk h3, b.kept hk h1 h2⟩, owns_kept c hk h4⟩
end Go.Proofs.YthnojgdckkdcgaaGreatDoor

namespace Go.Proofs.YthnojgdckkdcgaaGreatDoor
open Go.RowKit Go.Sort
theorem intL_get_none (g : Nat → Int) {n i : Nat} (h : n ≤ i) : (intL g n)[i]? = none := List.getElem?_eq_none (by rw [intL_len]; exact h)
theorem numL_intL (l : List Int) : numL l = intL (intL0 l) l.length := by
  refine List.ext_getElem? fun i => ?_
  rcases Nat.lt_or_ge i l.length with h | h
  · rw [intL_get _ h]
    unfold numL intL0
    rw [List.getElem?_map, List.getElem?_eq_getElem h]
    rfl
  · rw [intL_get_none _ h]
    unfold numL
    rw [List.getElem?_map, List.getElem?_eq_none h]
    rfl
/-- a slice that reads as a list of numbers -/
def LstI (w : World) (v : Value) (l : List Int) : Prop := ∃ A c, v = .slice A l.length c ∧ IntsAt w A l.length (intL0 l)
theorem OwnL.lst {w : World} {base : Nat} {v : Value} {l : List Int} (h : OwnL w base v l) : LstI w v l := by
  obtain ⟨A, c, e, hr⟩ := h.nums
  exact ⟨A, c, e, intsAt_row.2 (by rw [← numL_intL]; exact hr)⟩
/-- SameInts of two slices that read as the same list -/
theorem sameInts_same (A B : Option Addr) (n c c' : Nat) (f : Nat → Int) (w : World) (hn : n ≤ 9223372036854775807) (hf : IntsAt w A n f) (hg : IntsAt w B n f) :
    Calls Tryz.prog 28 #[.slice A n c, .slice B n c'] w fun e w' => e = .returned (.bool true) ∧ Below w.heap.size w w' := by
  have := sameInts_any A B n n c c' f f w hn hn hf hg
  rw [show (decide (n = n) && !anyB (fun i => f i != f i) n) = true by rw [anyB_false.2 fun i _ => by simp]; simp] at this
  exact this
end Go.Proofs.YthnojgdckkdcgaaGreatDoor

namespace Go.Proofs.YthnojgdckkdcgaaGreatDoor
open Go.RowKit Go.Sort
end Go.Proofs.YthnojgdckkdcgaaGreatDoor

namespace Go.Proofs.YthnojgdckkdcgaaGreatDoor
open Go.RowKit Go.Sort
end Go.Proofs.YthnojgdckkdcgaaGreatDoor

namespace Go.Proofs.YthnojgdckkdcgaaGreatDoor
open Go.RowKit Go.Sort
theorem left_base {w : World} {base : Nat} {v : Value} {l : List Int} (h : OwnL w base v l) : ∃ A c, v = .slice A l.length c ∧ IntsAt w A l.length (intL0 l) ∧ ∀ p, A = some p → base ≤ p.block := by
  unfold OwnL at h
  rw [numL_intL] at h
  exact intsAt_own h
theorem left_cap {w : World} {base n c : Nat} {A : Option Addr} {l : List Int} (h : OwnL w base (.slice A n c) l) : l.length ≤ c := by
  unfold OwnL at h
  rcases h.2 with ⟨e, h1⟩ | ⟨g, cap, cur, e, _, _, h3, _⟩
  · injection e with _ _ e; subst e; exact Nat.le_of_eq h1
  · injection e with _ _ e; subst e; exact h3
theorem left_sep {w : World} {A : Option Addr} {n : Nat} {g : Nat → Int} (h : IntsAt w A n g) : n = 0 ∨ ∀ p, A = some p → p.block ≠ w.heap.size := by
  rcases h with h | ⟨b, o, rfl, hlt, _⟩
  · exact .inl h
  · exact .inr fun p e => by injection e with e; subst e; exact Nat.ne_of_lt hlt
/-- a street: a town, and the worlds that are left -/
structure StreetAt (w : World) (C : Nat) (Aw Af Ao Ap As : Option Addr) (cw cf co cp cs : Nat) (t : Pt) (Al : Option Addr) (cl : Nat) : Prop where
  box : TBox w C 163 #[.int .i64 t.q.wells, .slice Aw t.q.nw cw, .slice Af t.q.nf cf, .slice Ao t.no co, .slice Ap t.np cp, .slice As t.ns cs, .int .i64 t.far, .int .i64 t.harm, .int .i64 t.many, .slice Al t.q.leftL.length cl]
  left : IntsAt w Al t.q.leftL.length (intL0 t.q.leftL)
  p : PAt w Aw Af Ao Ap As t
  sep : (t.q.leftL.length = 0 ∨ ∀ p, Al = some p → p.block ≠ C) ∧ t.q.leftL.length ≤ cl
theorem StreetAt.mono {w w' : World} {C : Nat} {Aw Af Ao Ap As : Option Addr} {cw cf co cp cs : Nat} {t : Pt} {Al : Option Addr} {cl : Nat} (h : StreetAt w C Aw Af Ao Ap As cw cf co cp cs t Al cl) (hb : Below w.heap.size w w') : StreetAt w' C Aw Af Ao Ap As cw cf co cp cs t Al cl := ⟨h.box.mono hb, h.left.mono hb, h.p.mono hb, h.sep⟩
/-- the street and the row of its worlds lie behind base -/
def StrLo (base C : Nat) (Al : Option Addr) (n : Nat) : Prop := base ≤ C ∧ (n = 0 ∨ ∀ p, Al = some p → base ≤ p.block)
theorem StrLo.lower {base b C : Nat} {Al : Option Addr} {n : Nat} (h : StrLo base C Al n) (hb : b ≤ base) : StrLo b C Al n := ⟨Nat.le_trans hb h.1, h.2.imp id fun h p e => Nat.le_trans hb (h p e)⟩
def StrOk (w : World) (base : Nat) (Aw Af Ao Ap As : Option Addr) (cw cf co cp cs : Nat) (t : Pt) (e : Ending) : Prop := ∃ C Al cl, e = .returned (.tuple #[.pointer (some ⟨C, 0, none⟩), .int .i64 0]) ∧ StreetAt w C Aw Af Ao Ap As cw cf co cp cs t Al cl ∧ StrLo base C Al t.q.leftL.length
/-- what ask and open hand back: a street, or an error -/
def StrOut (w : World) (base : Nat) (Aw Af Ao Ap As : Option Addr) (cw cf co cp cs : Nat) (t : Pt) (er : Int) (e : Ending) : Prop := (er ≠ 0 → e = .returned (.tuple #[.pointer none, .int .i64 er])) ∧ (er = 0 → StrOk w base Aw Af Ao Ap As cw cf co cp cs t e)
theorem StrOut.lower {w : World} {base b : Nat} {Aw Af Ao Ap As : Option Addr} {cw cf co cp cs : Nat} {t : Pt} {er : Int} {e : Ending} (h : StrOut w base Aw Af Ao Ap As cw cf co cp cs t er e) (hb : b ≤ base) : StrOut w b Aw Af Ao Ap As cw cf co cp cs t er e :=
  ⟨h.1, fun h0 => by obtain ⟨C, Al, cl, h1, h2, h3⟩ := h.2 h0; exact ⟨C, Al, cl, h1, h2, h3.lower hb⟩⟩
theorem distP_any (a b : Int) (w : World) (ha : 0 ≤ a ∧ a ≤ 99) (hb : 0 ≤ b ∧ b ≤ 99) : Calls Tryz.prog 81 #[.int .i64 a, .int .i64 b] w fun e w' => e = .returned (.int .i64 (dst a b)) ∧ Below w.heap.size w w' := by
  have h1 : IntKind.i64.wrap (a - b) = a - b := IntWalk.i64_in _ (by omega)
  have h2 : IntKind.i64.wrap (b - a) = b - a := IntWalk.i64_in _ (by omega)
  obtain ⟨u, hu⟩ : ∃ u, (if a - b < b - a then b - a else a - b) = u := ⟨_, rfl⟩
  have HU := Lib.hid (show dst a b = u by rw [← hu]; unfold dst; split <;> omega)
  clear ha hb
  go_enter Tryz.func81, Tryz.ntmps81
  go_wp2_with fail
  go_ret
  exact ⟨by rw [HU.out]; rfl, Below.refl _ _⟩
set_option maxHeartbeats 4000000 in
set_option maxRecDepth 100000 in
theorem hasP_any (Aw Af Ao Ap As : Option Addr) (cw cf co cp cs : Nat) (t : Pt) (n : Int) (w : World) (hs : t.ns ≤ 9223372036854775807) :
    Calls Tryz.prog 80 #[.agg #[.int .i64 t.q.wells, .slice Aw t.q.nw cw, .slice Af t.q.nf cf, .slice Ao t.no co, .slice Ap t.np cp, .slice As t.ns cs, .int .i64 t.far, .int .i64 t.harm, .int .i64 t.many], .int .i64 n] w fun e w' => e = .returned (.bool (t.hasB n)) ∧ Below w.heap.size w w' := by
  have hw1 : IntKind.i64.wrap ((t.ns : Int) - 1) = (t.ns : Int) - 1 := IntWalk.i64_in _ (by omega)
  have HN := Lib.hid (show inR n 0 ((t.ns : Int) - 1) = t.hasB n from rfl)
  clear hs
  have HD0 := Lib.hid (Below.refl w.heap.size w)
  go_enter Tryz.func80, Tryz.ntmps80
  go_wp2_with fail
  refine (withinP_b _ _ _ _ _ HN.out).mono ?_
  rintro e w1 ⟨rfl, hb⟩
  have hB1 : Below w.heap.size w w1 := bTrans (bAlloc (Below.refl _ _) (.cells #[.int .i64 t.q.wells, .slice Aw t.q.nw cw, .slice Af t.q.nf cf, .slice Ao t.no co, .slice Ap t.np cp, .slice As t.ns cs, .int .i64 t.far, .int .i64 t.harm, .int .i64 t.many] 62)) hb
  have HD1 := Lib.hid (bTrans HD0.out hB1)
  have T1 := Lib.hid (show TBox w1 w.heap.size 62 #[.int .i64 t.q.wells, .slice Aw t.q.nw cw, .slice Af t.q.nf cf, .slice Ao t.no co, .slice Ap t.np cp, .slice As t.ns cs, .int .i64 t.far, .int .i64 t.harm, .int .i64 t.many] from by have := ((TBox.new w #[.int .i64 t.q.wells, .slice Aw t.q.nw cw, .slice Af t.q.nf cf, .slice Ao t.no co, .slice Ap t.np cp, .slice As t.ns cs, .int .i64 t.far, .int .i64 t.harm, .int .i64 t.many] 62).mono (Below.refl _ _)).mono hb; simpa using this)
  clear hb hB1 HD0
  obtain ⟨T_0, T_1, T_2, T_3, T_4, T_5, T_6, T_7, T_8, T_l⟩ := T1.out.c9
  go_wp2_with fail
  go_ret
  exact ⟨rfl, HD1.out⟩
set_option maxHeartbeats 4000000 in
set_option maxRecDepth 100000 in
theorem hasWellP_any (Aw Af Ao Ap As : Option Addr) (cw cf co cp cs : Nat) (t : Pt) (n : Int) (w : World) :
    Calls Tryz.prog 104 #[.agg #[.int .i64 t.q.wells, .slice Aw t.q.nw cw, .slice Af t.q.nf cf, .slice Ao t.no co, .slice Ap t.np cp, .slice As t.ns cs, .int .i64 t.far, .int .i64 t.harm, .int .i64 t.many], .int .i64 n] w fun e w' => e = .returned (.bool (t.oldB n)) ∧ Below w.heap.size w w' := by
  obtain ⟨m, hm⟩ : ∃ m, IntKind.i64.wrap (t.q.wells - 1) = m := ⟨_, rfl⟩
  have HN := Lib.hid (show inR n 0 m = t.oldB n by unfold Pt.oldB Qt.wellB; rw [hm])
  have HD0 := Lib.hid (Below.refl w.heap.size w)
  go_enter Tryz.func104, Tryz.ntmps104
  go_wp2_with fail
  refine (withinP_b _ _ _ _ _ HN.out).mono ?_
  rintro e w1 ⟨rfl, hb⟩
  have hB1 : Below w.heap.size w w1 := bTrans (bAlloc (Below.refl _ _) (.cells #[.int .i64 t.q.wells, .slice Aw t.q.nw cw, .slice Af t.q.nf cf, .slice Ao t.no co, .slice Ap t.np cp, .slice As t.ns cs, .int .i64 t.far, .int .i64 t.harm, .int .i64 t.many] 62)) hb
  have HD1 := Lib.hid (bTrans HD0.out hB1)
  have T1 := Lib.hid (show TBox w1 w.heap.size 62 #[.int .i64 t.q.wells, .slice Aw t.q.nw cw, .slice Af t.q.nf cf, .slice Ao t.no co, .slice Ap t.np cp, .slice As t.ns cs, .int .i64 t.far, .int .i64 t.harm, .int .i64 t.many] from by have := ((TBox.new w #[.int .i64 t.q.wells, .slice Aw t.q.nw cw, .slice Af t.q.nf cf, .slice Ao t.no co, .slice Ap t.np cp, .slice As t.ns cs, .int .i64 t.far, .int .i64 t.harm, .int .i64 t.many] 62).mono (Below.refl _ _)).mono hb; simpa using this)
  clear hb hB1 HD0
  obtain ⟨T_0, T_1, T_2, T_3, T_4, T_5, T_6, T_7, T_8, T_l⟩ := T1.out.c9
  go_wp2_with fail
  go_ret
  exact ⟨rfl, HD1.out⟩
set_option maxHeartbeats 4000000 in
set_option maxRecDepth 100000 in
theorem askP_any (Aw Af Ao Ap As : Option Addr) (cw cf co cp cs : Nat) (t : Pt) (is : Bool) (w : World) (hs : t.Small) (hT : PAt w Aw Af Ao Ap As t) (hB : TabAt w) :
    Calls Tryz.prog 79 #[.agg #[.int .i64 t.q.wells, .slice Aw t.q.nw cw, .slice Af t.q.nf cf, .slice Ao t.no co, .slice Ap t.np cp, .slice As t.ns cs, .int .i64 t.far, .int .i64 t.harm, .int .i64 t.many], .bool is] w fun e w' => StrOut w' w.heap.size Aw Af Ao Ap As cw cf co cp cs t (t.askErr is) e ∧ Below w.heap.size w w' := by
  have HD0 := Lib.hid (Below.refl w.heap.size w)
  have HSM := Lib.hid hs
  have HT0 := Lib.hid hT
  have HTB0 := Lib.hid hB
  clear hs hT hB
  go_enter Tryz.func79, Tryz.ntmps79
  go_wp2_with fail
  refine (checkP_any Aw Af Ao Ap As cw cf co cp cs t _ HSM.out (HT0.out.mono (bAlloc (Below.refl _ _) (.cells #[.int .i64 t.q.wells, .slice Aw t.q.nw cw, .slice Af t.q.nf cf, .slice Ao t.no co, .slice Ap t.np cp, .slice As t.ns cs, .int .i64 t.far, .int .i64 t.harm, .int .i64 t.many] 62)))).mono ?_
  rintro e w1 ⟨rfl, hb⟩
  have hB1 : Below w.heap.size w w1 := bTrans (bAlloc (Below.refl _ _) (.cells #[.int .i64 t.q.wells, .slice Aw t.q.nw cw, .slice Af t.q.nf cf, .slice Ao t.no co, .slice Ap t.np cp, .slice As t.ns cs, .int .i64 t.far, .int .i64 t.harm, .int .i64 t.many] 62)) hb
  have HD1 := Lib.hid (bTrans HD0.out hB1)
  have HT1 := Lib.hid (HT0.out.mono hB1)
  have HTB1 := Lib.hid (HTB0.out.mono hB1)
  have T1 := Lib.hid (show TBox w1 w.heap.size 62 #[.int .i64 t.q.wells, .slice Aw t.q.nw cw, .slice Af t.q.nf cf, .slice Ao t.no co, .slice Ap t.np cp, .slice As t.ns cs, .int .i64 t.far, .int .i64 t.harm, .int .i64 t.many] from by have := ((TBox.new w #[.int .i64 t.q.wells, .slice Aw t.q.nw cw, .slice Af t.q.nf cf, .slice Ao t.no co, .slice Ap t.np cp, .slice As t.ns cs, .int .i64 t.far, .int .i64 t.harm, .int .i64 t.many] 62).mono (Below.refl _ _)).mono hb; simpa using this)
  clear hb hB1 HD0 HT0 HTB0
  obtain ⟨T_0, T_1, T_2, T_3, T_4, T_5, T_6, T_7, T_8, T_l⟩ := T1.out.c9
  by_cases hok : t.Ok
  case neg =>
    have HE := Lib.hid (Pt.askErr_bad hok is)
    rw [Pt.err_bad hok]
    clear hok
    go_wp2_with fail
    go_ret2
    exact ⟨⟨fun _ => by rw [HE.out]; rfl, fun h => by rw [HE.out] at h; exact absurd h (by decide)⟩, HD1.out⟩
  rw [Pt.err_ok hok]
  have HOK := Lib.hid hok
  clear hok
  cases is
  case false =>
    have HE := Lib.hid (Pt.askErr_arg HOK.out)
    go_wp2_with fail
    go_ret2
    exact ⟨⟨fun _ => by rw [HE.out]; rfl, fun h => by rw [HE.out] at h; exact absurd h (by decide)⟩, HD1.out⟩
  have HE := Lib.hid (Pt.askErr_ok HOK.out)
  go_wp2_with fail
  have HDL := Lib.hid (HD1.out.size)
  refine (leftQ_any Aw Af cw cf t.q _ HSM.out.q HT1.out.q HTB1.out).mono ?_
  rintro e w2 ⟨ho, hb⟩
  obtain ⟨v, rfl, h1, _⟩ := ho
  obtain ⟨A4, c4, rfl, hi4, hlo4⟩ := left_base (h1 HOK.out.q)
  have HCAP := Lib.hid (left_cap (h1 HOK.out.q))
  have HLO4 := Lib.hid hlo4
  clear hlo4
  have hB2 : Below w1.heap.size w1 w2 := bTrans (Below.refl _ _) hb
  have HD2 := Lib.hid (bTrans HD1.out hB2)
  have HT2 := Lib.hid (HT1.out.mono hB2)
  have HTB2 := Lib.hid (HTB1.out.mono hB2)
  have HI42 := Lib.hid (hi4)
  have T2 := Lib.hid (T1.out.mono hB2)
  clear hb hB2 HD1 HT1 HTB1 T1 T_0 T_1 T_2 T_3 T_4 T_5 T_6 T_7 T_8 T_l
  obtain ⟨T_0, T_1, T_2, T_3, T_4, T_5, T_6, T_7, T_8, T_l⟩ := T2.out.c9
  clear h1 hi4
  go_wp2_with fail
  go_ret2
  refine ⟨⟨fun h => absurd HE.out h, fun _ => ⟨w2.heap.size, A4, c4, rfl, ⟨TBox.new _ _ _, HI42.out.mono (bAlloc (Below.refl _ _) _), HT2.out.mono (bAlloc (Below.refl _ _) _), left_sep HI42.out, HCAP.out⟩, ?_⟩⟩, bAlloc HD2.out _⟩
  exact ⟨by have := HD2.out.size; omega, .inr fun p e => by have := HLO4.out p e; have := HDL.out; omega⟩
set_option maxHeartbeats 4000000 in
set_option maxRecDepth 100000 in
theorem openP_any (Aw Af Ao Ap As : Option Addr) (cw cf co cp cs : Nat) (t : Pt) (is : Bool) (w : World) (hs : t.Small) (hT : PAt w Aw Af Ao Ap As t) (hB : TabAt w) :
    Calls Tryz.prog 82 #[.agg #[.int .i64 t.q.wells, .slice Aw t.q.nw cw, .slice Af t.q.nf cf, .slice Ao t.no co, .slice Ap t.np cp, .slice As t.ns cs, .int .i64 t.far, .int .i64 t.harm, .int .i64 t.many], .bool is] w fun e w' => StrOut w' w.heap.size Aw Af Ao Ap As cw cf co cp cs t (t.knowErr is) e ∧ Below w.heap.size w w' := by
  have HD0 := Lib.hid (Below.refl w.heap.size w)
  have HSM := Lib.hid hs
  have HT0 := Lib.hid hT
  have HTB0 := Lib.hid hB
  clear hs hT hB
  go_enter Tryz.func82, Tryz.ntmps82
  go_wp2_with fail
  refine (askP_any Aw Af Ao Ap As cw cf co cp cs t is _ HSM.out (HT0.out.mono (bAlloc (Below.refl _ _) (.cells #[.int .i64 t.q.wells, .slice Aw t.q.nw cw, .slice Af t.q.nf cf, .slice Ao t.no co, .slice Ap t.np cp, .slice As t.ns cs, .int .i64 t.far, .int .i64 t.harm, .int .i64 t.many] 62))) (HTB0.out.mono (bAlloc (Below.refl _ _) (.cells #[.int .i64 t.q.wells, .slice Aw t.q.nw cw, .slice Af t.q.nf cf, .slice Ao t.no co, .slice Ap t.np cp, .slice As t.ns cs, .int .i64 t.far, .int .i64 t.harm, .int .i64 t.many] 62)))).mono ?_
  rintro e w1 ⟨⟨ho1, ho2⟩, hb⟩
  have hB1 : Below w.heap.size w w1 := bTrans (bAlloc (Below.refl _ _) (.cells #[.int .i64 t.q.wells, .slice Aw t.q.nw cw, .slice Af t.q.nf cf, .slice Ao t.no co, .slice Ap t.np cp, .slice As t.ns cs, .int .i64 t.far, .int .i64 t.harm, .int .i64 t.many] 62)) hb
  have HD1 := Lib.hid (bTrans HD0.out hB1)
  have HT1 := Lib.hid (HT0.out.mono hB1)
  have HTB1 := Lib.hid (HTB0.out.mono hB1)
  have T1 := Lib.hid (show TBox w1 w.heap.size 62 #[.int .i64 t.q.wells, .slice Aw t.q.nw cw, .slice Af t.q.nf cf, .slice Ao t.no co, .slice Ap t.np cp, .slice As t.ns cs, .int .i64 t.far, .int .i64 t.harm, .int .i64 t.many] from by have := ((TBox.new w #[.int .i64 t.q.wells, .slice Aw t.q.nw cw, .slice Af t.q.nf cf, .slice Ao t.no co, .slice Ap t.np cp, .slice As t.ns cs, .int .i64 t.far, .int .i64 t.harm, .int .i64 t.many] 62).mono (Below.refl _ _)).mono hb; simpa using this)
  clear hb hB1 HD0 HT0 HTB0
  obtain ⟨T_0, T_1, T_2, T_3, T_4, T_5, T_6, T_7, T_8, T_l⟩ := T1.out.c9
  obtain ⟨ae, hae⟩ : ∃ v, t.askErr is = v := ⟨_, rfl⟩
  rw [hae] at ho1 ho2
  have HAE := Lib.hid hae
  clear hae
  by_cases h0 : ae = 0
  case neg =>
    obtain rfl := ho1 h0
    clear ho1 ho2
    have g0 : (ae == 0) = false := by simp [h0]
    have HE := Lib.hid (show t.knowErr is = ae by unfold Pt.knowErr; rw [HAE.out, if_neg h0])
    have HZ := Lib.hid h0
    clear h0
    go_wp2_with fail
    go_ret2
    exact ⟨⟨fun _ => by rw [HE.out]; rfl, fun h => by rw [HE.out] at h; exact absurd h HZ.out⟩, HD1.out⟩
  subst h0
  obtain ⟨C, Al, cl, rfl, hst, hC⟩ := ho2 rfl
  clear ho1 ho2
  have HST := Lib.hid hst
  have HC := Lib.hid hC
  obtain ⟨ok, rfl⟩ := Pt.askErr_zero HAE.out
  have HOK := Lib.hid ok
  clear hst hC ok
  obtain ⟨c0, c1, c2, c3, c4, c5, c6, c7, c8, c9, hCl⟩ := HST.out.box.c10
  by_cases hnil : t.q.leftL = []
  case pos =>
    have HE := Lib.hid (Pt.knowErr_none HOK.out hnil)
    have hl : t.q.leftL.length = 0 := by rw [hnil]; rfl
    clear hnil
    go_wp2_with fail
    go_ret2
    exact ⟨⟨fun _ => by rw [HE.out]; rfl, fun h => by rw [HE.out] at h; exact absurd h (by decide)⟩, HD1.out⟩
  have HE := Lib.hid (Pt.knowErr_ok HOK.out hnil)
  have hl : (t.q.leftL.length == 0) = false := by simp; exact hnil
  have hl2 : 0 < t.q.leftL.length := List.length_pos_iff.2 hnil
  have hl3 : ((t.q.leftL.length : Int) == 0) = false := by simp; omega
  clear hnil
  go_wp2_with fail
  go_ret2
  refine ⟨⟨fun h => absurd HE.out h, fun _ => ⟨C, Al, cl, rfl, HST.out, ?_⟩⟩, HD1.out⟩
  exact HC.out.lower (by simp)
end Go.Proofs.YthnojgdckkdcgaaGreatDoor

namespace Go.Proofs.YthnojgdckkdcgaaGreatDoor
open Go.RowKit Go.Sort
theorem SpotsAt.get {w : World} {A : Option Addr} {n : Nat} {f : Nat → Spot} (h : SpotsAt w A n f) {i : Nat} (hi : i < n) : ∃ b o Ar Af Aw cr cf cw, A = some ⟨b, o, none⟩ ∧ b < w.heap.size ∧ ShAt w Ar Af (f i).sh ∧ RowsAt w Aw (f i).fl ∧ w.cell? ⟨b, o + i * 7, none⟩ = some (.int .i64 (f i).at_) ∧ w.cell? ⟨b, o + i * 7 + 1, none⟩ = some (.slice Ar (f i).sh.nr cr) ∧ w.cell? ⟨b, o + i * 7 + 2, none⟩ = some (.slice Af (f i).sh.nf cf) ∧ w.cell? ⟨b, o + i * 7 + 3, none⟩ = some (.int .i64 (f i).sh.deep) ∧ w.cell? ⟨b, o + i * 7 + 4, none⟩ = some (.int .i64 (f i).sh.haul) ∧ w.cell? ⟨b, o + i * 7 + 5, none⟩ = some (.int .i64 (f i).sh.rest) ∧ w.cell? ⟨b, o + i * 7 + 6, none⟩ = some (.slice Aw (f i).fl.n cw) := by
  rcases h with h | ⟨b, o, rfl, hlt, hc⟩
  · omega
  · obtain ⟨Ar, Af, Aw, cr, cf, cw, h⟩ := hc i hi
    exact ⟨b, o, Ar, Af, Aw, cr, cf, cw, rfl, hlt, h⟩
theorem RowsAt.get {w : World} {A : Option Addr} {x : Wd} (h : RowsAt w A x) {k j : Nat} (hk : k < x.n) (hj : j < x.len k) : ∃ b o b' o' c', A = some ⟨b, o, none⟩ ∧ b < w.heap.size ∧ w.cell? ⟨b, o + k, none⟩ = some (.slice (some ⟨b', o', none⟩) (x.len k) c') ∧ b' < w.heap.size ∧ w.cell? ⟨b', o' + j, none⟩ = some (.int .i64 (x.fall k j)) := by
  rcases h with h | ⟨b, o, rfl, hlt, hc⟩
  · omega
  · obtain ⟨A', c', h1, h2, _⟩ := hc k hk
    obtain ⟨b', o', rfl, hlt', h3⟩ := h2.get hj
    exact ⟨b, o, b', o', c', rfl, hlt, h1, hlt', h3⟩
set_option maxHeartbeats 4000000 in
set_option maxRecDepth 100000 in
theorem forbidsP_any (C : Nat) (Aw Af Ao Ap As : Option Addr) (cw cf co cp cs : Nat) (t : Pt) (Al : Option Addr) (cl : Nat) (s v a : Nat) (w : World) (hst : StreetAt w C Aw Af Ao Ap As cw cf co cp cs t Al cl) (ok : t.Ok) (hs : s < t.ns) (hv : (v : Int) < t.q.wells) (ha : a < t.q.nw) :
    Calls Tryz.prog 145 #[.pointer (some ⟨C, 0, none⟩), .int .i64 s, .int .i64 v, .int .i64 a] w fun e w' => e = .returned (.bool (t.forb s v (a : Int))) ∧ Below w.heap.size w w' := by
  have hx := ok.spot s hs
  have hvn : v < t.no := by have := ok.no; omega
  obtain ⟨b, o, Ar, Af2, Ax, cr, cf2, cx, rfl, hb, _, hrow, s0, s1, s2, s3, s4, s5, s6⟩ := hst.p.spots.get hs
  obtain ⟨bo, oo, rfl, hbo, co0⟩ := hst.p.old.get hvn
  obtain ⟨br, or_, bq, oq, cq, rfl, hbr, r0, hbq, r1⟩ := hrow.get (k := a) (j := v) (by rw [hx.n]; exact ha) (by have := hx.len a (by rw [hx.n]; exact ha); omega)
  obtain ⟨c0, c1, c2, c3, c4, c5, c6, c7, c8, c9, hCl⟩ := hst.box.c10
  have hxa := And.intro hx.a0 hx.a1
  have hol := ok.old v hvn
  have hfa := hx.fall a (by rw [hx.n]; exact ha) v (by have := hx.len a (by rw [hx.n]; exact ha); omega)
  have hmm := ok.many
  have hln : (v : Int) < ((t.spot s).fl.len a : Int) := by have := hx.len a (by rw [hx.n]; exact ha); omega
  have han : (a : Int) < ((t.spot s).fl.n : Int) := by have := hx.n; omega
  have hsn : (s : Int) < (t.ns : Int) := by omega
  have hvo : (v : Int) < (t.no : Int) := by omega
  obtain ⟨x, hxx⟩ : ∃ x, t.spot s = x := ⟨_, rfl⟩
  obtain ⟨fa, hfx⟩ : ∃ f, (t.spot s).fl.fall a v = f := ⟨_, rfl⟩
  obtain ⟨u, hu⟩ : ∃ u, t.old v = u := ⟨_, rfl⟩
  rw [hfx] at r1 hfa
  rw [hxx] at s0 s1 s2 s3 s4 s5 s6 hxa hln han r0
  rw [hu] at co0 hol
  obtain ⟨d, hd⟩ : ∃ d, dst u x.at_ = d := ⟨_, rfl⟩
  have hwr : IntKind.i64.wrap (fa * t.many) = fa * t.many := IntWalk.i64_in _ (by
    have h1 : 0 ≤ fa * t.many := Int.mul_nonneg hfa.1 hmm.1
    have h2 : fa * t.many ≤ 9 * 9 := Int.mul_le_mul hfa.2 hmm.2 hmm.1 (by decide)
    omega)
  have HF := Lib.hid (show t.forb s v (a : Int) = (decide (d < t.far) || decide (t.harm < fa * t.many)) by unfold Pt.forb; rw [Int.toNat_natCast, hxx, hu, hd, ← hfx, hxx])
  have HDI := Lib.hid (fun w' => hd ▸ distP_any u x.at_ w' hol hxa : ∀ w' : World, Calls Tryz.prog 81 #[.int .i64 u, .int .i64 x.at_] w' fun e w'' => e = .returned (.int .i64 d) ∧ Below w'.heap.size w' w'')
  have HB := Lib.hid (bAlloc (Below.refl w.heap.size w) (.cells #[.int .i64 x.at_, .slice Ar x.sh.nr cr, .slice Af2 x.sh.nf cf2, .int .i64 x.sh.deep, .int .i64 x.sh.haul, .int .i64 x.sh.rest, .slice (some ⟨br, or_, none⟩) x.fl.n cx] 71))
  rw [HF.out]
  clear hx hvn hrow hst ok hxa hol hfa hmm hd hxx hfx hu HF
  go_enter Tryz.func145, Tryz.ntmps145
  go_wp2_with fail
  by_cases hdf : d < t.far
  · have hdd : decide (d < t.far) = true := by simpa using hdf
    refine wp_region_quiet_below (by kernel_rfl) (by kernel_rfl) ?_
    repeat (go_big_quiet_step ((go_at_call 81; exact Calls.regrown_of (HDI.out _))))
    refine wpQuiet_nil ?_
    intro w3 hb3
    have HB3 := Lib.hid (bTrans HB.out (below_of_regrown hb3))
    clear hb3
    go_wp2_with fail
    go_ret
    exact ⟨by simp [hdd], HB3.out⟩
  · have hdd : decide (d < t.far) = false := by simpa using hdf
    cases hbh : decide (t.harm < fa * t.many)
    · skip
      refine wp_region_quiet_below (by kernel_rfl) (by kernel_rfl) ?_
      repeat (go_big_quiet_step ((go_at_call 81; exact Calls.regrown_of (HDI.out _))))
      refine wpQuiet_nil ?_
      intro w3 hb3
      have HB3 := Lib.hid (bTrans HB.out (below_of_regrown hb3))
      clear hb3
      go_wp2_with fail
      go_ret
      exact ⟨by simp [hdd, hbh], HB3.out⟩
    · skip
      refine wp_region_quiet_below (by kernel_rfl) (by kernel_rfl) ?_
      repeat (go_big_quiet_step ((go_at_call 81; exact Calls.regrown_of (HDI.out _))))
      refine wpQuiet_nil ?_
      intro w3 hb3
      have HB3 := Lib.hid (bTrans HB.out (below_of_regrown hb3))
      clear hb3
      go_wp2_with fail
      go_ret
      exact ⟨by simp [hdd, hbh], HB3.out⟩
theorem left_at {t : Qt} {k : Nat} (hk : k < t.leftL.length) : ∃ i : Nat, intL0 t.leftL k = (i : Int) ∧ i < t.nw ∧ t.leftB i = true := by
  have hm : intL0 t.leftL k ∈ t.leftL := by
    unfold intL0
    rw [List.getElem?_eq_getElem hk]
    exact List.getElem_mem hk
  obtain ⟨i, h1, h2, h3⟩ := (leftTo_mem t t.nw).1 hm
  exact ⟨i, h3, h1, h2⟩
theorem left_len {t : Qt} (ok : t.Ok) : t.leftL.length ≤ 6 := by have := leftTo_len t t.nw; have := ok.nw; unfold Qt.leftL; omega
set_option maxHeartbeats 4000000 in
set_option maxRecDepth 100000 in
theorem inP_any (C : Nat) (Aw Af Ao Ap As : Option Addr) (cw cf co cp cs : Nat) (t : Pt) (Al : Option Addr) (cl : Nat) (s v : Nat) (w : World) (hst : StreetAt w C Aw Af Ao Ap As cw cf co cp cs t Al cl) (ok : t.Ok) (hs : s < t.ns) (hv : (v : Int) < t.q.wells) :
    Calls Tryz.prog 105 #[.pointer (some ⟨C, 0, none⟩), .int .i64 s, .int .i64 v] w fun e w' => e = .returned (.int .i64 (t.inN s v : Int)) ∧ Below w.heap.size w w' := by
  have HST := Lib.hid hst
  have HOK := Lib.hid ok
  have HS := Lib.hid hs
  have HV := Lib.hid hv
  have hl6 := left_len ok.q
  obtain ⟨n, hn⟩ : ∃ n, t.q.leftL.length = n := ⟨_, rfl⟩
  have HN := Lib.hid hn
  have hbx := hst.box
  rw [hn] at hbx hl6
  obtain ⟨c0, c1, c2, c3, c4, c5, c6, c7, c8, c9, hCl⟩ := hbx.c10
  clear hst ok hs hv hbx hn
  go_enter Tryz.func105, Tryz.ntmps105
  go_wp2_with fail
  clear c0 c1 c2 c3 c4 c5 c6 c7 c8 c9
  go_loopw [7, 15] (fun s7 s15 wr => ∃ k : Nat, k ≤ n ∧ s15 = .int .i64 (k : Int) ∧ s7 = .int .i64 (t.inTo s v k : Int) ∧ Below w.heap.size w wr) (fun _ s15 _ => n - (intOf s15).toNat)
  case atStart => exact ⟨0, Nat.zero_le _, rfl, rfl, Below.refl _ _⟩
  case round =>
    obtain ⟨k, hk, rfl, rfl, hbel⟩ := hrel
    have HL := Lib.hid hbel
    have hbx := (HST.out.mono hbel).box
    rw [HN.out] at hbx
    obtain ⟨c0, c1, c2, c3, c4, c5, c6, c7, c8, c9, hCl⟩ := hbx.c10
    obtain ⟨m, hm⟩ : ∃ m, t.inTo s v k = m := ⟨_, rfl⟩
    have HM := Lib.hid hm
    have hm6 : m ≤ 6 := by rw [← hm]; have := cntB_le (fun i => t.forb s v (intL0 t.q.leftL i)) k; unfold Pt.inTo; omega
    rw [hm]
    clear hbel hbx hm
    by_cases hlt : k < n
    · have hk1 : (k : Int) < (n : Int) := by omega
      obtain ⟨i, hi, hiw, _⟩ := left_at (t := t.q) (k := k) (by rw [HN.out]; exact hlt)
      obtain ⟨bl, ol, hA, hbl, cl0⟩ := (HST.out.mono HL.out).left.get (by rw [HN.out]; exact hlt : k < t.q.leftL.length)
      rw [hi] at cl0
      have HI := Lib.hid hi
      have HIW := Lib.hid hiw
      have hwm : IntKind.i64.wrap ((m : Int) + 1) = ((m + 1 : Nat) : Int) := IntWalk.i64_in _ (by omega)
      obtain ⟨bf, hbf⟩ : ∃ b, t.forb s v (i : Int) = b := ⟨_, rfl⟩
      have HF := Lib.hid hbf
      subst hA
      clear hi hiw hbf
      go_wp2_with fail
      refine (forbidsP_any C Aw Af Ao Ap As cw cf co cp cs t _ cl s v i _ (HST.out.mono HL.out) HOK.out HS.out HV.out HIW.out).mono ?_
      rintro e w4 ⟨rfl, hb4⟩
      rw [HF.out]
      have HL4 := Lib.hid (bTrans HL.out hb4)
      clear hb4 c0 c1 c2 c3 c4 c5 c6 c7 c8 c9 cl0
      cases bf
      · have HR := Lib.hid (show t.inTo s v (k + 1) = m by unfold Pt.inTo cntB; rw [HI.out, HF.out]; exact HM.out)
        go_wp2_with fail
        go_roundw
        case rel =>
          first
          | exact ⟨k + 1, by omega, by go_num, by rw [HR.out], HL4.out⟩
          | ((repeat apply Exists.intro)
             refine ⟨⟨k + 1, by omega, ?_, by rw [HR.out], HL4.out⟩, rfl⟩
             go_num)
        case measure => simp [intOf]; omega
      · have HR := Lib.hid (show t.inTo s v (k + 1) = m + 1 by unfold Pt.inTo cntB; rw [HI.out, HF.out]; exact congrArg (· + 1) HM.out)
        go_wp2_with fail
        go_roundw
        case rel =>
          first
          | exact ⟨k + 1, by omega, by go_num, by rw [HR.out]; rfl, HL4.out⟩
          | ((repeat apply Exists.intro)
             refine ⟨⟨k + 1, by omega, ?_, by rw [HR.out]; rfl, HL4.out⟩, rfl⟩
             go_num)
        case measure => simp [intOf]; omega
    · obtain rfl : n = k := by omega
      have HR := Lib.hid (show t.inN s v = m by unfold Pt.inN; rw [HN.out]; exact HM.out)
      go_wp2_with fail
      go_ret
      exact ⟨by rw [HR.out]; rfl, HL.out⟩
set_option maxHeartbeats 2000000 in
set_option maxRecDepth 100000 in
theorem priceP_any (C : Nat) (Aw Af Ao Ap As : Option Addr) (cw cf co cp cs : Nat) (t : Pt) (Al : Option Addr) (cl : Nat) (s : Nat) (w : World) (hst : StreetAt w C Aw Af Ao Ap As cw cf co cp cs t Al cl) (hsm : t.Small) (hs : s < t.ns) (hN : NoneAt w) :
    Calls Tryz.prog 134 #[.pointer (some ⟨C, 0, none⟩), .int .i64 s] w fun e w' => e = .returned (.tuple #[.int .i64 (t.cheap s).1, .bool (t.canB s)]) ∧ Below w.heap.size w w' := by
  have hx := hsm.spot s hs
  obtain ⟨b, o, Ar, Af2, Ax, cr, cf2, cx, rfl, hb, hsh, _, s0, s1, s2, s3, s4, s5, s6⟩ := hst.p.spots.get hs
  obtain ⟨c0, c1, c2, c3, c4, c5, c6, c7, c8, c9, hCl⟩ := hst.box.c10
  have hsn : (s : Int) < (t.ns : Int) := by omega
  have HC := Lib.hid (Cheap_any Ar Af2 cr cf2 (t.spot s).sh w hx.nr hx.nf hsh hN)
  obtain ⟨x, hxx⟩ : ∃ x, t.spot s = x := ⟨_, rfl⟩
  rw [hxx] at s0 s1 s2 s3 s4 s5 s6 HC
  obtain ⟨y, hy⟩ : ∃ y, x.sh.cheapOut.1 = y := ⟨_, rfl⟩
  obtain ⟨z, hz⟩ : ∃ z, x.sh.cheapOut.2 = z := ⟨_, rfl⟩
  rw [hy, hz] at HC
  have HE := Lib.hid (show (t.cheap s).1 = y ∧ t.canB s = decide (z = 0) by unfold Pt.canB Pt.cheap; rw [hxx, hy, hz]; exact ⟨rfl, rfl⟩)
  clear hx hsh hst hsm hxx hy hz hN
  go_enter Tryz.func134, Tryz.ntmps134
  go_wp2_with fail
  refine HC.out.mono ?_
  rintro e w1 ⟨rfl, hb1⟩
  have HB1 := Lib.hid hb1
  clear hb1
  go_wp2_with fail
  go_ret2
  exact ⟨by rw [HE.out.1, HE.out.2]; rfl, HB1.out⟩
end Go.Proofs.YthnojgdckkdcgaaGreatDoor

