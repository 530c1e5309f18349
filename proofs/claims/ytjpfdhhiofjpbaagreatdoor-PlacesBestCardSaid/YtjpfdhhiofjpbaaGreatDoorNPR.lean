/- Parts joined. -/
import Derived.Test.YtjpfdhhiofjpbaaGreatDoorNPQ
import Derived.Test.YtjpfdhhiofjpbaaGreatDoorNPJ
import Derived.Test.YtjpfdhhiofjpbaaGreatDoorNPA
import Derived.Test.YtjpfdhhiofjpbaaGreatDoorNPE
import Derived.Test.YtjpfdhhiofjpbaaGreatDoorNPP
import Derived.Test.YtjpfdhhiofjpbaaGreatDoorNPM
import Derived.Test.YtjpfdhhiofjpbaaGreatDoorNPK
set_option linter.unusedSimpArgs false
set_option linter.unusedVariables false
/- Shafts (from the texts of the shafts). -/
namespace Go.Proofs.YtjpfdhhiofjpbaaGreatDoor
open Go.RowKit Go.Sort
def Sh.Has (S : Sh) : Prop := ∃ l, S.Chain 0 l
/-- what all feet and the rings at some stops cost -/
def Sh.pay (S : Sh) (l : List Nat) : Int := sumTo S.price S.nf + costL S.ringc l
structure Sh.IsFew (S : Sh) (m : Nat) : Prop where
  is : ∃ l, S.Chain 0 l ∧ l.length = m
  least : ∀ l, S.Chain 0 l → m ≤ l.length
structure Sh.IsCheap (S : Sh) (n : Int) : Prop where
  is : ∃ l, S.Chain 0 l ∧ S.pay l = n
  least : ∀ l, S.Chain 0 l → n ≤ S.pay l
section
variable {S : Sh} {lt : Way → Way → Bool} {μ : Way → Int} {c : Nat → Int}
theorem ways_has (M : Meas S lt μ c) : S.waysOf lt S.nf 0 ≠ noWay ↔ S.Has := by
  constructor
  · intro h
    obtain ⟨l, h1, _⟩ := waysOf_sound M S.nf 0 (Nat.zero_le _) h
    exact ⟨l, h1⟩
  · rintro ⟨l, h⟩
    exact (waysOf_best M S.nf 0 l h (by have := h.len; omega)).1
end
theorem few_of {S : Sh} (h : S.Has) : ∃ m : Nat, (S.waysOf ltR S.nf 0).rings = m ∧ S.IsFew m := by
  have hn := (ways_has (measR S)).2 h
  obtain ⟨l, h1, _, h3, h4⟩ := waysOf_sound (measR S) S.nf 0 (Nat.zero_le _) hn
  refine ⟨l.length, h3, ⟨l, h1, rfl⟩, fun l' hl' => ?_⟩
  have h5 := (waysOf_best (measR S) S.nf 0 l' hl' (by have := hl'.len; omega)).2
  rw [costL_one] at h4 h5
  omega
theorem cheap_of {S : Sh} (h : S.Has) : S.IsCheap (sumTo S.price S.nf + (S.waysOf ltP S.nf 0).pence) := by
  have hn := (ways_has (measP S)).2 h
  obtain ⟨l, h1, _, _, h4⟩ := waysOf_sound (measP S) S.nf 0 (Nat.zero_le _) hn
  refine ⟨⟨l, h1, by unfold Sh.pay; rw [h4]⟩, fun l' hl' => ?_⟩
  have h5 := (waysOf_best (measP S) S.nf 0 l' hl' (by have := hl'.len; omega)).2
  unfold Sh.pay
  omega
theorem Sh.IsFew.le {S : Sh} {m : Nat} (h : S.IsFew m) : m ≤ S.nf := by
  obtain ⟨l, h1, h2⟩ := h.is
  have := h1.len
  omega
/-- Fewest and Cheap of a valid shaft -/
theorem out_cases {S : Sh} (ok : S.Ok) : (S.Has ∧ ∃ (m : Nat) (n : Int), S.fewestOut = ((m : Int), 0) ∧ S.cheapOut = (n, 0) ∧ S.IsFew m ∧ S.IsCheap n ∧ m ≤ S.nf ∧ 0 ≤ n ∧ n ≤ 4968) ∨ (¬ S.Has ∧ S.fewestOut = (0, 3) ∧ S.cheapOut = (0, 3)) := by
  by_cases h : S.Has
  · obtain ⟨m, h1, h2⟩ := few_of h
    have h3 := cheap_of h
    have h4 := cheapOut_some ok ((ways_has (measP S)).2 h)
    have h5 := cheapOut_bd ok
    rw [h4] at h5
    exact .inl ⟨h, m, _, by rw [fewestOut_some ok ((ways_has (measR S)).2 h), h1], h4, h2, h3, h2.le, h5.1, h5.2⟩
  · refine .inr ⟨h, fewestOut_none ok ?_, cheapOut_none ok ?_⟩
    · cases Classical.em (S.waysOf ltR S.nf 0 = noWay) with
      | inl e => exact e
      | inr e => exact absurd ((ways_has (measR S)).1 e) h
    · cases Classical.em (S.waysOf ltP S.nf 0 = noWay) with
      | inl e => exact e
      | inr e => exact absurd ((ways_has (measP S)).1 e) h
end Go.Proofs.YtjpfdhhiofjpbaaGreatDoor

/- Shafts (from the texts of the shafts). -/
namespace Go.Proofs.YtjpfdhhiofjpbaaGreatDoor
open Go.RowKit Go.Sort
def Sh.dig (S : Sh) : Int := sumTo S.hour S.nf
structure Sh.Best (S : Sh) (K : Nat) (v : Int) : Prop where
  is : ∃ l, S.Chain 0 l ∧ l.length ≤ K ∧ S.pay l = v
  least : ∀ l, S.Chain 0 l → l.length ≤ K → v ≤ S.pay l
/-- the numbers of a list, 0 behind its end -/
def gOf (l : List Int) : Nat → Int := fun i => l.getD i 0
theorem LexLt.pre : ∀ (l : List Int) {s t : List Int}, LexLt s t → LexLt (l ++ s) (l ++ t)
  | [], _, _, h => h
  | _ :: l, _, _, h => .inr ⟨rfl, LexLt.pre l h⟩
/-! ### Plans -/
/-! ### The first one with the fewest -/
/-! ### What the ways with the fewest rings go on to -/
/-! ### The least cost -/
end Go.Proofs.YtjpfdhhiofjpbaaGreatDoor

/- Shafts (from the texts of the shafts). -/
namespace Go.Proofs.YtjpfdhhiofjpbaaGreatDoor
open Go.RowKit Go.Sort
/-- a slice that reads as a list of numbers, in a row of numbers -/
def SliceIs (w : World) (v : Value) (l : List Int) : Prop :=
  ∃ A c, v = .slice A l.length c ∧ IntsAt w A l.length (gOf l) ∧ (l = [] ∨ ∃ b o cur fr, A = some ⟨b, o, none⟩ ∧ w.heap[b]? = some (.cells cur 3 fr))
theorem heap_lt {w : World} {b : Nat} {o : Obj} (h : w.heap[b]? = some o) : b < w.heap.size := (Array.getElem?_eq_some_iff.1 h).1
theorem SliceIs.mono {w w' : World} {v : Value} {l : List Int} (h : SliceIs w v l) (hb : Below w.heap.size w w') : SliceIs w' v l := by
  obtain ⟨A, c, e, h1, h2⟩ := h
  refine ⟨A, c, e, h1.mono hb, h2.imp id ?_⟩
  rintro ⟨b, o, cur, fr, e1, e2⟩
  exact ⟨b, o, cur, fr, e1, (hb.block b (heap_lt e2)).trans e2⟩
theorem SliceIs.grown {w w' : World} {v : Value} {l : List Int} {row : Option Nat} (h : SliceIs w v l) (hg : w.grownBy w' row) (ht : ∀ g, row = some g → ∃ cur, w.heap[g]? = some (.cells cur 26 (0, 0))) : SliceIs w' v l := by
  obtain ⟨A, c, e, h1, h2⟩ := h
  rcases h2 with rfl | ⟨b, o, cur, fr, rfl, e2⟩
  · exact ⟨A, c, e, .inl rfl, .inl rfl⟩
  · have hne : some b ≠ row := fun e => by
      obtain ⟨cur', e3⟩ := ht b e.symm
      rw [e2] at e3
      injection e3 with e3
      injection e3 with _ e3
      exact absurd e3 (by decide)
    have hblk := hg.block b (heap_lt e2) hne
    refine ⟨_, c, e, ?_, .inr ⟨b, o, cur, fr, rfl, hblk.trans e2⟩⟩
    rcases h1 with h1 | ⟨b', o', e1, hlt, hc⟩
    · exact .inl h1
    · injection e1 with e1
      injection e1 with e1 e1'
      subst e1 e1'
      exact .inr ⟨b, o, rfl, Nat.lt_of_lt_of_le hlt hg.size, fun i hi => (World.cell?_of_block (w := w) (a := ⟨b, o + i, none⟩) hblk).trans (hc i hi)⟩
def RowsT (w : World) : List Value → List (List Int) → Prop
  | [], [] => True
  | v :: vs, l :: ls => SliceIs w v l ∧ RowsT w vs ls
  | _, _ => False
theorem RowsT.imp {w w' : World} (h : ∀ v l, SliceIs w v l → SliceIs w' v l) : ∀ {vs : List Value} {ls : List (List Int)}, RowsT w vs ls → RowsT w' vs ls
  | [], [], _ => trivial
  | _ :: _, _ :: _, hr => ⟨h _ _ hr.1, RowsT.imp h hr.2⟩
  | [], _ :: _, hr => hr.elim
  | _ :: _, [], hr => hr.elim
theorem RowsT.mono {w w' : World} {vs : List Value} {ls : List (List Int)} (h : RowsT w vs ls) (hb : Below w.heap.size w w') : RowsT w' vs ls := h.imp fun _ _ h => h.mono hb
theorem RowsT.append {w : World} : ∀ {vs us : List Value} {ls ks : List (List Int)}, RowsT w vs ls → RowsT w us ks → RowsT w (vs ++ us) (ls ++ ks)
  | [], _, [], _, _, h => h
  | _ :: _, _, _ :: _, _, h1, h => ⟨h1.1, RowsT.append h1.2 h⟩
  | [], _, _ :: _, _, h1, _ => h1.elim
  | _ :: _, _, [], _, h1, _ => h1.elim
theorem RowsT.get {w : World} : ∀ {vs : List Value} {ls : List (List Int)} {i : Nat} {l : List Int}, RowsT w vs ls → ls[i]? = some l → ∃ v, vs[i]? = some v ∧ SliceIs w v l
  | v :: _, k :: _, 0, l, h, e => ⟨v, rfl, by simp at e; exact e ▸ h.1⟩
  | _ :: _, _ :: _, i + 1, l, h, e => by simpa using RowsT.get (i := i) h.2 (by simpa using e)
  | [], [], i, l, _, e => by simp at e
  | [], _ :: _, _, _, h, _ => h.elim
  | _ :: _, [], _, _, h, _ => h.elim
theorem RowsT.one {w : World} : ∀ {vs : List Value} {ls : List (List Int)}, RowsT w vs ls → ∀ u ∈ vs, u.oneCell' = true
  | [], [], _, u, hu => by cases hu
  | v :: vs, l :: ls, h, u, hu => by
    rcases List.mem_cons.1 hu with rfl | hu
    · obtain ⟨A, c, e, _⟩ := h.1
      rw [e]; rfl
    · exact RowsT.one h.2 u hu
  | [], _ :: _, h, _, _ => h.elim
  | _ :: _, [], h, _, _ => h.elim
/-- a row of lists of the call's own -/
def Listed (base : Nat) (w : World) (L : List (List Int)) (v : Value) : Prop := ∃ vs, w.ownsRow base 26 1 v L.length vs ∧ RowsT w vs L
theorem Listed.mono {base : Nat} {w w' : World} {L : List (List Int)} {v : Value} (h : Listed base w L v) (hb : Below w.heap.size w w') : Listed base w' L v := by
  obtain ⟨vs, h1, h2⟩ := h
  exact ⟨vs, owns_below h1 hb, h2.mono hb⟩
theorem Listed.lower {base base' : Nat} {w : World} {L : List (List Int)} {v : Value} (h : Listed base w L v) (hb : base' ≤ base) : Listed base' w L v := by
  obtain ⟨vs, h1, h2⟩ := h
  exact ⟨vs, owns_lower h1 hb, h2⟩
/-- one row of lists behind another one -/
theorem Listed.more {base : Nat} {w w' : World} {L K : List (List Int)} {v v' : Value} {vs us : List Value} (h1 : w.ownsRow base 26 1 v L.length vs) (h2 : RowsT w vs L) (h3 : RowsT w us K) (hown : w'.ownsRow base 26 1 v' (L.length + K.length) (vs ++ us)) (hg : w.grownBy w' v.ownBlock) : Listed base w' (L ++ K) v' :=
  ⟨vs ++ us, by rw [List.length_append]; exact hown, (h2.append h3).imp fun _ _ h => h.grown hg fun g e => (owns_typed h1 g e).2⟩
/-- what is read at a place of a row of lists -/
theorem Listed.at_ {base : Nat} {w : World} {L : List (List Int)} {g c k : Nat} {vs : List Value} {l : List Int} (h1 : w.ownsRow base 26 1 (.slice (some ⟨g, 0, none⟩) L.length c) L.length vs) (h2 : RowsT w vs L) (hk : L[k]? = some l) :
    ∃ A m d, w.cell? ⟨g, k, none⟩ = some (.slice A m d) ∧ m = l.length ∧ IntsAt w A m (gOf l) ∧ SliceIs w (.slice A m d) l := by
  obtain ⟨v, e1, A, d, rfl, e2, e3⟩ := h2.get hk
  have := h1.cells (g := g) rfl k _ e1
  rw [show (⟨g, 0, none⟩ : Addr).add k = ⟨g, 0 + k, none⟩ from by unfold Addr.add; split <;> simp_all, Nat.zero_add] at this
  exact ⟨A, _, d, this, rfl, e2, A, d, rfl, e2, e3⟩
end Go.Proofs.YtjpfdhhiofjpbaaGreatDoor

/- Shafts (from the texts of the shafts). -/
namespace Go.Proofs.YtjpfdhhiofjpbaaGreatDoor
open Go.RowKit Go.Sort
/-- what the loop of Within holds behind k plans -/
structure WithinTo (S : Sh) (L : List (List Int)) (h : Int) (k : Nat) (n : Int) (fd : Bool) : Prop where
  no : fd = false → n = 0 ∧ ∀ (j : Nat) l, j < k → L[j]? = some l → ¬ S.hoursOf l.length ≤ h
  yes : fd = true → (∃ l ∈ L, S.hoursOf l.length ≤ h ∧ S.costOf l.length (gOf l) = n) ∧ ∀ (j : Nat) l, j < k → L[j]? = some l → S.hoursOf l.length ≤ h → n ≤ S.costOf l.length (gOf l)
theorem WithinTo.skip {S : Sh} {L : List (List Int)} {h : Int} {k : Nat} {n : Int} {fd : Bool} {l : List Int} (t : WithinTo S L h k n fd) (hl : L[k]? = some l) (hn : fd = false → ¬ S.hoursOf l.length ≤ h) (hy : fd = true → S.hoursOf l.length ≤ h → n ≤ S.costOf l.length (gOf l)) : WithinTo S L h (k + 1) n fd := by
  refine ⟨fun e => ⟨(t.no e).1, fun j l' hj hl' => ?_⟩, fun e => ⟨(t.yes e).1, fun j l' hj hl' => ?_⟩⟩
  · rcases Nat.lt_or_ge j k with h1 | h1
    · exact (t.no e).2 j l' h1 hl'
    · obtain rfl : j = k := by omega
      rw [hl] at hl'
      injection hl' with hl'
      subst hl'
      exact hn e
  · rcases Nat.lt_or_ge j k with h1 | h1
    · exact (t.yes e).2 j l' h1 hl'
    · obtain rfl : j = k := by omega
      rw [hl] at hl'
      injection hl' with hl'
      subst hl'
      exact hy e
theorem WithinTo.take {S : Sh} {L : List (List Int)} {h : Int} {k : Nat} {n : Int} {fd : Bool} {l : List Int} (t : WithinTo S L h k n fd) (hl : L[k]? = some l) (hh : S.hoursOf l.length ≤ h) (hy : fd = true → S.costOf l.length (gOf l) ≤ n) : WithinTo S L h (k + 1) (S.costOf l.length (gOf l)) true := by
  refine ⟨(fun e => by cases e), fun _ => ⟨⟨l, List.mem_of_getElem? hl, hh, rfl⟩, fun j l' hj hl' hh' => ?_⟩⟩
  rcases Nat.lt_or_ge j k with h1 | h1
  · cases fd with
    | false => exact absurd hh' ((t.no rfl).2 j l' h1 hl')
    | true => have := (t.yes rfl).2 j l' h1 hl' hh'; have := hy rfl; omega
  · obtain rfl : j = k := by omega
    rw [hl] at hl'
    injection hl' with hl'
    subst hl'
    exact Int.le_refl _
end Go.Proofs.YtjpfdhhiofjpbaaGreatDoor

/- Walks of the reference of places: PriceOf, Near, Price, IsForbidden, LeftOf, known, forbids, Forbids, WhoOf, Who. Conditions: lengths are Go's; of those that ask of a valid town: a valid town. -/
namespace Go.Proofs.YtjpfdhhiofjpbaaGreatDoor
open Go.RowKit Go.Sort
theorem cheap_err {t : Pt} (ok : t.Ok) {s : Nat} (hs : s < t.ns) : (t.cheap s).2 = 0 ∨ (t.cheap s).2 = 3 := by
  rcases out_cases (ok.spot s hs).sh with ⟨_, m, n, _, h, _⟩ | ⟨_, _, h⟩
  · exact .inl (by unfold Pt.cheap; rw [h])
  · exact .inr (by unfold Pt.cheap; rw [h])
set_option maxHeartbeats 8000000 in
set_option maxRecDepth 100000 in
theorem isForb9_any (Aw Af Ao Ap As : Option Addr) (cw cf co cp cs : Nat) (t : Pt) (a i v : Nat) (w : World) (ok : t.Ok) (hT : PAt w Aw Af Ao Ap As t) (hi : i < t.ns) (hv : (v : Int) < t.q.wells) (ha : a < t.q.nw) :
    Calls Tryz.prog 44 #[.agg #[.int .i64 t.q.wells, .slice Aw t.q.nw cw, .slice Af t.q.nf cf, .slice Ao t.no co, .slice Ap t.np cp, .slice As t.ns cs, .int .i64 t.far, .int .i64 t.harm, .int .i64 t.many], .int .i64 (a : Int), .int .i64 (i : Int), .int .i64 (v : Int)] w fun e w' => e = .returned (.bool (t.forb i v (a : Int))) ∧ Below w.heap.size w w' := by
  obtain ⟨b, o, Ar, Af2, Ax, cr, cf2, cx, hA, hb7, hsh, hrow, s0, s1, s2, s3, s4, s5, s6⟩ := hT.spots.get hi
  have hxs := ok.spot i hi
  have hi1 : (i : Int) < (t.ns : Int) := by omega
  have hi0 : (0 : Int) ≤ (i : Int) := by omega
  obtain ⟨x, hxx⟩ : ∃ x, t.spot i = x := ⟨_, rfl⟩
  rw [hxx] at s0 s1 s2 s3 s4 s5 s6 hsh hrow hxs
  subst hA
  have hvn : v < t.no := by have := ok.no; omega
  obtain ⟨bo, oo, hO, hbo, co0⟩ := hT.old.get hvn
  obtain ⟨br, or_, bq, oq, cq, hR, hbr, r0, hbq, r1⟩ := hrow.get (k := a) (j := v) (by rw [hxs.n]; exact ha) (by have := hxs.len a (by rw [hxs.n]; exact ha); omega)
  have hxa := And.intro hxs.a0 hxs.a1
  have hol := ok.old v hvn
  have hfa := hxs.fall a (by rw [hxs.n]; exact ha) v (by have := hxs.len a (by rw [hxs.n]; exact ha); omega)
  have hmm := ok.many
  have hln : (v : Int) < (x.fl.len a : Int) := by have := hxs.len a (by rw [hxs.n]; exact ha); omega
  have han : (a : Int) < (x.fl.n : Int) := by have := hxs.n; omega
  have hvo : (v : Int) < (t.no : Int) := by omega
  obtain ⟨fa, hfx⟩ : ∃ f, x.fl.fall a v = f := ⟨_, rfl⟩
  obtain ⟨u, hu⟩ : ∃ u, t.old v = u := ⟨_, rfl⟩
  rw [hfx] at r1 hfa
  rw [hu] at co0 hol
  obtain ⟨d, hd⟩ : ∃ d, dst x.at_ u = d := ⟨_, rfl⟩
  have hwr : IntKind.i64.wrap (fa * t.many) = fa * t.many := IntWalk.i64_in _ (by
    have h1 : 0 ≤ fa * t.many := Int.mul_nonneg hfa.1 hmm.1
    have h2 : fa * t.many ≤ 9 * 9 := Int.mul_le_mul hfa.2 hmm.2 hmm.1 (by decide)
    omega)
  have HF := Lib.hid (show t.forb i v (a : Int) = (decide (d < t.far) || decide (t.harm < fa * t.many)) by unfold Pt.forb; rw [Int.toNat_natCast, hxx, hu, dst_comm, hd, ← hfx])
  have HDI := Lib.hid (fun w' => hd ▸ dist9_any x.at_ u w' hxa hol : ∀ w' : World, Calls Tryz.prog 58 #[.int .i64 x.at_, .int .i64 u] w' fun e w'' => e = .returned (.int .i64 d) ∧ Below w'.heap.size w' w'')
  subst hO hR
  rw [HF.out]
  clear hvn hsh hrow hxs hxx hi hxa hol hfa hmm hd hfx hu HF ha hv ok
  have HD0 := Lib.hid (Below.refl w.heap.size w)
  go_enter Tryz.func44, Tryz.ntmps44
  go_wp2_with fail
  by_cases hdf : d < t.far
  case pos =>
    have hdd : decide (d < t.far) = true := by simpa using hdf
    refine wp_region_quiet_below (by kernel_rfl) (by kernel_rfl) ?_
    repeat (go_big_quiet_step ((go_at_call 58; exact Calls.regrown_of (HDI.out _))))
    refine wpQuiet_nil ?_
    intro w1 hw9
    have hb := below_of_regrown hw9
    clear hw9
    have hB1 : Below w.heap.size w w1 := bTrans (bAlloc (Below.refl _ _) (.cells #[.int .i64 t.q.wells, .slice Aw t.q.nw cw, .slice Af t.q.nf cf, .slice (some ⟨bo, oo, none⟩) t.no co, .slice Ap t.np cp, .slice (some ⟨b, o, none⟩) t.ns cs, .int .i64 t.far, .int .i64 t.harm, .int .i64 t.many] 29)) hb
    have HD1 := Lib.hid (bTrans HD0.out hB1)
    have T1 := Lib.hid (show TBox w1 w.heap.size 29 #[.int .i64 t.q.wells, .slice Aw t.q.nw cw, .slice Af t.q.nf cf, .slice (some ⟨bo, oo, none⟩) t.no co, .slice Ap t.np cp, .slice (some ⟨b, o, none⟩) t.ns cs, .int .i64 t.far, .int .i64 t.harm, .int .i64 t.many] from by have := ((TBox.new w #[.int .i64 t.q.wells, .slice Aw t.q.nw cw, .slice Af t.q.nf cf, .slice (some ⟨bo, oo, none⟩) t.no co, .slice Ap t.np cp, .slice (some ⟨b, o, none⟩) t.ns cs, .int .i64 t.far, .int .i64 t.harm, .int .i64 t.many] 29).mono (Below.refl _ _)).mono hb; simpa using this)
    clear hb hB1 HD0
    obtain ⟨T_0, T_1, T_2, T_3, T_4, T_5, T_6, T_7, T_8, T_l⟩ := T1.out.c9
    go_wp2_with fail
    go_ret
    exact ⟨by simp [hdd], HD1.out⟩
  have hdd : decide (d < t.far) = false := by simpa using hdf
  cases hbh : decide (t.harm < fa * t.many)
  · skip
    refine wp_region_quiet_below (by kernel_rfl) (by kernel_rfl) ?_
    repeat (go_big_quiet_step ((go_at_call 58; exact Calls.regrown_of (HDI.out _))))
    refine wpQuiet_nil ?_
    intro w1 hw9
    have hb := below_of_regrown hw9
    clear hw9
    have hB1 : Below w.heap.size w w1 := bTrans (bAlloc (Below.refl _ _) (.cells #[.int .i64 t.q.wells, .slice Aw t.q.nw cw, .slice Af t.q.nf cf, .slice (some ⟨bo, oo, none⟩) t.no co, .slice Ap t.np cp, .slice (some ⟨b, o, none⟩) t.ns cs, .int .i64 t.far, .int .i64 t.harm, .int .i64 t.many] 29)) hb
    have HD1 := Lib.hid (bTrans HD0.out hB1)
    have T1 := Lib.hid (show TBox w1 w.heap.size 29 #[.int .i64 t.q.wells, .slice Aw t.q.nw cw, .slice Af t.q.nf cf, .slice (some ⟨bo, oo, none⟩) t.no co, .slice Ap t.np cp, .slice (some ⟨b, o, none⟩) t.ns cs, .int .i64 t.far, .int .i64 t.harm, .int .i64 t.many] from by have := ((TBox.new w #[.int .i64 t.q.wells, .slice Aw t.q.nw cw, .slice Af t.q.nf cf, .slice (some ⟨bo, oo, none⟩) t.no co, .slice Ap t.np cp, .slice (some ⟨b, o, none⟩) t.ns cs, .int .i64 t.far, .int .i64 t.harm, .int .i64 t.many] 29).mono (Below.refl _ _)).mono hb; simpa using this)
    clear hb hB1 HD0
    obtain ⟨T_0, T_1, T_2, T_3, T_4, T_5, T_6, T_7, T_8, T_l⟩ := T1.out.c9
    go_wp2_with fail
    go_ret
    exact ⟨by simp [hdd, hbh], HD1.out⟩
  · skip
    refine wp_region_quiet_below (by kernel_rfl) (by kernel_rfl) ?_
    repeat (go_big_quiet_step ((go_at_call 58; exact Calls.regrown_of (HDI.out _))))
    refine wpQuiet_nil ?_
    intro w1 hw9
    have hb := below_of_regrown hw9
    clear hw9
    have hB1 : Below w.heap.size w w1 := bTrans (bAlloc (Below.refl _ _) (.cells #[.int .i64 t.q.wells, .slice Aw t.q.nw cw, .slice Af t.q.nf cf, .slice (some ⟨bo, oo, none⟩) t.no co, .slice Ap t.np cp, .slice (some ⟨b, o, none⟩) t.ns cs, .int .i64 t.far, .int .i64 t.harm, .int .i64 t.many] 29)) hb
    have HD1 := Lib.hid (bTrans HD0.out hB1)
    have T1 := Lib.hid (show TBox w1 w.heap.size 29 #[.int .i64 t.q.wells, .slice Aw t.q.nw cw, .slice Af t.q.nf cf, .slice (some ⟨bo, oo, none⟩) t.no co, .slice Ap t.np cp, .slice (some ⟨b, o, none⟩) t.ns cs, .int .i64 t.far, .int .i64 t.harm, .int .i64 t.many] from by have := ((TBox.new w #[.int .i64 t.q.wells, .slice Aw t.q.nw cw, .slice Af t.q.nf cf, .slice (some ⟨bo, oo, none⟩) t.no co, .slice Ap t.np cp, .slice (some ⟨b, o, none⟩) t.ns cs, .int .i64 t.far, .int .i64 t.harm, .int .i64 t.many] 29).mono (Below.refl _ _)).mono hb; simpa using this)
    clear hb hB1 HD0
    obtain ⟨T_0, T_1, T_2, T_3, T_4, T_5, T_6, T_7, T_8, T_l⟩ := T1.out.c9
    go_wp2_with fail
    go_ret
    exact ⟨by simp [hdd, hbh], HD1.out⟩
end Go.Proofs.YtjpfdhhiofjpbaaGreatDoor
/- Walks of the reference of places: LeftOf, known, forbids, Forbids, WhoOf, Who. Conditions: lengths are Go's; of those that ask of a valid town: a valid town. -/
namespace Go.Proofs.YtjpfdhhiofjpbaaGreatDoor
open Go.RowKit Go.Sort
/-- what known hands back -/
def Kn9 (w : World) (t : Pt) (er : Int) (e : Ending) : Prop := (er ≠ 0 → e = .returned (.tuple #[.slice none 0 0, .int .i64 er])) ∧ (er = 0 → ∃ A c, e = .returned (.tuple #[.slice A t.q.leftL.length c, .int .i64 0]) ∧ IntsAt w A t.q.leftL.length (intL0 t.q.leftL))
theorem Kn9.ret {w : World} {t : Pt} {er : Int} {e : Ending} (h : Kn9 w t er e) : ∃ v, e = .returned v := by
  by_cases h0 : er = 0
  · obtain ⟨A, c, h1, _⟩ := h.2 h0
    exact ⟨_, h1⟩
  · exact ⟨_, h.1 h0⟩
set_option maxHeartbeats 4000000 in
set_option maxRecDepth 100000 in
theorem leftOf9_any (Aw Af Ao Ap As : Option Addr) (cw cf co cp cs : Nat) (t : Pt) (w : World) (ok : t.Ok) (hT : PAt w Aw Af Ao Ap As t) :
    Calls Tryz.prog 42 #[.agg #[.int .i64 t.q.wells, .slice Aw t.q.nw cw, .slice Af t.q.nf cf, .slice Ao t.no co, .slice Ap t.np cp, .slice As t.ns cs, .int .i64 t.far, .int .i64 t.harm, .int .i64 t.many]] w fun e w' => (∃ A c, e = .returned (.slice A t.q.leftL.length c) ∧ IntsAt w' A t.q.leftL.length (intL0 t.q.leftL)) ∧ Below w.heap.size w w' := by
  have HD0 := Lib.hid (Below.refl w.heap.size w)
  have HOK := Lib.hid ok
  have HT0 := Lib.hid hT
  clear ok hT
  go_enter Tryz.func42, Tryz.ntmps42
  go_wp2_with fail
  refine (refLeftOf Aw Af cw cf t.q _ HOK.out.q (HT0.out.mono (bAlloc (Below.refl _ _) (.cells #[.int .i64 t.q.wells, .slice Aw t.q.nw cw, .slice Af t.q.nf cf, .slice Ao t.no co, .slice Ap t.np cp, .slice As t.ns cs, .int .i64 t.far, .int .i64 t.harm, .int .i64 t.many] 29))).q).mono ?_
  rintro e w1 ⟨⟨v, rfl, hv⟩, hb⟩
  obtain ⟨A4, c4, rfl, hi4, _⟩ := left_base hv
  have hB1 : Below w.heap.size w w1 := bTrans (bAlloc (Below.refl _ _) (.cells #[.int .i64 t.q.wells, .slice Aw t.q.nw cw, .slice Af t.q.nf cf, .slice Ao t.no co, .slice Ap t.np cp, .slice As t.ns cs, .int .i64 t.far, .int .i64 t.harm, .int .i64 t.many] 29)) hb
  have HD1 := Lib.hid (bTrans HD0.out hB1)
  have HT1 := Lib.hid (HT0.out.mono hB1)
  have HI41 := Lib.hid (hi4)
  have T1 := Lib.hid (show TBox w1 w.heap.size 29 #[.int .i64 t.q.wells, .slice Aw t.q.nw cw, .slice Af t.q.nf cf, .slice Ao t.no co, .slice Ap t.np cp, .slice As t.ns cs, .int .i64 t.far, .int .i64 t.harm, .int .i64 t.many] from by have := ((TBox.new w #[.int .i64 t.q.wells, .slice Aw t.q.nw cw, .slice Af t.q.nf cf, .slice Ao t.no co, .slice Ap t.np cp, .slice As t.ns cs, .int .i64 t.far, .int .i64 t.harm, .int .i64 t.many] 29).mono (Below.refl _ _)).mono hb; simpa using this)
  clear hb hB1 HD0 HT0
  obtain ⟨T_0, T_1, T_2, T_3, T_4, T_5, T_6, T_7, T_8, T_l⟩ := T1.out.c9
  clear hv hi4
  go_wp2_with fail
  go_ret
  exact ⟨⟨A4, c4, rfl, HI41.out⟩, HD1.out⟩
end Go.Proofs.YtjpfdhhiofjpbaaGreatDoor
/- Walks of the reference of places: FreeOf, Free, Best, WholeOf, Whole, Cheapest, Pair. Conditions: lengths are Go's; of those that ask of a valid town: a valid town. -/
namespace Go.Proofs.YtjpfdhhiofjpbaaGreatDoor
open Go.RowKit Go.Sort
end Go.Proofs.YtjpfdhhiofjpbaaGreatDoor
/- Walks of the reference of places: WholeOf, Whole, Cheapest, Pair. Conditions: lengths are Go's; of those that ask of a valid town: a valid town. -/
namespace Go.Proofs.YtjpfdhhiofjpbaaGreatDoor
open Go.RowKit Go.Sort
theorem minBy_lt {f : Nat → Int} {p : Nat → Bool} {n b : Nat} (h : minBy f p n = some b) : b < n ∧ p b = true := by
  rcases minBy_spec f p n with ⟨h1, _⟩ | ⟨c, h1, h2, h3, _⟩
  · rw [h1] at h; cases h
  · rw [h1] at h; obtain rfl := Option.some.inj h; exact ⟨h2, h3⟩
end Go.Proofs.YtjpfdhhiofjpbaaGreatDoor
/- The example town of chapter 9, as data; what the program says of it; how the walk of Example carries its rows. No program in sight. -/
namespace Go.Proofs.YtjpfdhhiofjpbaaGreatDoor
open Go.RowKit Go.Sort
def exPw (i : Nat) : Wd := ⟨2, fun _ => 2, fun k j => if k = 0 then (if j = 0 then 1 else if i = 0 then 0 else 2) else (if j = 0 then 0 else 1)⟩
def exPq : Qt := ⟨2, 2, exPw, 0, fun _ => ⟨0, 0, 0, 0, 0⟩⟩
def exPr : Rock := ⟨1, 5, 3, 2⟩
def exPsh (n : Nat) : Sh := ⟨1, fun _ => exPr, n, fun _ => 0, 0, 0, 0⟩
def exPf (s : Nat) : Wd := ⟨2, fun _ => 2, fun k j => if s = 0 then 0 else if s = 1 then (if j = 0 then 1 else if k = 0 then 2 else 3) else (if j = 0 then 0 else 2)⟩
def exPn (s : Nat) : Nat := if s = 0 then 3 else if s = 1 then 4 else 6
def exPa (s : Nat) : Int := if s = 0 then 15 else if s = 1 then 30 else 80
def exPs (s : Nat) : Spot := ⟨exPa s, exPsh (exPn s), exPf s⟩
def exP : Pt := ⟨exPq, 2, fun i => if i = 0 then 10 else 50, 2, fun i => if i = 0 then 7 else 4, 3, exPs, 8, 6, 3⟩
theorem exPw_ok (i : Nat) : (exPw i).Ok 2 :=
  ⟨rfl, fun _ _ => rfl, fun k _ j _ => by
    unfold exPw
    simp only
    repeat' split
    all_goals omega⟩
theorem exPq_ok : exPq.Ok := ⟨by decide, by decide, by decide, by decide, fun i _ => exPw_ok i, fun i hi => absurd hi (Nat.not_lt_zero _)⟩
theorem exPn_le (s : Nat) : 3 ≤ exPn s ∧ exPn s ≤ 6 := by
  unfold exPn
  repeat' split
  all_goals omega
theorem exPa_in (s : Nat) : 0 ≤ exPa s ∧ exPa s ≤ 99 := by
  unfold exPa
  repeat' split
  all_goals omega
theorem exPsh_ok {n : Nat} (hn : n ≤ 12) : (exPsh n).Ok :=
  ⟨by show 1 ≤ 4; decide, hn, fun i _ => ⟨by show (0 : Int) ≤ 1; decide, by show (1 : Int) ≤ 9; decide, by show (0 : Int) ≤ 5; decide, by show (5 : Int) ≤ 99; decide, by show (0 : Int) ≤ 3; decide, by show (3 : Int) ≤ 12; decide, by show (-1 : Int) ≤ 2; decide, by show (2 : Int) ≤ 99; decide⟩, fun i _ => by show (0 : Int) ≤ 0; decide, fun i _ => by show (0 : Int) < ((1 : Nat) : Int); decide, by show (0 : Int) ≤ 0; decide, by show (0 : Int) ≤ 9; decide, by show (0 : Int) ≤ 0; decide, by show (0 : Int) ≤ 9; decide, by show (0 : Int) ≤ 0; decide, by show (0 : Int) ≤ 9; decide⟩
theorem exPs_ok (s : Nat) : (exPs s).Ok 2 2 :=
  ⟨(exPa_in s).1, (exPa_in s).2, exPsh_ok (by have := exPn_le s; omega), rfl, fun _ _ => rfl, fun k _ j _ => by
    show 0 ≤ (exPf s).fall k j ∧ (exPf s).fall k j ≤ 9
    unfold exPf
    simp only
    repeat' split
    all_goals omega⟩
theorem exP_ok : exP.Ok :=
  ⟨exPq_ok, rfl, rfl, by decide, by decide, by decide, by decide, fun i _ => by show 0 ≤ (if i = 0 then (10 : Int) else 50) ∧ (if i = 0 then (10 : Int) else 50) ≤ 99; split <;> omega, fun i _ => by show 0 ≤ (if i = 0 then (7 : Int) else 4) ∧ (if i = 0 then (7 : Int) else 4) ≤ 99; split <;> omega, fun s _ => exPs_ok s⟩
theorem exP_small : exP.Small :=
  ⟨⟨by decide, by decide, fun i _ k _ => by show 2 ≤ _; decide⟩, by decide, by decide, by decide, fun s _ => ⟨by show 1 ≤ _; decide, by show exPn s ≤ _; have := exPn_le s; omega, by show 2 ≤ _; decide, fun k _ => by show 2 ≤ _; decide⟩⟩
theorem exP_left : exP.q.leftL = [0, 1] := by decide +kernel
theorem exP_know : exP.knowErr true = 0 := Pt.knowErr_ok exP_ok (by rw [exP_left]; decide)
theorem exP_cheap0 : exP.cheap 0 = (17, 0) := by
  show (exPsh 3).cheapOut = _
  rw [cheapOut_some (exPsh_ok (by decide)) (by decide +kernel)]
  decide +kernel
theorem exP_cheap1 : exP.cheap 1 = (24, 0) := by
  show (exPsh 4).cheapOut = _
  rw [cheapOut_some (exPsh_ok (by decide)) (by decide +kernel)]
  decide +kernel
theorem exP_cheap2 : exP.cheap 2 = (34, 0) := by
  show (exPsh 6).cheapOut = _
  rw [cheapOut_some (exPsh_ok (by decide)) (by decide +kernel)]
  decide +kernel
def exC (s : Nat) : Int := if s = 0 then 17 else if s = 1 then 24 else 34
theorem three {p : Nat → Prop} (h0 : p 0) (h1 : p 1) (h2 : p 2) : ∀ s, s < 3 → p s := fun s hs => by
  rcases (by omega : s = 0 ∨ s = 1 ∨ s = 2) with rfl | rfl | rfl
  · exact h0
  · exact h1
  · exact h2
theorem exP_cheap : ∀ s, s < 3 → exP.cheap s = (exC s, 0) := three exP_cheap0 exP_cheap1 exP_cheap2
theorem exP_can {h : Int} : ∀ s, s < 3 → (exP.harmed h).canB s = true := fun s hs => by
  show decide ((exP.cheap s).2 = 0) = true
  rw [exP_cheap s hs]; rfl
theorem exP_canB : ∀ s, s < 3 → exP.canB s = true := fun s hs => by
  show decide ((exP.cheap s).2 = 0) = true
  rw [exP_cheap s hs]; rfl
theorem exP_freeB : ∀ s, s < 3 → exP.freeB s = !exP.whoAny s := fun s hs => by unfold Pt.freeB; rw [exP_canB s hs]; rfl
theorem exP_best : exP.best = some 2 := by
  unfold Pt.best
  rw [show exP.ns = 3 from rfl, minBy_congr (g := exC) (q := fun s => !exP.whoAny s) 3 fun i hi => ⟨by rw [exP_cheap i hi], exP_freeB i hi⟩]
  decide +kernel
theorem exP_loosen : exP.loosen = 6 := by
  unfold Pt.loosen
  have e : ∀ h : Nat, (exP.harmed (h : Int)).anyFree = anyB (fun s => !(exP.harmed (h : Int)).whoAny s) 3 := fun h => by
    unfold Pt.anyFree
    exact anyB_congr fun s hs => by unfold Pt.freeB; rw [exP_can s hs]; rfl
  rw [firstFrom_congr (q := fun h : Nat => anyB (fun s => !(exP.harmed (h : Int)).whoAny s) 3) fun h _ _ => e h]
  decide +kernel
def exWh (s : Nat) : Int := exC s + exP.askedTo s exP.m
theorem exP_whole : ∀ s, s < 3 → exP.whole s = exWh s := fun s hs => by unfold Pt.whole exWh; rw [exP_cheap s hs]
def pairInC (may : Nat → Nat → Bool) (wh : Nat → Int) (a : Nat) : Nat → Pr → Pr
  | 0, x => x
  | b + 1, x => if may a b && (decide ((pairInC may wh a b x).least < 0) || decide (wh a + wh b < (pairInC may wh a b x).least)) then ⟨a, b, wh a + wh b⟩ else pairInC may wh a b x
def pairToC (may : Nat → Nat → Bool) (wh : Nat → Int) (n : Nat) : Nat → Pr
  | 0 => ⟨0, 0, -1⟩
  | a + 1 => pairInC may wh a n (pairToC may wh n a)
theorem pairIn_C {t : Pt} {may : Nat → Nat → Bool} {wh : Nat → Int} (hm : ∀ a b, a < t.ns → b < t.ns → t.mayB a b = may a b) (hw : ∀ a, a < t.ns → t.whole a = wh a) {a : Nat} (ha : a < t.ns) (x : Pr) : ∀ n, n ≤ t.ns → t.pairIn a n x = pairInC may wh a n x
  | 0, _ => rfl
  | n + 1, hn => by
    have ih := pairIn_C hm hw ha x n (by omega)
    unfold Pt.pairIn pairInC
    rw [ih, hm a n ha (by omega), hw a ha, hw n (by omega)]
theorem pairTo_C {t : Pt} {may : Nat → Nat → Bool} {wh : Nat → Int} (hm : ∀ a b, a < t.ns → b < t.ns → t.mayB a b = may a b) (hw : ∀ a, a < t.ns → t.whole a = wh a) : ∀ n, n ≤ t.ns → t.pairTo n = pairToC may wh t.ns n
  | 0, _ => rfl
  | n + 1, hn => by
    unfold Pt.pairTo pairToC
    rw [pairTo_C hm hw n (by omega), pairIn_C hm hw (by omega) _ _ (Nat.le_refl _)]
def exMay (a b : Nat) : Bool := decide (a < b) && decide (exP.far ≤ dst (exP.spot a).at_ (exP.spot b).at_)
theorem exP_may : ∀ a b, a < exP.ns → b < exP.ns → exP.mayB a b = exMay a b := fun a b ha hb => by
  unfold Pt.mayB exMay
  rw [exP_canB a ha, exP_canB b hb]
  rfl
theorem exP_pair : exP.pairOut = (0, 1, 0) := by
  unfold Pt.pairOut
  rw [exP_know, if_pos rfl]
  unfold Pt.pair
  rw [pairTo_C exP_may (fun a ha => exP_whole a ha) exP.ns (Nat.le_refl _)]
  decide +kernel
theorem exP_ask (b : Bool) : exP.askErr b = if b then 0 else 1 := by
  cases b
  · exact Pt.askErr_arg exP_ok
  · exact Pt.askErr_ok exP_ok
theorem exP_has : exP.hasB 1 = true ∧ exP.hasB 2 = true := by decide
theorem exP_old : exP.oldB 1 = true := by decide +kernel
theorem exP_near : exP.nearOut 1 = (20, 0) := by
  unfold Pt.nearOut
  rw [exP_has.1, exP_ask, if_pos rfl, if_pos rfl]
  decide +kernel
theorem exP_price : exP.priceOut 2 = (34, 0) := by
  unfold Pt.priceOut
  rw [exP_has.2, exP_ask, if_pos rfl, if_pos rfl]
  exact exP_cheap2
theorem exP_forbids : exP.forbidsOut 1 1 = (3, 0) := by
  unfold Pt.forbidsOut
  rw [exP_has.1, exP_old, show (true && true) = true from rfl, exP_know, if_pos rfl]
  decide +kernel
theorem exP_who : exP.who 1 = [1] := by decide +kernel
theorem exP_bestOut : exP.bestOut = (2, 0) := by
  unfold Pt.bestOut
  rw [exP_know, if_pos rfl, exP_best]
  rfl
theorem exP_loosenOut : exP.loosenOut = (6, 0) := by
  unfold Pt.loosenOut
  rw [exP_know, if_pos rfl, exP_loosen]
  rfl
/-! ### rows that a region makes in whatever order -/
/-- so it is in each world in which what was made stands -/
def Fut (N : Nat) (Q : World → Prop) (w : World) : Prop := ∀ w' : World, w.heap.size ≤ w'.heap.size → (∀ k, N ≤ k → k < w.heap.size → w'.heap[k]? = w.heap[k]?) → Q w'
theorem Fut.mono {N : Nat} {Q : World → Prop} {w w' : World} (h : Fut N Q w) (hb : Below w.heap.size w w') : Fut N Q w' := fun w2 h1 h2 => h w2 (Nat.le_trans hb.size h1) fun k hk hl => (h2 k hk (Nat.lt_of_lt_of_le hl hb.size)).trans (hb.block k hl)
theorem fut_new {N : Nat} {w : World} {cs : Array Value} {ty : TypeId} {Q : World → Prop} (hN : N ≤ w.heap.size) (h : ∀ w' : World, w.heap.size < w'.heap.size → TBox w' w.heap.size ty cs → (∀ R : World → Prop, Fut N R w → R w') → Q w') : Fut N Q (w.alloc (.cells cs ty)) := fun w' h1 h2 => by
  simp only [World.size_alloc] at h1 h2
  refine h w' (by omega) ((h2 w.heap.size hN (by omega)).trans (heap_alloc_new _ _)) fun R hR => hR w' (by omega) fun k hk hl => (h2 k hk (by omega)).trans (Below.heap_alloc _ _ _ hl)
def SlS (n : Nat) (v : Value) : Prop := ∃ b, v = .slice (some ⟨b, 0, none⟩) n n
def SlR (n N : Nat) (P : World → Option Addr → Prop) (w : World) (v : Value) : Prop := ∀ b, v = .slice (some ⟨b, 0, none⟩) n n → Fut N (fun w => P w (some ⟨b, 0, none⟩)) w
theorem slrG {n N : Nat} {P : World → Option Addr → Prop} : (Stir.held (SlS n) (SlR n N P)).good := ⟨⟨_, 0, rfl⟩, fun _ _ _ hb h b e => (h b e).mono hb⟩
theorem slr_of {n N : Nat} {P : World → Option Addr → Prop} {w : World} {b : Nat} (h : Fut N (fun w => P w (some ⟨b, 0, none⟩)) w) : SlR n N P w (.slice (some ⟨b, 0, none⟩) n n) := fun b' e => by
  obtain rfl : b = b' := by simpa using e
  exact h
def WlS (v : Value) : Prop := ∃ b, v = .agg #[.slice (some ⟨b, 0, none⟩) 2 2]
def WlR (N : Nat) (P : World → Option Addr → Prop) (w : World) (v : Value) : Prop := ∀ b, v = .agg #[.slice (some ⟨b, 0, none⟩) 2 2] → Fut N (fun w => P w (some ⟨b, 0, none⟩)) w
theorem wlrG {N : Nat} {P : World → Option Addr → Prop} : (Stir.held WlS (WlR N P)).good := ⟨⟨_, 0, rfl⟩, fun _ _ _ hb h b e => (h b e).mono hb⟩
theorem wlr_of {N : Nat} {P : World → Option Addr → Prop} {w : World} {b : Nat} (h : Fut N (fun w => P w (some ⟨b, 0, none⟩)) w) : WlR N P w (.agg #[.slice (some ⟨b, 0, none⟩) 2 2]) := fun b' e => by
  obtain rfl : b = b' := by simpa using e
  exact h
def TwS (v : Value) : Prop := ∃ b, v = .agg #[.int .i64 2, .slice (some ⟨b, 0, none⟩) 2 2, .slice none 0 0]
def TwR (N : Nat) (P : World → Option Addr → Prop) (w : World) (v : Value) : Prop := ∀ b, v = .agg #[.int .i64 2, .slice (some ⟨b, 0, none⟩) 2 2, .slice none 0 0] → Fut N (fun w => P w (some ⟨b, 0, none⟩)) w
theorem twrG {N : Nat} {P : World → Option Addr → Prop} : (Stir.held TwS (TwR N P)).good := ⟨⟨_, 0, rfl⟩, fun _ _ _ hb h b e => (h b e).mono hb⟩
theorem twr_of {N : Nat} {P : World → Option Addr → Prop} {w : World} {b : Nat} (h : Fut N (fun w => P w (some ⟨b, 0, none⟩)) w) : TwR N P w (.agg #[.int .i64 2, .slice (some ⟨b, 0, none⟩) 2 2, .slice none 0 0]) := fun b' e => by
  obtain rfl : b = b' := by simpa using e
  exact h
def SfS (n : Nat) (v : Value) : Prop := ∃ b c, v = .agg #[.slice (some ⟨b, 0, none⟩) 1 1, .slice (some ⟨c, 0, none⟩) n n, .int .i64 0, .int .i64 0, .int .i64 0]
def SfR (n N : Nat) (w : World) (v : Value) : Prop := ∀ b c, v = .agg #[.slice (some ⟨b, 0, none⟩) 1 1, .slice (some ⟨c, 0, none⟩) n n, .int .i64 0, .int .i64 0, .int .i64 0] → Fut N (fun w => ShAt w (some ⟨b, 0, none⟩) (some ⟨c, 0, none⟩) (exPsh n)) w
theorem sfrG {n N : Nat} : (Stir.held (SfS n) (SfR n N)).good := ⟨⟨_, 0, 0, rfl⟩, fun _ _ _ hb h b c e => (h b c e).mono hb⟩
theorem sfr_of {n N : Nat} {w : World} {b c : Nat} (h : Fut N (fun w => ShAt w (some ⟨b, 0, none⟩) (some ⟨c, 0, none⟩) (exPsh n)) w) : SfR n N w (.agg #[.slice (some ⟨b, 0, none⟩) 1 1, .slice (some ⟨c, 0, none⟩) n n, .int .i64 0, .int .i64 0, .int .i64 0]) := fun b' c' e => by
  obtain ⟨rfl, rfl⟩ : b = b' ∧ c = c' := by simpa using e
  exact h
def SpS (a : Int) (n : Nat) (v : Value) : Prop := ∃ b c d, v = .agg #[.int .i64 a, .slice (some ⟨b, 0, none⟩) 1 1, .slice (some ⟨c, 0, none⟩) n n, .int .i64 0, .int .i64 0, .int .i64 0, .slice (some ⟨d, 0, none⟩) 2 2]
def SpR (a : Int) (n N : Nat) (x : Wd) (w : World) (v : Value) : Prop := ∀ b c d, v = .agg #[.int .i64 a, .slice (some ⟨b, 0, none⟩) 1 1, .slice (some ⟨c, 0, none⟩) n n, .int .i64 0, .int .i64 0, .int .i64 0, .slice (some ⟨d, 0, none⟩) 2 2] → Fut N (fun w => ShAt w (some ⟨b, 0, none⟩) (some ⟨c, 0, none⟩) (exPsh n) ∧ RowsAt w (some ⟨d, 0, none⟩) x) w
theorem sprG {a : Int} {n N : Nat} {x : Wd} : (Stir.held (SpS a n) (SpR a n N x)).good := ⟨⟨_, 0, 0, 0, rfl⟩, fun _ _ _ hb h b c d e => (h b c d e).mono hb⟩
theorem spr_of {a : Int} {n N : Nat} {x : Wd} {w : World} {b c d : Nat} (h : Fut N (fun w => ShAt w (some ⟨b, 0, none⟩) (some ⟨c, 0, none⟩) (exPsh n) ∧ RowsAt w (some ⟨d, 0, none⟩) x) w) : SpR a n N x w (.agg #[.int .i64 a, .slice (some ⟨b, 0, none⟩) 1 1, .slice (some ⟨c, 0, none⟩) n n, .int .i64 0, .int .i64 0, .int .i64 0, .slice (some ⟨d, 0, none⟩) 2 2]) := fun b' c' d' e => by
  obtain ⟨rfl, rfl, rfl⟩ : b = b' ∧ c = c' ∧ d = d' := by simpa using e
  exact h
theorem Fut.and {N : Nat} {Q R : World → Prop} {w : World} (h : Fut N Q w) (h' : Fut N R w) : Fut N (fun w => Q w ∧ R w) w := fun w' a b => ⟨h w' a b, h' w' a b⟩
theorem Fut.imp {N : Nat} {Q R : World → Prop} {w : World} (h : Fut N Q w) (hi : ∀ w, Q w → R w) : Fut N R w := fun w' a b => hi w' (h w' a b)
theorem rowsTwo {w : World} {b b0 b1 : Nat} {x : Wd} (hn : x.n = 2) (hl0 : x.len 0 = 2) (hl1 : x.len 1 = 2) (hl : b < w.heap.size) (h0 : w.cell? ⟨b, 0, none⟩ = some (.slice (some ⟨b0, 0, none⟩) 2 2)) (h1 : w.cell? ⟨b, 1, none⟩ = some (.slice (some ⟨b1, 0, none⟩) 2 2)) (i0 : IntsAt w (some ⟨b0, 0, none⟩) 2 (x.fall 0)) (i1 : IntsAt w (some ⟨b1, 0, none⟩) 2 (x.fall 1)) : RowsAt w (some ⟨b, 0, none⟩) x :=
  .inr ⟨b, 0, rfl, hl, fun k hk => match k, hk with
    | 0, _ => ⟨_, 2, by rw [hl0]; exact h0, by rw [hl0]; exact i0, by rw [hl0]; decide⟩
    | 1, _ => ⟨_, 2, by rw [hl1]; exact h1, by rw [hl1]; exact i1, by rw [hl1]; decide⟩
    | n + 2, hk => absurd hk (by omega)⟩
theorem worldsTwo {w : World} {b b0 b1 : Nat} (hl : b < w.heap.size) (h0 : w.cell? ⟨b, 0, none⟩ = some (.slice (some ⟨b0, 0, none⟩) 2 2)) (h1 : w.cell? ⟨b, 1, none⟩ = some (.slice (some ⟨b1, 0, none⟩) 2 2)) (r0 : RowsAt w (some ⟨b0, 0, none⟩) (exPw 0)) (r1 : RowsAt w (some ⟨b1, 0, none⟩) (exPw 1)) : QAt w (some ⟨b, 0, none⟩) none exPq :=
  ⟨.inr ⟨b, 0, rfl, hl, fun i hi => match i, hi with
    | 0, _ => ⟨_, 2, h0, r0, by show (2 : Nat) ≤ _; decide⟩
    | 1, _ => ⟨_, 2, h1, r1, by show (2 : Nat) ≤ _; decide⟩
    | n + 2, hi => absurd hi (by show ¬ n + 2 < 2; omega)⟩, .inl rfl⟩
theorem spotsThree {w : World} {b : Nat} {r0 r1 r2 f0 f1 f2 x0 x1 x2 : Nat} (h : TBox w b 60 #[.int .i64 15, .slice (some ⟨r0, 0, none⟩) 1 1, .slice (some ⟨f0, 0, none⟩) 3 3, .int .i64 0, .int .i64 0, .int .i64 0, .slice (some ⟨x0, 0, none⟩) 2 2, .int .i64 30, .slice (some ⟨r1, 0, none⟩) 1 1, .slice (some ⟨f1, 0, none⟩) 4 4, .int .i64 0, .int .i64 0, .int .i64 0, .slice (some ⟨x1, 0, none⟩) 2 2, .int .i64 80, .slice (some ⟨r2, 0, none⟩) 1 1, .slice (some ⟨f2, 0, none⟩) 6 6, .int .i64 0, .int .i64 0, .int .i64 0, .slice (some ⟨x2, 0, none⟩) 2 2])
    (h0 : ShAt w (some ⟨r0, 0, none⟩) (some ⟨f0, 0, none⟩) (exPsh 3) ∧ RowsAt w (some ⟨x0, 0, none⟩) (exPf 0)) (h1 : ShAt w (some ⟨r1, 0, none⟩) (some ⟨f1, 0, none⟩) (exPsh 4) ∧ RowsAt w (some ⟨x1, 0, none⟩) (exPf 1)) (h2 : ShAt w (some ⟨r2, 0, none⟩) (some ⟨f2, 0, none⟩) (exPsh 6) ∧ RowsAt w (some ⟨x2, 0, none⟩) (exPf 2)) : SpotsAt w (some ⟨b, 0, none⟩) 3 exPs :=
  .inr ⟨b, 0, rfl, h.lt, three ⟨_, _, _, 1, 3, 2, h0.1, h0.2, h.cell 0, h.cell 1, h.cell 2, h.cell 3, h.cell 4, h.cell 5, h.cell 6⟩ ⟨_, _, _, 1, 4, 2, h1.1, h1.2, h.cell 7, h.cell 8, h.cell 9, h.cell 10, h.cell 11, h.cell 12, h.cell 13⟩ ⟨_, _, _, 1, 6, 2, h2.1, h2.2, h.cell 14, h.cell 15, h.cell 16, h.cell 17, h.cell 18, h.cell 19, h.cell 20⟩⟩
end Go.Proofs.YtjpfdhhiofjpbaaGreatDoor
