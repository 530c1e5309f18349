/- Parts joined: what all claims of this seat need. -/
import Derived.Test.YthnojgdckkdcgaaGreatDoorNQD
import Derived.Test.YthnojgdckkdcgaaGreatDoorNQB
import Derived.Test.YthnojgdckkdcgaaGreatDoorNQC
import Derived.Deep.LoopGhost
set_option linter.unusedSimpArgs false
set_option linter.unusedVariables false
namespace Go.Proofs.YthnojgdckkdcgaaGreatDoor
open Go.RowKit Go.Sort
set_option maxHeartbeats 2000000 in
set_option maxRecDepth 100000 in
theorem leftQ_any (Aw Af : Option Addr) (cw cf : Nat) (t : Qt) (w : World) (hs : t.Small) (hT : QAt w Aw Af t) (hB : TabAt w) :
    Calls Tryz.prog 130 #[.agg #[.int .i64 t.wells, .slice Aw t.nw cw, .slice Af t.nf cf]] w fun e w' => Left5Out w' w.heap.size t e ∧ Below w.heap.size w w' := by
  have hb0 := bAlloc (Below.refl w.heap.size w) (.cells #[.int .i64 t.wells, .slice Aw t.nw cw, .slice Af t.nf cf] 25)
  have HT := Lib.hid (hT.mono hb0)
  have HTB := Lib.hid (hB.mono hb0)
  have HB := Lib.hid hb0
  clear hT hb0 hB
  by_cases ok : t.Ok
  · have HE := Lib.hid (Qt.err_ok ok)
    have HAE := Lib.hid (show t.askErr true = 0 from askErr_ok ok true)
    have HOK := Lib.hid ok
    obtain ⟨s, hsk⟩ : ∃ s, t.maskTo t.nw = s := ⟨_, rfl⟩
    have HBM := Lib.hid (show bitsL s = t.leftL by rw [← hsk]; exact bits_mask t ok.nw)
    have H64 := Lib.hid (show s < 64 by rw [← hsk]; exact mask_64 t ok.nw)
    have HSK := Lib.hid hsk
    clear hsk ok
    go_enter Tryz.func130, Tryz.ntmps130
    go_wp2_with fail
    refine (askQ_any _ _ _ _ t _ _ hs HT.out).mono ?_
    rintro e w1 ⟨⟨_, hk⟩, hb1⟩
    obtain ⟨C, mp, rfl, hc, _, _⟩ := hk HAE.out
    rw [HSK.out] at hc
    have x1 := hc.box.lt
    have y1 := hc.box.cell 3 _ rfl
    have HB1 := Lib.hid hb1
    have hz1 := hb1.size
    simp only [World.size_alloc] at hz1
    clear hk hc hb1
    go_wp2_with fail
    refine (list_any s _ H64.out (HTB.out.mono HB1.out)).mono ?_
    rintro e w2 ⟨⟨v, rfl, hv⟩, hb2⟩
    rw [HBM.out] at hv
    have HV := Lib.hid (hv.lower (show w.heap.size ≤ w1.heap.size by omega))
    have HB2 := Lib.hid (bTrans HB1.out hb2)
    clear hv hb2
    go_wp2_with fail
    go_ret2
    exact ⟨⟨v, by rw [HE.out]; rfl, fun _ => HV.out, fun h => absurd HOK.out h⟩, bTrans HB.out HB2.out⟩
  · have HE := Lib.hid (Qt.err_bad ok)
    have HAE := Lib.hid (askErr_bad ok true)
    have HNO := Lib.hid ok
    clear ok
    go_enter Tryz.func130, Tryz.ntmps130
    go_wp2_with fail
    refine (askQ_any _ _ _ _ t _ _ hs HT.out).mono ?_
    rintro e w1 ⟨⟨hk, _⟩, hb1⟩
    obtain rfl := hk (by rw [HAE.out]; decide)
    rw [HAE.out]
    have HB1 := Lib.hid hb1
    clear hk hb1
    go_wp2_with fail
    go_ret2
    exact ⟨⟨_, by rw [HE.out]; rfl, fun h => absurd h HNO.out, fun _ => rfl⟩, bTrans HB.out HB1.out⟩
end Go.Proofs.YthnojgdckkdcgaaGreatDoor

namespace Go.Proofs.YthnojgdckkdcgaaGreatDoor
open Go.RowKit Go.Sort
theorem leftL_at {t : Qt} {k : Nat} {x : Int} (h : t.leftL[k]? = some x) : ∃ i : Nat, x = (i : Int) ∧ i < t.nw ∧ t.leftB i = true := by
  obtain ⟨i, h1, h2, h3⟩ := (leftTo_mem t t.nw).1 (List.mem_of_getElem? h)
  exact ⟨i, h3, h1, h2⟩
end Go.Proofs.YthnojgdckkdcgaaGreatDoor

namespace Go.Proofs.YthnojgdckkdcgaaGreatDoor
open Go.RowKit Go.Sort
end Go.Proofs.YthnojgdckkdcgaaGreatDoor

namespace Go.Proofs.YthnojgdckkdcgaaGreatDoor
/-- a test: two wells -/
abbrev Tp := Nat × Nat
/-- all tests of m wells, in order -/
def testsL (m : Nat) : List Tp := (List.range m).flatMap fun p => (List.range m).map fun q => (p, q)
theorem testsL_mem {m : Nat} {x : Tp} : x ∈ testsL m ↔ x.1 < m ∧ x.2 < m := by
  unfold testsL
  obtain ⟨a, b⟩ := x
  simp only [List.mem_flatMap, List.mem_map, List.mem_range, Prod.mk.injEq]
  constructor
  · rintro ⟨p, hp, q, hq, rfl, rfl⟩
    exact ⟨hp, hq⟩
  · rintro ⟨h1, h2⟩
    exact ⟨a, h1, b, h2, rfl, rfl⟩
theorem flat_len {m : Nat} {f : Nat → List Tp} (h : ∀ p, (f p).length = m) : ∀ k, ((List.range k).flatMap f).length = k * m
  | 0 => by simp
  | k + 1 => by rw [List.range_succ, List.flatMap_append, List.length_append, flat_len h k, Nat.succ_mul]; simp [h]
theorem testsL_len (m : Nat) : (testsL m).length = m * m := flat_len (fun p => by simp) m
/-- all lists of k of some tests, the first one first -/
def listsL : List Tp → Nat → List (List Tp)
  | _, 0 => [[]]
  | [], _ + 1 => []
  | x :: l, k + 1 => (listsL l k).map (x :: ·) ++ listsL l (k + 1)
theorem listsL_zero (l : List Tp) : listsL l 0 = [[]] := by cases l <;> rfl
theorem listsL_mem {x : List Tp} : ∀ {l : List Tp} {k : Nat}, x ∈ listsL l k ↔ List.Sublist x l ∧ x.length = k
  | l, 0 => by
    rw [listsL_zero, List.mem_singleton]
    constructor
    · rintro rfl
      exact ⟨List.nil_sublist _, rfl⟩
    · rintro ⟨_, h⟩
      exact List.eq_nil_of_length_eq_zero h
  | [], k + 1 => by
    constructor
    · intro h
      cases h
    · rintro ⟨h1, h2⟩
      rw [List.sublist_nil.1 h1] at h2
      cases h2
  | y :: l, k + 1 => by
    have i1 := fun x => @listsL_mem x l k
    have i2 := @listsL_mem x l (k + 1)
    unfold listsL
    rw [List.mem_append, List.mem_map, i2]
    constructor
    · rintro (⟨z, hz, rfl⟩ | ⟨h1, h2⟩)
      · obtain ⟨a, b⟩ := (i1 z).1 hz
        exact ⟨a.cons_cons y, by simp [b]⟩
      · exact ⟨h1.cons y, h2⟩
    · rintro ⟨h1, h2⟩
      cases h1 with
      | cons _ h => exact .inr ⟨h, h2⟩
      | cons_cons _ h => exact .inl ⟨_, (i1 _).2 ⟨h, by simpa using h2⟩, rfl⟩
theorem listsL_all : ∀ l : List Tp, listsL l l.length = [l]
  | [] => rfl
  | x :: l => by
    show (listsL l l.length).map (x :: ·) ++ listsL l (l.length + 1) = _
    have h0 : listsL l (l.length + 1) = [] := List.eq_nil_iff_forall_not_mem.2 fun y hy => by
      obtain ⟨h1, h2⟩ := listsL_mem.1 hy
      have := h1.length_le
      omega
    rw [listsL_all l, h0]
    rfl
/-- the first list of a, a + 1 .. of some tests (n rounds) of which something is so -/
def firstUpTo (l : List Tp) (p : List Tp → Bool) : Nat → Nat → Option (List Tp)
  | _, 0 => none
  | a, n + 1 => match (listsL l a).find? p with
    | some x => some x
    | none => firstUpTo l p (a + 1) n
/-- the first of the shortest lists of some tests of which something is so; all of them, if of no shorter one -/
def fewestL (l : List Tp) (p : List Tp → Bool) : List Tp := (firstUpTo l p 0 l.length).getD l
theorem firstUpTo_snoc (l : List Tp) (p : List Tp → Bool) : ∀ n a, firstUpTo l p a (n + 1) = match firstUpTo l p a n with
    | some x => some x
    | none => (listsL l (a + n)).find? p
  | 0, a => by
    simp only [firstUpTo, Nat.add_zero]
    cases (listsL l a).find? p <;> rfl
  | n + 1, a => by
    have ih := firstUpTo_snoc l p n (a + 1)
    rw [show firstUpTo l p a (n + 1 + 1) = (match (listsL l a).find? p with | some x => some x | none => firstUpTo l p (a + 1) (n + 1)) from rfl, ih,
      show firstUpTo l p a (n + 1) = (match (listsL l a).find? p with | some x => some x | none => firstUpTo l p (a + 1) n) from rfl]
    cases (listsL l a).find? p with
    | some x => rfl
    | none => simp only [show a + 1 + n = a + (n + 1) by omega]
theorem fewest_nil (l : List Tp) (p : List Tp → Bool) (h0 : p [] = true) : fewestL l p = [] := by
  cases l with
  | nil => rfl
  | cons x l =>
    unfold fewestL
    show ((match (listsL (x :: l) 0).find? p with | some x => some x | none => firstUpTo (x :: l) p (0 + 1) l.length) : Option _).getD _ = _
    simp [listsL, h0]
end Go.Proofs.YthnojgdckkdcgaaGreatDoor

namespace Go.Proofs.YthnojgdckkdcgaaGreatDoor
open Go.RowKit Go.Sort
def intL0 (L : List Int) (k : Nat) : Int := L[k]?.getD 0
theorem intL0_mem {L : List Int} {k : Nat} (h : k < L.length) : intL0 L k ∈ L := by
  unfold intL0
  rw [List.getElem?_eq_getElem h]
  exact List.getElem_mem h
theorem mem_intL0 {L : List Int} {x : Int} (h : x ∈ L) : ∃ k, k < L.length ∧ intL0 L k = x := by
  obtain ⟨k, hk, he⟩ := List.getElem_of_mem h
  exact ⟨k, hk, by unfold intL0; rw [List.getElem?_eq_getElem hk]; exact he⟩
/-- what a test shows in a world -/
def Qt.F (t : Qt) (i : Int) (x : Tp) : Int := (t.world i.toNat).fall x.1 x.2
def Qt.tests (t : Qt) : List Tp := testsL t.wells.toNat
def Qt.apart (t : Qt) (x : Tp) (a b : Int) : Bool := t.F a x != t.F b x
def Qt.someB (t : Qt) (l : List Tp) (a b : Int) : Bool := l.any fun x => t.apart x a b
theorem apart_comm (t : Qt) (x : Tp) (a b : Int) : t.apart x a b = t.apart x b a := by
  unfold Qt.apart
  by_cases h : t.F a x = t.F b x
  · simp [h]
  · rw [bne_iff_ne.2 h, bne_iff_ne.2 (Ne.symm h)]
theorem apart_self (t : Qt) (x : Tp) (a : Int) : t.apart x a a = false := by simp [Qt.apart]
theorem someB_comm (t : Qt) (l : List Tp) (a b : Int) : t.someB l a b = t.someB l b a := by
  unfold Qt.someB
  congr 1
  funext x
  exact apart_comm t x a b
theorem someB_self (t : Qt) (l : List Tp) (a : Int) : t.someB l a a = false := by simp [Qt.someB, apart_self]
theorem someB_iff {t : Qt} {l : List Tp} {a b : Int} : t.someB l a b = true ↔ ∃ x, x ∈ l ∧ t.F a x ≠ t.F b x := by simp [Qt.someB, Qt.apart]
theorem someB_sub {t : Qt} {l l' : List Tp} {a b : Int} (h : ∀ x, x ∈ l → x ∈ l') (hs : t.someB l a b = true) : t.someB l' a b = true := by
  obtain ⟨x, h1, h2⟩ := someB_iff.1 hs
  exact someB_iff.2 ⟨x, h x h1, h2⟩
/-- whether some tests tell each two of some worlds apart that are not alike -/
def Qt.allApart (t : Qt) (l : List Tp) (L : List Int) : Bool :=
  !anyB (fun i => anyB (fun k => t.someB t.tests (intL0 L i) (intL0 L k) && !t.someB l (intL0 L i) (intL0 L k)) i) L.length
theorem allApart_iff {t : Qt} {l : List Tp} {L : List Int} : t.allApart l L = true ↔ ∀ a, a ∈ L → ∀ b, b ∈ L → t.someB t.tests a b = true → t.someB l a b = true := by
  unfold Qt.allApart
  rw [Bool.not_eq_true', anyB_false]
  constructor
  · intro h a ha b hb hs
    obtain ⟨i, hi, rfl⟩ := mem_intL0 ha
    obtain ⟨k, hk, rfl⟩ := mem_intL0 hb
    rcases Nat.lt_trichotomy i k with h1 | h1 | h1
    · have := anyB_false.1 (h k hk) i h1
      rw [someB_comm t t.tests, hs, someB_comm t l] at this
      simpa using this
    · subst h1
      rw [someB_self] at hs
      cases hs
    · have := anyB_false.1 (h i hi) k h1
      rw [hs] at this
      simpa using this
  · intro h i hi
    refine anyB_false.2 fun k hk => ?_
    cases hs : t.someB t.tests (intL0 L i) (intL0 L k) with
    | false => rfl
    | true => rw [h _ (intL0_mem hi) _ (intL0_mem (by omega)) hs]; rfl
/-- the pairs of some worlds, the first one first, of which something is so -/
def pairsL (p : Int → Int → Bool) : List Int → List (Int × Int)
  | [] => []
  | a :: L => (L.filter (p a)).map (fun b => (a, b)) ++ pairsL p L
def Qt.told (t : Qt) (l : List Tp) (ps : List (Int × Int)) : Bool := ps.all fun p => t.someB l p.1 p.2
theorem told_pairs {t : Qt} {l : List Tp} {p : Int → Int → Bool} (hp : ∀ a b, p a b = p b a) (h0 : ∀ a, p a a = false) : ∀ {L : List Int}, t.told l (pairsL p L) = true ↔ ∀ a, a ∈ L → ∀ b, b ∈ L → p a b = true → t.someB l a b = true
  | [] => by simp [Qt.told, pairsL]
  | a :: L => by
    have ih := told_pairs (t := t) (l := l) hp h0 (L := L)
    unfold Qt.told at ih ⊢
    unfold pairsL
    rw [List.all_append, Bool.and_eq_true, ih]
    simp only [List.all_map, List.all_eq_true, List.mem_filter, Function.comp, List.mem_cons]
    constructor
    · rintro ⟨h1, h2⟩ x (rfl | hx) y (rfl | hy) hs
      · rw [h0] at hs; cases hs
      · exact h1 y ⟨hy, hs⟩
      · rw [someB_comm]; exact h1 x ⟨hx, by rw [hp]; exact hs⟩
      · exact h2 x hx y hy hs
    · intro h
      exact ⟨fun y hy => h a (.inl rfl) y (.inr hy.1) hy.2, fun x hx y hy hs => h x (.inr hx) y (.inr hy) hs⟩
theorem told_nil {t : Qt} {ps : List (Int × Int)} : t.told [] ps = true ↔ ps = [] := by
  cases ps with
  | nil => simp [Qt.told]
  | cons a l => simp [Qt.told, Qt.someB]
/-- the pairs of Fewest -/
theorem told_apart (t : Qt) (l : List Tp) (L : List Int) : t.told l (pairsL (fun a b => t.someB t.tests a b) L) = t.allApart l L :=
  Bool.eq_iff_iff.2 ((told_pairs (fun a b => someB_comm t _ a b) (fun a => someB_self t _ a)).trans allApart_iff.symm)
/-! ### How many tests are enough -/
end Go.Proofs.YthnojgdckkdcgaaGreatDoor

namespace Go.Proofs.YthnojgdckkdcgaaGreatDoor
open Go.RowKit Go.Sort
/-! ### What is known -/
/-- of how many of the first n something is so -/
def cntB (p : Nat → Bool) : Nat → Nat
  | 0 => 0
  | n + 1 => if p n then cntB p n + 1 else cntB p n
theorem cntB_le (p : Nat → Bool) : ∀ n, cntB p n ≤ n
  | 0 => Nat.le_refl 0
  | n + 1 => by have := cntB_le p n; unfold cntB; split <;> omega
/-! ### Draws -/
end Go.Proofs.YthnojgdckkdcgaaGreatDoor

namespace Go.Proofs.YthnojgdckkdcgaaGreatDoor
open Go.RowKit Go.Sort
end Go.Proofs.YthnojgdckkdcgaaGreatDoor

namespace Go.Proofs.YthnojgdckkdcgaaGreatDoor
open Go.RowKit Go.Sort
/-- far too much of something -/
def Wd.huge (x : Wd) : Bool := decide (40 < x.n) || anyB (fun k => decide (40 < x.len k)) x.n
def Qt.huge (t : Qt) : Bool := decide (40 < t.nw) || decide (40 < t.nf) || anyB (fun i => (t.world i).huge) t.nw
set_option maxHeartbeats 4000000 in
set_option maxRecDepth 100000 in
theorem huge_any (Aw Af : Option Addr) (cw cf : Nat) (t : Qt) (w : World) (hs : t.Small) (hT : QAt w Aw Af t) :
    Calls Tryz.prog 8 #[.agg #[.int .i64 t.wells, .slice Aw t.nw cw, .slice Af t.nf cf]] w fun e w' => e = .returned (.bool t.huge) ∧ Below w.heap.size w w' := by
  have hb0 := bAlloc (Below.refl w.heap.size w) (.cells #[.int .i64 t.wells, .slice Aw t.nw cw, .slice Af t.nf cf] 25)
  have HT := Lib.hid (hT.mono hb0)
  have HB := Lib.hid hb0
  have HS := Lib.hid hs
  clear hT hb0 hs
  by_cases h1 : 40 < t.nw
  · have HH := Lib.hid (show t.huge = true by unfold Qt.huge; simp [h1])
    have g1 : decide ((t.nw : Int) > 40) = true := by simp; omega
    have g2 : (40 : Int) < (t.nw : Int) := by omega
    go_enter Tryz.func8, Tryz.ntmps8
    go_wp2_with fail
    go_ret
    exact ⟨ret_bool (by rw [HH.out]), HB.out⟩
  have g1 : decide ((t.nw : Int) > 40) = false := by simp; omega
  have g2 : ¬ (40 : Int) < (t.nw : Int) := by omega
  by_cases h2 : 40 < t.nf
  · have HH := Lib.hid (show t.huge = true by unfold Qt.huge; simp [h2])
    have g3 : (40 : Int) < (t.nf : Int) := by omega
    go_enter Tryz.func8, Tryz.ntmps8
    go_wp2_with fail
    go_ret
    exact ⟨ret_bool (by rw [HH.out]), HB.out⟩
  have g3 : ¬ (40 : Int) < (t.nf : Int) := by omega
  have g4 : decide ((t.nf : Int) > 40) = false := by simp; omega
  have g5 : decide ((40 : Int) < (t.nf : Int)) = false := by simp; omega
  have g6 : decide ((40 : Int) < (t.nw : Int)) = false := by simp; omega
  have HH := Lib.hid (show t.huge = anyB (fun i => (t.world i).huge) t.nw by unfold Qt.huge; simp [h1, h2])
  have H1 := Lib.hid (show t.nw ≤ 40 by omega)
  clear h1 h2
  go_enter Tryz.func8, Tryz.ntmps8
  go_wp2_with fail
  go_loopw [3] (fun s3 wr => ∃ i : Nat, i ≤ t.nw ∧ s3 = .int .i64 i ∧ anyB (fun i => (t.world i).huge) i = false ∧ Below (w.alloc (.cells #[.int .i64 t.wells, .slice Aw t.nw cw, .slice Af t.nf cf] 25)).heap.size (w.alloc (.cells #[.int .i64 t.wells, .slice Aw t.nw cw, .slice Af t.nf cf] 25)) wr) (fun s3 _ => t.nw - (intOf s3).toNat)
  case atStart => exact ⟨0, Nat.zero_le _, rfl, rfl, Below.refl _ _⟩
  case round =>
    obtain ⟨i, hi, rfl, hno, hbel⟩ := hrel
    have HN := Lib.hid hno
    have HL := Lib.hid hbel
    obtain ⟨bc3, bf3⟩ := bcell hbel
    have hz3 := hbel.size
    simp only [World.size_alloc] at hz3
    have hy3 : w.heap.size < wr.heap.size := hz3
    clear hbel hno
    by_cases hlt : i < t.nw
    · rcases (HT.out.mono HL.out).worlds with h0 | ⟨b, o, hA, hb, hcell⟩
      · omega
      obtain ⟨A', c', c0, hrow, hlen⟩ := hcell i hlt
      have HROW := Lib.hid hrow
      have i1 : (i : Int) < (t.nw : Int) := by omega
      have i0 : i ≤ 40 := by have := H1.out; omega
      obtain ⟨n, hn⟩ : ∃ n, (t.world i).n = n := ⟨_, rfl⟩
      rw [hn] at c0
      have HXN := Lib.hid hn
      clear hcell hrow hlen
      subst hA
      by_cases h3 : 40 < n
      · have HX := Lib.hid (show t.huge = true by rw [HH.out]; exact anyB_hit hlt (by unfold Wd.huge; rw [hn]; simp [h3]))
        have g7 : (40 : Int) < (n : Int) := by omega
        clear hn
        go_wp2_with fail
        go_ret
        exact ⟨ret_bool (by rw [HX.out]), bTrans HB.out HL.out⟩
      · have g7 : ¬ (40 : Int) < (n : Int) := by omega
        have g8 : decide ((40 : Int) < (n : Int)) = false := by simp; omega
        have n40 : n ≤ 40 := by omega
        have HY := Lib.hid (show (t.world i).huge = anyB (fun k => decide (40 < (t.world i).len k)) n by unfold Wd.huge; rw [hn]; simp [h3])
        clear hn h3
        go_wp2_with fail
        go_loopw [4] (fun s4 wx => ∃ k : Nat, k ≤ n ∧ s4 = .int .i64 k ∧ anyB (fun k => decide (40 < (t.world i).len k)) k = false ∧ wx = wr) (fun s4 _ => n - (intOf s4).toNat)
        case atStart => exact ⟨0, Nat.zero_le _, rfl, rfl, rfl⟩
        case round =>
          obtain ⟨k, hk, rfl, hno, rfl⟩ := hrel
          have HK := Lib.hid hno
          clear hno
          by_cases hlk : k < n
          · rcases HROW.out with h0 | ⟨b', o', hA, hb', hc'⟩
            · have := HXN.out
              omega
            obtain ⟨A'', c'', h3, _, h5⟩ := hc' k (by rw [HXN.out]; exact hlk)
            have k1 : (k : Int) < (n : Int) := by omega
            have k0 : (0 : Int) ≤ (k : Int) := by omega
            clear hc'
            subst hA
            obtain ⟨l, hl⟩ : ∃ l, (t.world i).len k = l := ⟨_, rfl⟩
            rw [hl] at h3 h5
            have HLL := Lib.hid hl
            clear hl
            by_cases h4 : 40 < l
            · have HX := Lib.hid (show t.huge = true by rw [HH.out]; refine anyB_hit hlt ?_; rw [HY.out]; exact anyB_hit hlk (by rw [HLL.out]; simp [h4]))
              have g9 : (40 : Int) < (l : Int) := by omega
              go_wp2_with fail
              go_ret
              exact ⟨ret_bool (by rw [HX.out]), bTrans HB.out HL.out⟩
            · have HX := Lib.hid (anyB_step HK.out (show (fun k => decide (40 < (t.world i).len k)) k = false by simp only [HLL.out]; simpa using h4))
              have g9 : ¬ (40 : Int) < (l : Int) := by omega
              go_wp2_with fail
              go_roundw
              case rel =>
                first
                | exact ⟨k + 1, by omega, by go_num, HX.out, by trivial⟩
                | ((repeat apply Exists.intro)
                   refine ⟨⟨k + 1, by omega, ?_, HX.out, rfl⟩, rfl⟩
                   go_num)
              case measure => simp [intOf]; omega
          · obtain rfl : k = n := by omega
            have HX := Lib.hid (anyB_step HN.out (show (fun i => (t.world i).huge) i = false by simp only [HY.out]; exact HK.out))
            have k1 : ¬ (k : Int) < (k : Int) := by omega
            go_wp2_with fail
            go_roundw
            case rel =>
              first
              | exact ⟨i + 1, by omega, by go_num, HX.out, HL.out⟩
              | ((repeat apply Exists.intro)
                 refine ⟨⟨i + 1, by omega, ?_, HX.out, HL.out⟩, rfl⟩
                 go_num)
            case measure => simp [intOf]; omega
    · obtain rfl : i = t.nw := by omega
      have HX := Lib.hid (show t.huge = false by rw [HH.out]; exact HN.out)
      go_wp2_with fail
      go_ret
      exact ⟨ret_bool (by rw [HX.out]), bTrans HB.out HL.out⟩
end Go.Proofs.YthnojgdckkdcgaaGreatDoor

namespace Go.Proofs.YthnojgdckkdcgaaGreatDoor
open Go.RowKit Go.Sort
section
variable {P : Program} {ops : Array Oper} {md : Region.Mode}
/-- whether operation j waits for operation i, over others too -/
def ancB (md : Region.Mode) (ops : Array Oper) : Nat → Nat → Nat → Bool
  | 0, j, i => waits md ops j i
  | f + 1, j, i => waits md ops j i || (List.range ops.size).any fun k => decide (i < k) && waits md ops j k && ancB md ops f k i
theorem Shut.anc {listed : Array Bool} (hs : Shut md ops listed) : ∀ (f j i : Nat), listed.getD j false = true → ancB md ops f j i = true → listed.getD i false = true
  | 0, j, i, h1, h2 => hs.shut j i h1 h2
  | f + 1, j, i, h1, h2 => by
    unfold ancB at h2
    rw [Bool.or_eq_true] at h2
    rcases h2 with h2 | h2
    · exact hs.shut j i h1 h2
    · obtain ⟨k, _, h3⟩ := List.any_eq_true.1 h2
      simp only [Bool.and_eq_true] at h3
      exact Shut.anc hs f k i (hs.shut j k h1 h3.1.2) h3.2
theorem anc_listed {listed : Array Bool} (hs : Shut md ops listed) {j : Nat} (hr : j ∈ Region.ready md ops listed) : ∀ (f i : Nat), ancB md ops f j i = true → listed.getD i false = true
  | 0, i, h => waits_listed hr h
  | f + 1, i, h => by
    unfold ancB at h
    rw [Bool.or_eq_true] at h
    rcases h with h2 | h2
    · exact waits_listed hr h2
    · obtain ⟨k, _, h3⟩ := List.any_eq_true.1 h2
      simp only [Bool.and_eq_true] at h3
      exact hs.anc f k i (waits_listed hr h3.1.2) h3.2
def pivotB (md : Region.Mode) (ops : Array Oper) (n : Nat) : Bool := orderedB md ops && decide (n < ops.size) && (List.range ops.size).all fun i => (!decide (i < n) || ancB md ops ops.size n i) && (!decide (n < i) || ancB md ops ops.size i n)
theorem frameOf_slot2 {V V' : Nat → Value} {L M : Nat → Bool} {a : Act} {t : Tmp} {i : Nat}
    (hlow : ∀ k, k < i → dstOf ops k = some t → L k = M k ∧ (L k = true → V k = V' k)) : ∀ k, k ≤ i → (frameOf ops V L a k).tmps[t]? = (frameOf ops V' M a k).tmps[t]?
  | 0, _ => rfl
  | k + 1, h => by
    have ih := frameOf_slot2 (a := a) hlow k (by omega)
    unfold frameOf
    by_cases hd : dstOf ops k = some t
    · obtain ⟨h1, h3⟩ := hlow k (by omega) hd
      by_cases h2 : L k = true
      · rw [if_pos h2, if_pos (h1 ▸ h2), hd, h3 h2]
        exact put_eq (by simp [frameOf_size]) _
      · rw [if_neg h2, if_neg (h1 ▸ h2)]
        exact ih
    · by_cases h1 : L k = true <;> by_cases h2 : M k = true <;> simp only [h1, h2, if_true, if_false, Bool.false_eq_true, put_ne hd] <;> exact ih
theorem Ordered.sees2 (h : Ordered md ops) {V : Nat → Value} {n : Nat} {a : Act} {listed : Array Bool} (hs : Shut md ops listed) {i : Nat} {o : Oper} (ho : ops[i]? = some o) (hr : i ∈ Region.ready md ops listed) :
    ∀ t, t ∈ o.looksAt ops → (frameOf ops V (fun k => listed.getD k false && !decide (k ≤ n)) a ops.size).tmps[t]? = (frameOf ops V (fun k => !decide (k ≤ n)) a i).tmps[t]? := by
  intro t ht
  have hi : i < ops.size := (Array.getElem?_eq_some_iff.1 ho).1
  have hun := listed_both (mem_ready.1 hr).1
  have hlk := looks_of ho ht
  rw [frameOf_slot_up (i := i) (fun k hk hl hd => ?_) ops.size (by omega), frameOf_slot2 (V' := V) (M := fun k => !decide (k ≤ n)) (i := i) (fun k hk hd => ?_) i (Nat.le_refl i)]
  · refine ⟨?_, fun _ => rfl⟩
    rcases h.apart k i hk hi with hw | ⟨h1, _⟩
    · rw [waits_listed hr hw, Bool.true_and]
    · rw [(h1 t hd).1] at hlk; cases hlk
  · have hl1 : listed.getD k false = true := by
      simp only [Bool.and_eq_true] at hl
      exact hl.1
    have hkn : k < ops.size := by
      simp only [dstOf] at hd
      rcases Nat.lt_or_ge k ops.size with h' | h'
      · exact h'
      · simp [Array.getElem?_eq_none h'] at hd
    have hne : i ≠ k := fun e => by subst e; rw [hun] at hl1; cases hl1
    rcases h.apart i k (by omega) hkn with hw | ⟨_, h2⟩
    · have := hs.shut k i hl1 hw; rw [hun] at this; cases this
    · rw [h2 t hd] at hlk; cases hlk
theorem Ordered.frame_put2 (h : Ordered md ops) {V : Nat → Value} {n : Nat} {a : Act} {listed : Array Bool} (hs : Shut md ops listed) {i : Nat} (hi : i < ops.size) (hn : n < i) (hun : listed.getD i true = false) :
    frameOf ops V (fun k => (listed.setIfInBounds i true).getD k false && !decide (k ≤ n)) a ops.size = (frameOf ops V (fun k => listed.getD k false && !decide (k ≤ n)) a ops.size).put (dstOf ops i) (V i) := by
  have hl := listed_both hun
  refine frameOf_put hi (by simp only [hl, Bool.false_and]) (by simp only [set_same (by rw [hs.size]; exact hi) false, Bool.true_and, Bool.not_eq_true', decide_eq_false_iff_not]; omega) (fun k hk => by simp only [getD_set_ne false (Ne.symm hk)]) (fun k d hk hlk0 hd hdk => ?_)
  have hlk : listed.getD k false = true := by
    simp only [Bool.and_eq_true] at hlk0
    exact hlk0.1
  have hkn : k < ops.size := by
    simp only [dstOf] at hdk
    rcases Nat.lt_or_ge k ops.size with h' | h'
    · exact h'
    · simp [Array.getElem?_eq_none h'] at hdk
  rcases h.apart i k hk hkn with hw | ⟨h1, _⟩
  · have := hs.shut k i hlk hw; rw [hl] at this; cases this
  · exact (h1 d hd).2 hdk
theorem frameOf_none {V : Nat → Value} {L : Nat → Bool} {a : Act} (h : ∀ k, L k = false) : ∀ k, frameOf ops V L a k = a
  | 0 => rfl
  | k + 1 => by unfold frameOf; rw [h k]; exact frameOf_none h k
theorem wpOp_at {Q : Exit → Act → World → Prop} {K : Act → World → Prop} {i : Nat} {o : Oper} {a : Act} {w : World} (ho : ops[i]? = some o) (hw : Region.wanted o (yielded ops a.tmps) = true) (h : o.wp P a w K Q) : wpOp P ops Q i K a w := by
  unfold wpOp
  simp only [ho, hw, if_true]
  exact .inl h
theorem wp_region_pivot {id : Nat} {Q : Exit → Act → World → Prop} {a : Act} {w : World} {l : List Oper} {o : Oper} (n : Nat) (hm : P.follows .mixedOrders = true) (hB : pivotB .any l.toArray n = true) (ho : l[n]? = some o)
    (h : wpCalm P l.toArray w (fun k => decide (n ≤ k)) (fun a' => ∀ w', Below w.heap.size w w' → wpOp P l.toArray Q n (fun a1 w1 => wpCalm P l.toArray w1 (fun k => decide (k ≤ n)) (fun a3 => ∀ w3, Below w1.heap.size w1 w3 → Q .normal a3 w3) 0 l a1) a' w') 0 l a) : (Code.region id l.toArray true).wp P Q a w := by
  unfold pivotB at hB
  simp only [Bool.and_eq_true, decide_eq_true_eq, List.all_eq_true, List.mem_range, Bool.or_eq_true, Bool.not_eq_true', decide_eq_false_iff_not] at hB
  obtain ⟨⟨hord, hsz⟩, hall⟩ := hB
  have H := ordered_of hord
  have hon : l.toArray[n]? = some o := by simpa using ho
  have hpre : ∀ i, i < n → ancB .any l.toArray l.toArray.size n i = true := fun i hi => ((hall i (by omega)).1).resolve_left (by omega)
  have hsuf : ∀ i, n < i → i < l.toArray.size → ancB .any l.toArray l.toArray.size i n = true := fun i hi hs => ((hall i hs).2).resolve_left (by omega)
  obtain ⟨V, _, hval, hQ⟩ := wpCalm_values a l 0 (fun _ => undef) (fun j => by simp) h
  refine wp_region_any hm ?_
  refine wpAny_inv (fun listed a' w' => (listed.getD n true = false → a' = frameOf l.toArray V (fun k => listed.getD k false) a l.toArray.size ∧ Below w.heap.size w w') ∧
    (listed.getD n true = true → ∃ (a1 : Act) (w1 : World) (V2 : Nat → Value), (∀ j o, 0 ≤ j → j < 0 + l.length → l.toArray[j]? = some o → decide (j ≤ n) = false → CalmAt P l.toArray w1 o (frameOf l.toArray V2 (fun k => !decide (k ≤ n)) a1 j) (V2 j)) ∧
      (∀ w3, Below w1.heap.size w1 w3 → Q .normal (frameOf l.toArray V2 (fun k => !decide (k ≤ n)) a1 (0 + l.length)) w3) ∧ a' = frameOf l.toArray V2 (fun k => listed.getD k false && !decide (k ≤ n)) a1 l.toArray.size ∧ Below w1.heap.size w1 w')) ?_ ?_ _ _ _ _ (left_le _ _) Shut.none ⟨fun _ => ⟨?_, (Below.refl _ _).drew⟩, fun hn => ?_⟩
  · intro listed a' w' i hs hI hr
    obtain ⟨hun, oi, hoi, _⟩ := mem_ready.1 hr
    have hi : i < l.toArray.size := (Array.getElem?_eq_some_iff.1 hoi).1
    rcases Nat.lt_trichotomy i n with hin | hin | hin
    · -- before
      have hn : listed.getD n true = false := by
        cases hn : listed.getD n true with
        | false => rfl
        | true =>
          have hnl : listed.getD n false = true := by
            have : n < listed.size := by rw [hs.size]; omega
            simp [this] at hn ⊢; exact hn
          have := hs.anc _ n i hnl (hpre i hin)
          rw [listed_both hun] at this; cases this
      obtain ⟨rfl, hb⟩ := hI.1 hn
      refine CalmAt.wpOp hoi (fun cs b => Region.noSelect_spec H.sel i oi cs b hoi) (hval i oi (Nat.zero_le _) (by simpa using hi) hoi (by simp; omega)) hb (H.sees hs hoi hr (fun k hk hk2 d hd => ?_) (fun _ _ => rfl)) (fun w'' hb' => ⟨fun hn' => ⟨?_, bTrans hb hb'⟩, fun hn' => ?_⟩)
      · simp at hk2; omega
      · have e1 : dstOf l.toArray i = oi.dst := by simp [dstOf, hoi]
        rw [H.frame_put hs hi hun, e1]
      · rw [getD_set_ne true (by omega)] at hn'
        rw [hn] at hn'; cases hn'
    · -- the pivot
      subst hin
      obtain ⟨rfl, hb⟩ := hI.1 hun
      obtain rfl : o = oi := Option.some.inj (hon.symm.trans hoi)
      have hfr : frameOf l.toArray V (fun k => listed.getD k false) a l.toArray.size = frameOf l.toArray V (fun k => !decide (i ≤ k)) a (0 + l.length) := by
        have hsz' : l.toArray.size = 0 + l.length := by simp
        rw [← hsz']
        refine frameOf_congr _ (fun j hj => ⟨?_, fun _ => rfl⟩)
        by_cases e : i ≤ j
        · simp only [e, decide_true, Bool.not_true]
          rcases Nat.eq_or_lt_of_le e with rfl | e
          · exact listed_both hun
          · cases hlj : listed.getD j false with
            | false => rfl
            | true =>
              have := hs.anc _ j i hlj (hsuf j e hj)
              rw [listed_both hun] at this; cases this
        · simp only [e, decide_false, Bool.not_false]
          exact anc_listed hs hr _ j (hpre j (by omega))
      have hq := hQ w' hb
      rw [← hfr] at hq
      have hset : (listed.setIfInBounds i true).getD i true = true := set_same (by rw [hs.size]; exact hi) true
      refine wpOp_mono (fun a1 w1 h1 => ⟨fun e => (by rw [hset] at e; cases e), fun _ => ?_⟩) hq
      have h0 : ∀ V0 : Nat → Value, frameOf l.toArray V0 (fun j => !decide (j ≤ i)) a1 0 = a1 := fun _ => rfl
      obtain ⟨V2, _, hval2, hQ2⟩ := wpCalm_values a1 l 0 (fun _ => undef) (fun j => by simp) h1
      refine ⟨a1, w1, V2, hval2, hQ2, ?_, Below.refl _ _⟩
      refine (frameOf_none (fun k => ?_) _).symm
      by_cases e : k ≤ i
      · simp [e]
      · rw [getD_set_ne false (by omega)]
        cases hlj : listed.getD k false with
        | false => rfl
        | true =>
          have hks : k < l.toArray.size := by
            rcases Nat.lt_or_ge k l.toArray.size with h' | h'
            · exact h'
            · have : listed.size ≤ k := by rw [hs.size]; exact h'
              simp [Array.getD, Nat.not_lt.2 this] at hlj
          have := hs.anc _ k i hlj (hsuf k (by omega) hks)
          rw [listed_both hun] at this; cases this
    · -- behind
      have hn : listed.getD n true = true := by
        have h1 := anc_listed hs hr _ n (hsuf i hin hi)
        have : n < listed.size := by rw [hs.size]; omega
        simp [this] at h1 ⊢; exact h1
      obtain ⟨a1, w1, V2, hval2, hQ2, rfl, hb⟩ := hI.2 hn
      refine CalmAt.wpOp hoi (fun cs b => Region.noSelect_spec H.sel i oi cs b hoi) (hval2 i oi (Nat.zero_le _) (by simpa using hi) hoi (by simp; omega)) hb (H.sees2 hs hoi hr) (fun w'' hb' => ⟨fun hn' => ?_, fun _ => ⟨a1, w1, V2, hval2, hQ2, ?_, bTrans hb hb'⟩⟩)
      · rw [getD_set_ne true (by omega)] at hn'
        rw [hn] at hn'; cases hn'
      · have e1 : dstOf l.toArray i = oi.dst := by simp [dstOf, hoi]
        rw [H.frame_put2 hs hi hin hun, e1]
  · intro listed a' w' hs hI hr
    have hA := H.all hs hr
    have hn : listed.getD n true = true := by
      have := hA n hsz
      have hlt : n < listed.size := by rw [hs.size]; omega
      simp [hlt] at this ⊢; exact this
    obtain ⟨a1, w1, V2, _, hQ2, rfl, hb⟩ := hI.2 hn
    have := hQ2 w' hb
    have hsz' : l.toArray.size = 0 + l.length := by simp
    rw [← hsz'] at this
    rw [frameOf_congr (M := fun k => !decide (k ≤ n)) (V' := V2) _ (fun j hj => ⟨by rw [hA j hj, Bool.true_and], fun _ => rfl⟩)]
    exact this
  · refine (frameOf_none (fun k => ?_) _).symm
    rcases Nat.lt_or_ge k l.length with h' | h' <;> simp [h']
  · have : n < l.toArray.size := by omega
    simp at this
    simp [this] at hn
/-- the same, its parts apart: the continuation is a letter in each of them -/
theorem wp_region_call {id : Nat} {Q : Exit → Act → World → Prop} {a : Act} {w : World} {l : List Oper} {o : Oper} (n : Nat) (R : Value → World → Prop) (hm : P.follows .mixedOrders = true) (hB : pivotB .any l.toArray n = true) (ho : l[n]? = some o)
    (h : ∃ A1 : Act, (∀ K : Act → Prop, K A1 → wpCalm P l.toArray w (fun k => decide (n ≤ k)) K 0 l a) ∧ Region.wanted o (yielded l.toArray A1.tmps) = true ∧
      (∀ w', Below w.heap.size w w' → ∀ (K : Act → World → Prop) (Q' : Exit → Act → World → Prop), (∀ v w2, R v w2 → K (A1.put o.dst v) w2) → o.wp P A1 w' K Q') ∧
      ∀ v w2, R v w2 → ∃ A3 : Act, (∀ K : Act → Prop, K A3 → wpCalm P l.toArray w2 (fun k => decide (k ≤ n)) K 0 l (A1.put o.dst v)) ∧ ∀ w3, Below w2.heap.size w2 w3 → Q .normal A3 w3) : (Code.region id l.toArray true).wp P Q a w := by
  obtain ⟨A1, h1, hw, h2, h3⟩ := h
  refine wp_region_pivot n hm hB ho (h1 _ fun w' hb => ?_)
  refine wpOp_at (by simpa using ho) hw (h2 w' hb _ _ fun v w2 hr => ?_)
  obtain ⟨A3, ha, hq⟩ := h3 v w2 hr
  exact ha _ hq
end
theorem newer_of {P : Program} {f : Nat} {args : Array Value} {w : World} {v : Value} (h : Calls P f args w fun e w' => e = .returned v ∧ Below w.heap.size w w') : Calls P f args w fun e w' => e = .returned v ∧ Newer w w' := h
end Go.Proofs.YthnojgdckkdcgaaGreatDoor

namespace Go.Proofs.YthnojgdckkdcgaaGreatDoor
open Go.RowKit Go.Sort
end Go.Proofs.YthnojgdckkdcgaaGreatDoor

namespace Go.Proofs.YthnojgdckkdcgaaGreatDoor
open Go.RowKit Go.Sort
/-- how an element lies in memory -/
structure Elem (α : Type) where
  enc : α → List Value
  size : Nat
  ty : TypeId
  sl : TypeId
  z : Value
  bytes : Nat
structure Elem.Good {α : Type} (E : Elem α) : Prop where
  info : (Tryz.prog.info? E.ty).map (fun i => (i.zero, i.size, i.bytes)) = some (some E.z, E.size, E.bytes)
  und : Tryz.prog.underlying E.sl = some (.slice E.ty)
  zs : E.z.cells.size = E.size
  pos : 0 < E.size
  len : ∀ x, (E.enc x).length = E.size
  one : ∀ x, ∀ u ∈ E.enc x, u.oneCell' = true
  by_ : E.bytes ≤ 1000000
def Elem.cells {α : Type} (E : Elem α) (l : List α) : List Value := l.flatMap E.enc
theorem Elem.cells_len {α : Type} {E : Elem α} (g : E.Good) : ∀ l : List α, (E.cells l).length = l.length * E.size
  | [] => by simp [Elem.cells]
  | x :: l => by
    have ih := Elem.cells_len g l
    unfold Elem.cells at ih ⊢
    rw [List.flatMap_cons, List.length_append, g.len, ih, List.length_cons, Nat.succ_mul, Nat.add_comm]
theorem Elem.cells_get {α : Type} {E : Elem α} (g : E.Good) : ∀ {l : List α} {j : Nat} {x : α} (i : Nat), l[j]? = some x → i < E.size → (E.cells l)[j * E.size + i]? = (E.enc x)[i]?
  | [], j, x, i, h, _ => by simp at h
  | y :: l, 0, x, i, h, hi => by
    obtain rfl : y = x := by simpa using h
    unfold Elem.cells
    rw [List.flatMap_cons, Nat.zero_mul, Nat.zero_add, List.getElem?_append_left (by rw [g.len]; exact hi)]
  | y :: l, j + 1, x, i, h, hi => by
    have ih := Elem.cells_get g (l := l) (j := j) (x := x) i (by simpa using h) hi
    unfold Elem.cells at ih ⊢
    rw [List.flatMap_cons, List.getElem?_append_right (by rw [g.len, Nat.succ_mul]; omega), g.len, Nat.succ_mul, show j * E.size + E.size + i - E.size = j * E.size + i by omega]
    exact ih
/-- a slice of the call's own that holds a list -/
def OwnE {α : Type} (E : Elem α) (w : World) (base : Nat) (v : Value) (l : List α) : Prop := w.ownsRow base E.ty E.size v l.length (E.cells l)
section
variable {α : Type} {E : Elem α} {w w' : World} {base : Nat} {v : Value} {l : List α}
theorem OwnE.nil (E : Elem α) (w : World) (base : Nat) : OwnE E w base (.slice none 0 0) [] := World.ownsRow_nil _ _ _ _
theorem OwnE.mono (h : OwnE E w base v l) (hb : Below w.heap.size w w') : OwnE E w' base v l := owns_below h hb
theorem OwnE.lower {base' : Nat} (h : OwnE E w base v l) (hb : base' ≤ base) : OwnE E w base' v l := owns_lower h hb
/-- a slice that reads as a list -/
def SliceE (E : Elem α) (w : World) (v : Value) (l : List α) : Prop := ∃ A c, v = .slice A l.length c ∧ RowAt w A (E.cells l)
theorem OwnE.read (h : OwnE E w base v l) : SliceE E w v l := by
  rcases Nat.eq_zero_or_pos l.length with h0 | h0
  · obtain rfl := List.eq_nil_of_length_eq_zero h0
    rcases h.2 with ⟨rfl, _⟩ | ⟨g, cap, cur, rfl, _⟩
    · exact ⟨_, _, rfl, .inl rfl⟩
    · exact ⟨_, _, rfl, .inl rfl⟩
  · obtain ⟨A, c, e, hr⟩ := AtHand.row (N := base) (.inr ⟨h0, h⟩)
    exact ⟨A, c, e, hr⟩
theorem RowAt.elem (g : E.Good) {A : Option Addr} (h : RowAt w A (E.cells l)) {j : Nat} {x : α} (hj : l[j]? = some x) : ∃ b o, A = some ⟨b, o, none⟩ ∧ b < w.heap.size ∧ ∀ i u, (E.enc x)[i]? = some u → w.cell? ⟨b, o + (j * E.size + i), none⟩ = some u := by
  have hget := fun i (hi : i < E.size) => Elem.cells_get g (l := l) (j := j) (x := x) i hj hi
  rcases h with h | ⟨b, o, rfl, hlt, hc⟩
  · have h1 := hget 0 g.pos
    rw [h] at h1
    have : (E.enc x).length = E.size := g.len x
    have h2 : (E.enc x)[0]? = some ((E.enc x)[0]'(by rw [this]; exact g.pos)) := List.getElem?_eq_getElem _
    rw [h2] at h1
    simp at h1
  · refine ⟨b, o, rfl, hlt, fun i u hu => hc _ u ?_⟩
    have hi : i < (E.enc x).length := by
      rcases Nat.lt_or_ge i (E.enc x).length with h | h
      · exact h
      · rw [List.getElem?_eq_none h] at hu; cases hu
    rw [hget i (by rw [← g.len x]; exact hi)]
    exact hu
/-- 'append(out, x)' -/
theorem wpList_snocE (g : E.Good) (w : World) {ops : Array Oper} {rest : List Oper} {o : Oper} {a : Act} {Q : Exit → Act → World → Prop} (hg : o.guard = none) (s x : Operand) (hop : o.op = Op.call { callee := Callee.builtin Builtin.append, args := #[s, x], argTypes := #[E.sl, E.sl] })
    (base : Nat) (v : Value) (l : List α) (y : α) (hs : a.eval s = v) (hown : OwnE E w base v l) (b : Nat) (hx : a.eval x = .slice (some ⟨b, 0, none⟩) 1 1) (hc : ∀ i u, (E.enc y)[i]? = some u → w.cell? ⟨b, i, none⟩ = some u) (hlen : l.length ≤ 100000) (hbase : base ≤ w.heap.size)
    (h : ∀ v' w', OwnE E w' base v' (l ++ [y]) → (∀ b0 W, b0 ≤ base → Below b0 W w → Below b0 W w') → w.grownBy w' v.ownBlock → v' ≠ .slice none 0 0 → wpList Tryz.prog ops Q rest (a.put o.dst v') w') : wpList Tryz.prog ops Q (o :: rest) a w := by
  obtain ⟨i0, hi, iz0, iz1, iz2⟩ := info_parts g.info
  refine wpList_append_own w hg s x E.sl hop base E.ty i0 E.z E.size E.bytes g.und hi iz0 iz1 iz2 g.zs g.pos v l.length (E.cells l) hs hown ⟨b, 0, none⟩ 1 1 (E.enc y) hx (by rw [g.len, Nat.one_mul]) (fun j u hj => ?_) (fun u hu => g.one y u hu) (by unfold maxLen; omega) (by have := g.by_; exact Nat.le_trans (Nat.mul_le_mul (show l.length + 1 ≤ 100001 by omega) this) (by decide)) hbase fun v' w' h1 h2 h3 => ?_
  · have := hc j u hj
    rwa [show (⟨b, 0, none⟩ : Addr).add j = ⟨b, j, none⟩ from by unfold Addr.add; split <;> simp_all]
  · refine h v' w' ?_ (fun b0 W hb hB => hB.grown h2 (Nat.le_trans hb hbase) fun k hk => Nat.le_trans hb (hown.lt k hk).1) h2 fun e => ?_
    · show w'.ownsRow base E.ty E.size v' (l ++ [y]).length (E.cells (l ++ [y]))
      rw [List.length_append, show E.cells (l ++ [y]) = E.cells l ++ E.enc y from by simp [Elem.cells]]
      exact h1
    · have := h3.1 e
      omega
end
/-! ### Tests, pairs of worlds -/
def tstE : Elem Tp := { enc := fun x => [.int .i64 x.1, .int .i64 x.2], size := 2, ty := 93, sl := 87, z := .agg #[.int .i64 0, .int .i64 0], bytes := 16 }
theorem tstG : tstE.Good :=
  ⟨by kernel_rfl, Tryz.underlying87, by decide, by decide, fun _ => rfl, fun x u hu => by
    rcases (by simpa [tstE] using hu : u = .int .i64 x.1 ∨ u = .int .i64 x.2) with rfl | rfl <;> rfl, by decide⟩
def prE : Elem (Int × Int) := { enc := fun x => [.int .i64 x.1, .int .i64 x.2], size := 2, ty := 211, sl := 157, z := .agg #[.int .i64 0, .int .i64 0], bytes := 16 }
theorem prG : prE.Good :=
  ⟨by kernel_rfl, Tryz.underlying157, by decide, by decide, fun _ => rfl, fun x u hu => by
    rcases (by simpa [prE] using hu : u = .int .i64 x.1 ∨ u = .int .i64 x.2) with rfl | rfl <;> rfl, by decide⟩
theorem SliceE.tst {w : World} {A : Option Addr} {l : List Tp} (h : RowAt w A (tstE.cells l)) {j : Nat} {x : Tp} (hj : l[j]? = some x) : ∃ b o, A = some ⟨b, o, none⟩ ∧ b < w.heap.size ∧ w.cell? ⟨b, o + j * 2, none⟩ = some (.int .i64 x.1) ∧ w.cell? ⟨b, o + j * 2 + 1, none⟩ = some (.int .i64 x.2) := by
  obtain ⟨b, o, h1, h2, h3⟩ := RowAt.elem tstG h hj
  exact ⟨b, o, h1, h2, h3 0 _ rfl, h3 1 _ rfl⟩
theorem SliceE.pr {w : World} {A : Option Addr} {l : List (Int × Int)} (h : RowAt w A (prE.cells l)) {j : Nat} {x : Int × Int} (hj : l[j]? = some x) : ∃ b o, A = some ⟨b, o, none⟩ ∧ b < w.heap.size ∧ w.cell? ⟨b, o + j * 2, none⟩ = some (.int .i64 x.1) ∧ w.cell? ⟨b, o + j * 2 + 1, none⟩ = some (.int .i64 x.2) := by
  obtain ⟨b, o, h1, h2, h3⟩ := RowAt.elem prG h hj
  exact ⟨b, o, h1, h2, h3 0 _ rfl, h3 1 _ rfl⟩
end Go.Proofs.YthnojgdckkdcgaaGreatDoor

namespace Go.Proofs.YthnojgdckkdcgaaGreatDoor
open Go.RowKit Go.Sort
end Go.Proofs.YthnojgdckkdcgaaGreatDoor

namespace Go.Proofs.YthnojgdckkdcgaaGreatDoor
open Go.RowKit Go.Sort
end Go.Proofs.YthnojgdckkdcgaaGreatDoor

namespace Go.Proofs.YthnojgdckkdcgaaGreatDoor
open Go.RowKit Go.Sort
end Go.Proofs.YthnojgdckkdcgaaGreatDoor

namespace Go.Proofs.YthnojgdckkdcgaaGreatDoor
open Go.RowKit Go.Sort
end Go.Proofs.YthnojgdckkdcgaaGreatDoor

namespace Go.Proofs.YthnojgdckkdcgaaGreatDoor
open Go.RowKit Go.Sort
end Go.Proofs.YthnojgdckkdcgaaGreatDoor

namespace Go.Proofs.YthnojgdckkdcgaaGreatDoor
open Go.RowKit Go.Sort
end Go.Proofs.YthnojgdckkdcgaaGreatDoor

namespace Go.Proofs.YthnojgdckkdcgaaGreatDoor
open Go.RowKit Go.Sort
end Go.Proofs.YthnojgdckkdcgaaGreatDoor

namespace Go.Proofs.YthnojgdckkdcgaaGreatDoor
open Go.RowKit Go.Sort
end Go.Proofs.YthnojgdckkdcgaaGreatDoor

namespace Go.Proofs.YthnojgdckkdcgaaGreatDoor
open Go.RowKit Go.Sort
end Go.Proofs.YthnojgdckkdcgaaGreatDoor

namespace Go.Proofs.YthnojgdckkdcgaaGreatDoor
open Go.RowKit Go.Sort
end Go.Proofs.YthnojgdckkdcgaaGreatDoor

namespace Go.Proofs.YthnojgdckkdcgaaGreatDoor
open Go.RowKit Go.Sort
end Go.Proofs.YthnojgdckkdcgaaGreatDoor

namespace Go.Proofs.YthnojgdckkdcgaaGreatDoor
open Go.RowKit Go.Sort
set_option maxHeartbeats 2000000 in
theorem shows_any (Aw Af : Option Addr) (cw cf C mp s : Nat) (t : Qt) (p q i : Nat) (w : World) (hc : CourtAt w C Aw Af cw cf t s mp) (ok : t.Ok) (hp : (p : Int) < t.wells) (hq : (q : Int) < t.wells) (hi : i < t.nw) (hT : QAt w Aw Af t) :
    Calls Tryz.prog 142 #[.pointer (some ⟨C, 0, none⟩), .agg #[.int .i64 p, .int .i64 q], .int .i64 i] w fun e w' => e = .returned (.int .i64 (t.F i (p, q))) ∧ Below w.heap.size w w' := by
  obtain ⟨b, o, b', o', c', b'', o'', c'', n, m, v, rfl, a2, a3, a4, a5, a6, a7, hv, v0, v1, hn, hm⟩ := ok.at hT hi (p := p) (q := q) (by omega) hp (by omega) hq
  rw [Int.toNat_natCast] at a5
  rw [Int.toNat_natCast] at a7
  have HV := Lib.hid (show t.F i (p, q) = v from hv.symm)
  have HB := Lib.hid (bAlloc (Below.refl w.heap.size w) (.cells #[.int .i64 p, .int .i64 q] 93))
  have x0 := hc.box.lt
  have y0 := hc.box.cell 1 _ rfl
  have p1 : (p : Int) < (n : Int) := by omega
  have p0 : (0 : Int) ≤ (p : Int) := by omega
  have q1 : (q : Int) < (m : Int) := by omega
  have q0 : (0 : Int) ≤ (q : Int) := by omega
  have i1 : (i : Int) < (t.nw : Int) := by omega
  have i0 : (0 : Int) ≤ (i : Int) := by omega
  clear hv hn hm hi hp hq ok hT hc
  go_enter Tryz.func142, Tryz.ntmps142
  go_wp2_with fail
  go_region
  go_wp2_with fail
  go_ret
  exact ⟨by rw [HV.out]; rfl, HB.out.drew⟩
end Go.Proofs.YthnojgdckkdcgaaGreatDoor

namespace Go.Proofs.YthnojgdckkdcgaaGreatDoor
open Go.RowKit Go.Sort
theorem selTo_mem {p : Nat → Bool} {x : Int} : ∀ {n : Nat}, x ∈ selTo p n ↔ ∃ i : Nat, i < n ∧ p i = true ∧ x = i
  | 0 => by simp [selTo]
  | n + 1 => by
    have ih := selTo_mem (p := p) (x := x) (n := n)
    unfold selTo
    constructor
    · intro h
      split at h
      · rename_i hp
        rw [List.mem_append, ih] at h
        rcases h with ⟨i, h1, h2, h3⟩ | h
        · exact ⟨i, by omega, h2, h3⟩
        · exact ⟨n, by omega, hp, by simpa using h⟩
      · obtain ⟨i, h1, h2, h3⟩ := ih.1 h
        exact ⟨i, by omega, h2, h3⟩
    · rintro ⟨i, h1, h2, h3⟩
      rcases Nat.lt_or_ge i n with h4 | h4
      · have := ih.2 ⟨i, h4, h2, h3⟩
        split
        · rw [List.mem_append]; exact .inl this
        · exact this
      · obtain rfl : i = n := by omega
        rw [if_pos h2, List.mem_append]
        exact .inr (by simp [h3])
end Go.Proofs.YthnojgdckkdcgaaGreatDoor

namespace Go.Proofs.YthnojgdckkdcgaaGreatDoor
open Go.RowKit Go.Sort
end Go.Proofs.YthnojgdckkdcgaaGreatDoor

namespace Go.Proofs.YthnojgdckkdcgaaGreatDoor
open Go.RowKit Go.Sort
/-- tests of a town -/
def Qt.TestsOk (t : Qt) (l : List Tp) : Prop := ∀ x, x ∈ l → (x.1 : Int) < t.wells ∧ (x.2 : Int) < t.wells
/-- pairs of worlds of a town -/
def Qt.PairsOk (t : Qt) (ps : List (Int × Int)) : Prop := ∀ x, x ∈ ps → ∃ i j : Nat, x = ((i : Int), (j : Int)) ∧ i < t.nw ∧ j < t.nw
def tget (l : List Tp) (i : Nat) : Tp := l[i]?.getD (0, 0)
theorem tget_mem {l : List Tp} {i : Nat} (h : i < l.length) : tget l i ∈ l := by
  unfold tget
  rw [List.getElem?_eq_getElem h]
  exact List.getElem_mem h
theorem tget_some {l : List Tp} {i : Nat} (h : i < l.length) : l[i]? = some (tget l i) := by
  unfold tget
  rw [List.getElem?_eq_getElem h]
  rfl
theorem testsAt_row {w : World} {A : Option Addr} {l : List Tp} (h : RowAt w A (tstE.cells l)) : TestsAt w A l.length (fun i => ⟨((tget l i).1 : Int), ((tget l i).2 : Int)⟩) := by
  cases l with
  | nil => exact .inl rfl
  | cons x l' =>
    obtain ⟨b, o, h1, h2, _⟩ := SliceE.tst h (j := 0) (tget_some (by simp))
    refine .inr ⟨b, o, h1, h2, fun i hi => ?_⟩
    obtain ⟨b', o', h1', _, h3, h4⟩ := SliceE.tst h (j := i) (tget_some hi)
    rw [h1] at h1'
    injection h1' with h1'
    injection h1' with e1 e2
    subst e1 e2
    exact ⟨h3, h4⟩
theorem any_tget (l : List Tp) (p : Tp → Bool) : anyB (fun i => p (tget l i)) l.length = l.any p := by
  refine Bool.eq_iff_iff.2 ?_
  rw [anyB_true, List.any_eq_true]
  constructor
  · rintro ⟨i, hi, h⟩
    exact ⟨_, tget_mem hi, h⟩
  · rintro ⟨x, hx, h⟩
    obtain ⟨i, hi, rfl⟩ := List.getElem_of_mem hx
    exact ⟨i, hi, by unfold tget; rw [List.getElem?_eq_getElem hi]; exact h⟩
set_option maxHeartbeats 2000000 in
theorem told1_any (Aw Af : Option Addr) (cw cf C mp s a d : Nat) (t : Qt) (p q i j : Nat) (w : World) (hc : CourtAt w C Aw Af cw cf t s mp) (ok : t.Ok) (hp : (p : Int) < t.wells) (hq : (q : Int) < t.wells) (hi : i < t.nw) (hj : j < t.nw) (hT : QAt w Aw Af t)
    (ha : a < w.heap.size) (hca : w.cell? ⟨a, 0, none⟩ = some (.pointer (some ⟨C, 0, none⟩))) (hd : d < w.heap.size) (hcd : w.cell? ⟨d, 0, none⟩ = some (.int .i64 i)) (hce : w.cell? ⟨d, 1, none⟩ = some (.int .i64 j)) :
    Calls Tryz.prog 175 #[.agg #[.int .i64 p, .int .i64 q], .pointer (some ⟨a, 0, none⟩), .pointer (some ⟨d, 0, none⟩)] w fun e w' => e = .returned (.bool (t.apart (p, q) i j)) ∧ Below w.heap.size w w' := by
  have hb0 := bAlloc (Below.refl w.heap.size w) (.cells #[.int .i64 p, .int .i64 q] 93)
  have HCT := Lib.hid (hc.mono hb0)
  have HT := Lib.hid (hT.mono hb0)
  have HB := Lib.hid hb0
  have HOK := Lib.hid ok
  have HP := Lib.hid hp
  have HQ := Lib.hid hq
  obtain ⟨u, hu⟩ : ∃ u, t.F i (p, q) = u := ⟨_, rfl⟩
  obtain ⟨v, hv⟩ : ∃ v, t.F j (p, q) = v := ⟨_, rfl⟩
  have HE := Lib.hid (show t.apart (p, q) i j = (u != v) by unfold Qt.apart; rw [hu, hv])
  have HC1 := Lib.hid (fun (w' : World) (hb : Below (w.alloc (.cells #[.int .i64 p, .int .i64 q] 93)).heap.size (w.alloc (.cells #[.int .i64 p, .int .i64 q] 93)) w') => (hu ▸ shows_any Aw Af cw cf C mp s t p q i w' (HCT.out.mono hb) HOK.out HP.out HQ.out hi (HT.out.mono hb) : Calls Tryz.prog 142 #[.pointer (some ⟨C, 0, none⟩), .agg #[.int .i64 p, .int .i64 q], .int .i64 i] w' fun e w'' => e = .returned (.int .i64 u) ∧ Below w'.heap.size w' w''))
  have HC2 := Lib.hid (fun (w' : World) (hb : Below (w.alloc (.cells #[.int .i64 p, .int .i64 q] 93)).heap.size (w.alloc (.cells #[.int .i64 p, .int .i64 q] 93)) w') => (hv ▸ shows_any Aw Af cw cf C mp s t p q j w' (HCT.out.mono hb) HOK.out HP.out HQ.out hj (HT.out.mono hb) : Calls Tryz.prog 142 #[.pointer (some ⟨C, 0, none⟩), .agg #[.int .i64 p, .int .i64 q], .int .i64 j] w' fun e w'' => e = .returned (.int .i64 v) ∧ Below w'.heap.size w' w''))
  clear hu hv hc hT hb0 ok hp hq
  go_enter Tryz.func175, Tryz.ntmps175
  go_wp2_with fail
  refine wp_region_quiet_below (by kernel_rfl) (by kernel_rfl) ?_
  repeat (go_big_quiet_step (((first | (go_at_call 142; with_reducible exact Calls.regrown_of (HC1.out _ (below_regrown _ _ _))) | (go_at_call 142; with_reducible exact Calls.regrown_of (HC2.out _ (below_regrown _ _ _)))))))
  refine wpQuiet_nil ?_
  intro w4 hw4
  have HB4 := Lib.hid (below_of_regrown hw4)
  clear hw4
  go_wp2_with fail
  go_ret
  exact ⟨by rw [HE.out]; first | rfl | exact ret_bool (by by_cases h : u = v <;> simp [h]), bTrans HB.out HB4.out⟩
theorem told_step {t : Qt} {l : List Tp} {ps : List (Int × Int)} {k : Nat} {x : Int × Int} (hk : ps[k]? = some x) (h : t.someB l x.1 x.2 = false) : t.told l ps = false := by
  unfold Qt.told
  rw [List.all_eq_false]
  exact ⟨x, List.mem_of_getElem? hk, by rw [h]; decide⟩
theorem told_all {t : Qt} {l : List Tp} {ps : List (Int × Int)} (h : ∀ (k : Nat) (x : Int × Int), ps[k]? = some x → t.someB l x.1 x.2 = true) : t.told l ps = true := by
  unfold Qt.told
  rw [List.all_eq_true]
  intro x hx
  obtain ⟨k, hk, rfl⟩ := List.getElem_of_mem hx
  exact h k _ (List.getElem?_eq_getElem hk)
set_option maxHeartbeats 4000000 in
set_option maxRecDepth 100000 in
theorem told_any (Aw Af A Ap : Option Addr) (cw cf C mp s c cp : Nat) (t : Qt) (l : List Tp) (ps : List (Int × Int)) (w : World) (hc : CourtAt w C Aw Af cw cf t s mp) (ok : t.Ok) (hl : t.TestsOk l) (hp : t.PairsOk ps) (hT : QAt w Aw Af t) (hA : RowAt w A (tstE.cells l)) (hP : RowAt w Ap (prE.cells ps)) (hlen : l.length ≤ 100000) (hplen : ps.length ≤ 100000) :
    Calls Tryz.prog 140 #[.pointer (some ⟨C, 0, none⟩), .slice A l.length c, .slice Ap ps.length cp] w fun e w' => e = .returned (.bool (t.told l ps)) ∧ Below w.heap.size w w' := by
  have hb0 := bAlloc (Below.refl w.heap.size w) (.cells #[.pointer (some ⟨C, 0, none⟩)] 113)
  have HCT := Lib.hid (hc.mono hb0)
  have HT := Lib.hid (hT.mono hb0)
  have HA := Lib.hid (hA.mono hb0)
  have HPR := Lib.hid (hP.mono hb0)
  have HB := Lib.hid hb0
  have HOK := Lib.hid ok
  have HLO := Lib.hid hl
  have HPO := Lib.hid hp
  obtain ⟨n, hn⟩ : ∃ n, ps.length = n := ⟨_, rfl⟩
  obtain ⟨m, hm⟩ : ∃ m, l.length = m := ⟨_, rfl⟩
  rw [hn] at hplen ⊢
  rw [hm] at hlen ⊢
  have HN := Lib.hid hn
  have HM := Lib.hid hm
  clear hc hT hA hP hb0 ok hl hp hn hm
  go_enter Tryz.func140, Tryz.ntmps140
  go_wp2_with fail
  go_loopw [11] (fun i wr => ∃ k : Nat, i = .int .i64 k ∧ k ≤ n ∧ (∀ j x, j < k → ps[j]? = some x → t.someB l x.1 x.2 = true) ∧ Below (w.alloc (.cells #[.pointer (some ⟨C, 0, none⟩)] 113)).heap.size (w.alloc (.cells #[.pointer (some ⟨C, 0, none⟩)] 113)) wr) (fun i _ => n - (intOf i).toNat)
  case atStart => exact ⟨0, rfl, Nat.zero_le _, fun j x hj => absurd hj (Nat.not_lt_zero _), Below.refl _ _⟩
  case round =>
    obtain ⟨k, rfl, hk, hall, hbel⟩ := hrel
    have HALL := Lib.hid hall
    have HL := Lib.hid hbel
    obtain ⟨bc3, bf3⟩ := bcell hbel
    have hz3 := hbel.size
    simp only [World.size_alloc] at hz3
    have hy3 : w.heap.size < wr.heap.size := hz3
    clear hbel hall
    by_cases hlt : k < n
    · obtain ⟨x, hx⟩ : ∃ x, ps[k]? = some x := ⟨_, List.getElem?_eq_getElem (by rw [HN.out]; exact hlt)⟩
      obtain ⟨i, j, rfl, hi, hj⟩ := HPO.out x (List.mem_of_getElem? hx)
      obtain ⟨b, o, rfl, hbs, c0, c1⟩ := SliceE.pr (HPR.out.mono HL.out) hx
      have HX := Lib.hid hx
      have k1 : (k : Int) < (n : Int) := by omega
      have hb4 := bAlloc (Below.refl wr.heap.size wr) (.cells #[.int .i64 i, .int .i64 j] 211)
      obtain ⟨r, hr⟩ : ∃ r, t.someB l (i : Int) (j : Int) = r := ⟨_, rfl⟩
      have hca : (wr.alloc (.cells #[.int .i64 i, .int .i64 j] 211)).cell? ⟨w.heap.size, 0, none⟩ = some (.pointer (some ⟨C, 0, none⟩)) := (hb4.cell (p := ⟨w.heap.size, 0, none⟩) hy3).trans ((HL.out.cell (p := ⟨w.heap.size, 0, none⟩) (by simp)).trans (by simp [go_sem]))
      have HNT := Lib.hid (none_test A m c 175 #[.pointer (some ⟨w.heap.size, 0, none⟩), .pointer (some ⟨wr.heap.size, 0, none⟩)] (fun i => ⟨((tget l i).1 : Int), ((tget l i).2 : Int)⟩) (fun g => t.apart (tget l g) i j) (wr.alloc (.cells #[.int .i64 i, .int .i64 j] 211)) (by omega) (HM.out ▸ ((testsAt_row HA.out).mono HL.out).mono hb4) (enters_of Tryz.func175 (by kernel_rfl)) (fun g hg w' hb' => by
        have hm := HLO.out _ (tget_mem (l := l) (i := g) (by rw [HM.out]; exact hg))
        have hz := hb'.size
        simp only [World.size_alloc] at hz
        exact told1_any Aw Af cw cf C mp s w.heap.size wr.heap.size t (tget l g).1 (tget l g).2 i j w' (((HCT.out.mono HL.out).mono hb4).mono hb') HOK.out hm.1 hm.2 hi hj (((HT.out.mono HL.out).mono hb4).mono hb') (by omega) ((hb'.cell (p := ⟨w.heap.size, 0, none⟩) (by simp; omega)).trans hca) (by omega) ((hb'.cell (p := ⟨wr.heap.size, 0, none⟩) (by simp)).trans (by simp [go_sem])) ((hb'.cell (p := ⟨wr.heap.size, 1, none⟩) (by simp)).trans (by simp [go_sem]))))
      rw [show anyB (fun g => t.apart (tget l g) i j) m = r by rw [← HM.out, any_tget l (fun x => t.apart x i j)]; exact hr] at HNT
      have HR := Lib.hid hr
      clear hr hx hca hi hj
      cases r
      · go_wp2_with fail
        refine HNT.out.mono ?_
        rintro e w5 ⟨rfl, hb5⟩
        have HB5 := Lib.hid (bTrans HL.out (bTrans hb4 hb5))
        have HZ := Lib.hid (told_step HX.out HR.out)
        clear hb5 hb4 c0 c1
        go_wp2_with fail
        go_ret
        exact ⟨by rw [HZ.out]; rfl, bTrans HB.out HB5.out⟩
      · go_wp2_with fail
        refine HNT.out.mono ?_
        rintro e w5 ⟨rfl, hb5⟩
        have HB5 := Lib.hid (bTrans HL.out (bTrans hb4 hb5))
        have HA2 := Lib.hid (show ∀ g x, g < k + 1 → ps[g]? = some x → t.someB l x.1 x.2 = true from fun g x hg hx => by
          rcases Nat.lt_or_ge g k with h1 | h1
          · exact HALL.out g x h1 hx
          · obtain rfl : g = k := by omega
            rw [HX.out] at hx
            injection hx with hx
            rw [← hx]
            exact HR.out)
        clear hb5 hb4 c0 c1
        go_wp2_with fail
        go_roundw
        case rel =>
          first
          | exact ⟨k + 1, by go_num, by omega, HA2.out, HB5.out⟩
          | ((repeat apply Exists.intro)
             refine ⟨⟨k + 1, ?_, by omega, HA2.out, HB5.out⟩, rfl⟩
             go_num)
        case measure => simp [intOf]; omega
    · obtain rfl : n = k := by omega
      have HZ := Lib.hid (told_all (t := t) (l := l) (ps := ps) fun g x hx => HALL.out g x (by
        rcases Nat.lt_or_ge g n with h1 | h1
        · exact h1
        · rw [List.getElem?_eq_none (by rw [HN.out]; exact h1)] at hx; cases hx) hx)
      go_wp2_with fail
      go_ret
      exact ⟨by rw [HZ.out]; rfl, bTrans HB.out HL.out⟩
end Go.Proofs.YthnojgdckkdcgaaGreatDoor

