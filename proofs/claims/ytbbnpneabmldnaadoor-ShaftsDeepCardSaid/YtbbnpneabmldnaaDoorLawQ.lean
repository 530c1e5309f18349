/- Walks: lists and plans (of the reference): all lists of stops that begin with some; all plans of a shaft, or its error. Conditions: a valid shaft; that lengths are Go's. -/
import Derived.Test.YtbbnpneabmldnaaDoorRowOwn
import Derived.Test.YtbbnpneabmldnaaDoorLawA
import Derived.Test.YtbbnpneabmldnaaDoorListLaw
namespace Go.Proofs.YtbbnpneabmldnaaDoor
open Go.RowKit Go.Sort
theorem infoList : (Tryd.prog.info? 23).map (fun i => (i.zero, i.size, i.bytes)) = some (some (.slice none 0 0), 1, 24) := by kernel_rfl
/-- a slice that reads as a list of numbers, in a row of numbers -/
def SliceIs (w : World) (v : Value) (l : List Int) : Prop :=
  ∃ A c, v = .slice A l.length c ∧ IntsAt w A l.length (gOf l) ∧ (l = [] ∨ ∃ b o cur fr, A = some ⟨b, o, none⟩ ∧ w.heap[b]? = some (.cells cur 3 fr))
theorem heap_lt {w : World} {b : Nat} {o : Obj} (h : w.heap[b]? = some o) : b < w.heap.size := (Array.getElem?_eq_some_iff.1 h).1
theorem SliceIs.mono {w w' : World} {v : Value} {l : List Int} (h : SliceIs w v l) (hb : Below w.heap.size w w') : SliceIs w' v l := by
  obtain ⟨A, c, e, h1, h2⟩ := h
  refine ⟨A, c, e, h1.mono hb, h2.imp id ?_⟩
  rintro ⟨b, o, cur, fr, e1, e2⟩
  exact ⟨b, o, cur, fr, e1, (hb.block b (heap_lt e2)).trans e2⟩
theorem SliceIs.grown {w w' : World} {v : Value} {l : List Int} {row : Option Nat} (h : SliceIs w v l) (hg : w.grownBy w' row) (ht : ∀ g, row = some g → ∃ cur, w.heap[g]? = some (.cells cur 23 (0, 0))) : SliceIs w' v l := by
  obtain ⟨A, c, e, h1, h2⟩ := h
  rcases h2 with rfl | ⟨b, o, cur, fr, rfl, e2⟩
  · exact ⟨A, c, e, .inl rfl, .inl rfl⟩
  · have hne : some b ≠ row := fun e => by
      obtain ⟨cur', e3⟩ := ht b e.symm
      rw [e2] at e3
      injection e3 with e3
      injection e3 with _ e3
      exact absurd e3 (by decide)
    have hblk := hg.block b (heap_lt e2) hne
    refine ⟨_, c, e, ?_, .inr ⟨b, o, cur, fr, rfl, hblk.trans e2⟩⟩
    rcases h1 with h1 | ⟨b', o', e1, hlt, hc⟩
    · exact .inl h1
    · injection e1 with e1
      injection e1 with e1 e1'
      subst e1 e1'
      exact .inr ⟨b, o, rfl, Nat.lt_of_lt_of_le hlt hg.size, fun i hi => (World.cell?_of_block (w := w) (a := ⟨b, o + i, none⟩) hblk).trans (hc i hi)⟩
def RowsT (w : World) : List Value → List (List Int) → Prop
  | [], [] => True
  | v :: vs, l :: ls => SliceIs w v l ∧ RowsT w vs ls
  | _, _ => False
theorem RowsT.imp {w w' : World} (h : ∀ v l, SliceIs w v l → SliceIs w' v l) : ∀ {vs : List Value} {ls : List (List Int)}, RowsT w vs ls → RowsT w' vs ls
  | [], [], _ => trivial
  | _ :: _, _ :: _, hr => ⟨h _ _ hr.1, RowsT.imp h hr.2⟩
  | [], _ :: _, hr => hr.elim
  | _ :: _, [], hr => hr.elim
theorem RowsT.mono {w w' : World} {vs : List Value} {ls : List (List Int)} (h : RowsT w vs ls) (hb : Below w.heap.size w w') : RowsT w' vs ls := h.imp fun _ _ h => h.mono hb
theorem RowsT.append {w : World} : ∀ {vs us : List Value} {ls ks : List (List Int)}, RowsT w vs ls → RowsT w us ks → RowsT w (vs ++ us) (ls ++ ks)
  | [], _, [], _, _, h => h
  | _ :: _, _, _ :: _, _, h1, h => ⟨h1.1, RowsT.append h1.2 h⟩
  | [], _, _ :: _, _, h1, _ => h1.elim
  | _ :: _, _, [], _, h1, _ => h1.elim
theorem RowsT.get {w : World} : ∀ {vs : List Value} {ls : List (List Int)} {i : Nat} {l : List Int}, RowsT w vs ls → ls[i]? = some l → ∃ v, vs[i]? = some v ∧ SliceIs w v l
  | v :: _, k :: _, 0, l, h, e => ⟨v, rfl, by simp at e; exact e ▸ h.1⟩
  | _ :: _, _ :: _, i + 1, l, h, e => by simpa using RowsT.get (i := i) h.2 (by simpa using e)
  | [], [], i, l, _, e => by simp at e
  | [], _ :: _, _, _, h, _ => h.elim
  | _ :: _, [], _, _, h, _ => h.elim
theorem RowsT.one {w : World} : ∀ {vs : List Value} {ls : List (List Int)}, RowsT w vs ls → ∀ u ∈ vs, u.oneCell' = true
  | [], [], _, u, hu => by cases hu
  | v :: vs, l :: ls, h, u, hu => by
    rcases List.mem_cons.1 hu with rfl | hu
    · obtain ⟨A, c, e, _⟩ := h.1
      rw [e]; rfl
    · exact RowsT.one h.2 u hu
  | [], _ :: _, h, _, _ => h.elim
  | _ :: _, [], h, _, _ => h.elim
/-- a row of lists of the call's own -/
def Listed (base : Nat) (w : World) (L : List (List Int)) (v : Value) : Prop := ∃ vs, w.ownsRow base 23 1 v L.length vs ∧ RowsT w vs L
theorem Listed.mono {base : Nat} {w w' : World} {L : List (List Int)} {v : Value} (h : Listed base w L v) (hb : Below w.heap.size w w') : Listed base w' L v := by
  obtain ⟨vs, h1, h2⟩ := h
  exact ⟨vs, owns_below h1 hb, h2.mono hb⟩
theorem Listed.lower {base base' : Nat} {w : World} {L : List (List Int)} {v : Value} (h : Listed base w L v) (hb : base' ≤ base) : Listed base' w L v := by
  obtain ⟨vs, h1, h2⟩ := h
  exact ⟨vs, owns_lower h1 hb, h2⟩
/-- one row of lists behind another one -/
theorem Listed.more {base : Nat} {w w' : World} {L K : List (List Int)} {v v' : Value} {vs us : List Value} (h1 : w.ownsRow base 23 1 v L.length vs) (h2 : RowsT w vs L) (h3 : RowsT w us K) (hown : w'.ownsRow base 23 1 v' (L.length + K.length) (vs ++ us)) (hg : w.grownBy w' v.ownBlock) : Listed base w' (L ++ K) v' :=
  ⟨vs ++ us, by rw [List.length_append]; exact hown, (h2.append h3).imp fun _ _ h => h.grown hg fun g e => (owns_typed h1 g e).2⟩
def ListsOut (base : Nat) (w' : World) (L : List (List Int)) (e : Ending) : Prop := ∃ v, e = .returned v ∧ Listed base w' L v
def oneS (v : Value) : Prop := ∃ b, v = .slice (some ⟨b, 0, none⟩) 1 1
def oneR (u : Value) (w : World) (v : Value) : Prop := ∃ b, v = .slice (some ⟨b, 0, none⟩) 1 1 ∧ w.cell? ⟨b, 0, none⟩ = some u
theorem oneR_mono {u : Value} {w w' : World} {v : Value} (hb : Below w.heap.size w w') (h : oneR u w v) : oneR u w' v := by
  obtain ⟨b, e, h⟩ := h
  exact ⟨b, e, (hb.cell (World.block_lt_of_cell? w _ h)).trans h⟩
theorem oneR_on {u : Value} {N n : Nat} {e : TypeId} {w w' : World} {v : Value} (hb : RowOn N e 1 n w w') (h : oneR u w v) : oneR u w' v := by
  rcases hb with hb | ⟨hn, g, cur, cur', _, h2, h3, h4, h5, h6⟩
  · exact oneR_mono hb h
  · obtain ⟨b, e, h⟩ := h
    refine ⟨b, e, ?_⟩
    by_cases hbg : b = g
    · subst hbg
      have hl : w.cell? ⟨b, 0, none⟩ = cur[0]? := cell_of_row w b 0 cur _ _ h2
      have hl' : w'.cell? ⟨b, 0, none⟩ = cur'[0]? := cell_of_row w' b 0 cur' _ _ h3
      have e1 : ∀ c : Array Value, c[0]? = (c.toList.take (n * 1))[0]? := fun c => by
        rw [List.getElem?_take, if_pos (by omega)]
        simp
      rw [hl', e1 cur', h5, ← e1 cur, ← hl, h]
    · exact (World.cell?_of_block (w := w) (a := ⟨b, 0, none⟩) (h6.block b (World.block_lt_of_cell? w _ h) (fun e => hbg (by injection e)))).trans h
theorem oneR_get {u : Value} {w : World} {b : Nat} (h : oneR u w (.slice (some ⟨b, 0, none⟩) 1 1)) : w.cell? ⟨b, 0, none⟩ = some u := by
  obtain ⟨b', e, h⟩ := h
  injection e with e
  injection e with e
  injection e with e
  subst e
  exact h
/-- a row of numbers that the call has made reads as a list -/
theorem sliceIs_own {w : World} {N : Nat} {v : Value} {l : List Int} (h : w.ownsRow N 3 1 v l.length (intL (gOf l) l.length)) : SliceIs w v l := by
  obtain ⟨A, c, e, h1, h2⟩ := intsAt_own h
  refine ⟨A, c, e, h1, ?_⟩
  rcases h.2 with ⟨_, h0⟩ | ⟨g, cap, cur, e2, _, e3, _⟩
  · exact .inl (List.eq_nil_of_length_eq_zero h0)
  · rw [e] at e2
    injection e2 with e2
    exact .inr ⟨g, 0, cur, _, e2, e3⟩
theorem intL_gOf_snoc (l : List Int) (x : Int) : intL (gOf (l ++ [x])) (l.length + 1) = intL (gOf l) l.length ++ [.int .i64 x] := by
  simp only [intL, gOf_last]
  rw [intL_congr fun i hi => gOf_append hi]
def listHeld (v SV : Value) (A : Option Addr) (m c : Nat) (g : Nat → Int) (d : Int) (N : Nat) (L : List (List Int)) : List Stir :=
  [.const v, .const SV, .held emptyS (fun _ _ => True), .const (.slice A m c), .held (ShapeOf m) (AtHand N 3 1 m (intL g m)), .const (.int .i64 d), .held oneS (oneR (.int .i64 d)),
    .stir (ShapeOf (m + 1)) (fun w v => w.ownsRow N 3 1 v (m + 1) (intL g m ++ [.int .i64 d])) (RowOn N 3 1 m), .held (ShapeOf L.length) (fun w v => Listed N w L v)]
theorem listHeld_good (v SV : Value) (A : Option Addr) (m c : Nat) (g : Nat → Int) (d : Int) (N : Nat) (L : List (List Int)) : goodAllS (listHeld v SV A m c g d N L) :=
  ⟨trivial, trivial, ⟨⟨_, 0, rfl⟩, fun _ _ _ _ _ => trivial⟩, trivial, ⟨⟨_, 0, 0, rfl⟩, fun _ _ _ hb h => AtHand.mono hb h⟩, trivial, ⟨⟨_, 0, rfl⟩, fun _ _ _ hb h => oneR_mono hb h⟩, ⟨⟨_, 0, 0, rfl⟩, fun _ _ _ hb h => owns_below h hb⟩, ⟨⟨_, 0, 0, rfl⟩, fun _ _ _ hb h => h.mono hb⟩, trivial⟩
theorem listHeld_cross (md : Region.Mode) (ops : Array Oper) (v SV : Value) (A : Option Addr) (m c : Nat) (g : Nat → Int) (d : Int) (N : Nat) (L : List (List Int)) (h8 : reach md ops 6 8 7 = true) : crossAll md ops N (listHeld v SV A m c g d N L) := by
  intro i s r K hi
  match i, hi with
  | 7, hi =>
    injection hi with hi
    injection hi with e1 e2 e3
    subst e1 e2 e3
    refine ⟨fun w w' hN h => h.below hN, fun j h hj hne => ?_⟩
    match j, hj with
    | 0, hj => injection hj with hj; subst hj; exact .inr fun _ _ _ _ h => h
    | 1, hj => injection hj with hj; subst hj; exact .inr fun _ _ _ _ h => h
    | 2, hj => injection hj with hj; subst hj; exact .inr fun _ _ _ _ h => h
    | 3, hj => injection hj with hj; subst hj; exact .inr fun _ _ _ _ h => h
    | 4, hj => injection hj with hj; subst hj; exact .inr fun _ _ _ hb h => ⟨h.1, AtHand.on hb h.2⟩
    | 5, hj => injection hj with hj; subst hj; exact .inr fun _ _ _ _ h => h
    | 6, hj => injection hj with hj; subst hj; exact .inr fun _ _ _ hb h => ⟨h.1, oneR_on hb h.2⟩
    | 7, hj => exact absurd rfl hne
    | 8, hj => exact .inl h8
    | j + 9, hj => simp [listHeld] at hj
  | 0, hi => injection hi with hi; cases hi
  | 1, hi => injection hi with hi; cases hi
  | 2, hi => injection hi with hi; cases hi
  | 3, hi => injection hi with hi; cases hi
  | 4, hi => injection hi with hi; cases hi
  | 5, hi => injection hi with hi; cases hi
  | 6, hi => injection hi with hi; cases hi
  | 8, hi => injection hi with hi; cases hi
  | i + 9, hi => simp [listHeld] at hi
set_option maxHeartbeats 8000000 in
set_option maxRecDepth 100000 in
theorem lists_any (Ar Af : Option Addr) (cr cf : Nat) (S : Sh) (hnf : S.nf ≤ 12) : ∀ (f : Nat) (w : World) (A : Option Addr) (m c : Nat) (l : List Int), f ≤ S.nf → l.length = m → m + f ≤ S.nf → (m = 0 → f = S.nf) → (0 < m → gOf l (m - 1) = ((S.nf - f : Nat) : Int)) → ShAt w Ar Af S → SliceIs w (.slice A m c) l →
    Calls Tryd.prog 89 #[.agg #[.slice Ar S.nr cr, .slice Af S.nf cf, .int .i64 S.deep, .int .i64 S.haul, .int .i64 S.rest], .slice A m c] w fun e w' => ListsOut w.heap.size w' (l :: behindL S.nf f l) e ∧ Below w.heap.size w w' := by
  intro f
  induction f using Nat.strongRecOn with
  | _ f ih =>
  intro w A m c l hf hlm hmf hf0 hfl hS hI
  obtain ⟨i0, hi, iz0, iz1, iz2⟩ := info_parts infoList
  have hb0 := bAlloc (Below.refl w.heap.size w) (.cells #[.slice Ar S.nr cr, .slice Af S.nf cf, .int .i64 S.deep, .int .i64 S.haul, .int .i64 S.rest] 25)
  have hb1 := bAlloc (Below.refl (w.alloc (.cells #[.slice Ar S.nr cr, .slice Af S.nf cf, .int .i64 S.deep, .int .i64 S.haul, .int .i64 S.rest] 25)).heap.size (w.alloc (.cells #[.slice Ar S.nr cr, .slice Af S.nf cf, .int .i64 S.deep, .int .i64 S.haul, .int .i64 S.rest] 25))) (.cells #[.slice A m c] 23)
  have HS := Lib.hid ((hS.mono hb0).mono hb1)
  have HI := Lib.hid ((hI.mono hb0).mono hb1)
  have HI0 := Lib.hid (hI.mono hb0)
  have HS0 := Lib.hid (hS.mono hb0)
  have HB := Lib.hid hb0
  have HB1 := Lib.hid hb1
  have HLM := Lib.hid hlm
  have HF0 := Lib.hid hf0
  have HFL := Lib.hid hfl
  have HO1 := Lib.hid (World.ownsRow_lit (e := 23) (size := 1) (base := w.heap.size + 1) (w.alloc (.cells #[.slice Ar S.nr cr, .slice Af S.nf cf, .int .i64 S.deep, .int .i64 S.haul, .int .i64 S.rest] 25)) #[.slice A m c] 1 (by simp) (by decide) rfl)
  have HR1 := Lib.hid (show RowsT ((w.alloc (.cells #[.slice Ar S.nr cr, .slice Af S.nf cf, .int .i64 S.deep, .int .i64 S.haul, .int .i64 S.rest] 25)).alloc (.cells #[.slice A m c] 23)) [.slice A m c] [l] from ⟨HI.out, trivial⟩)
  have hints : IntsAt w A m (gOf l) := by
    obtain ⟨A', c', e, h1, _⟩ := hI
    injection e with e1 _ _
    subst e1
    rwa [hlm] at h1
  have HX := Lib.hid ((hints.mono hb0).mono hb1)
  clear hS hI hb0 hb1 hlm hf0 hfl hints
  obtain ⟨q, hq, hqm⟩ : ∃ q : Nat, q = S.nf - f + 1 ∧ ((m = 0 ∧ q = 1) ∨ (0 < m ∧ gOf l (m - 1) = (q : Int) - 1)) := by
    refine ⟨S.nf - f + 1, rfl, ?_⟩
    rcases Nat.eq_zero_or_pos m with h0 | h0
    · exact .inl ⟨h0, by have := HF0.out h0; omega⟩
    · exact .inr ⟨h0, by rw [HFL.out h0]; omega⟩
  have HQ := Lib.hid hq
  have hq1 : 1 ≤ q := by omega
  have hq2 : q ≤ S.nf + 1 := by omega
  clear hq
  rcases hqm with ⟨hm0, hq0⟩ | ⟨hm0, hgq⟩
  case' inl =>
    have hm1 : ¬ (0 : Int) < (m : Int) := by omega
    have HQ0 := Lib.hid hq0
    have HM := Lib.hid hm0
    clear hm0 hq0
    go_enter Tryd.func89, Tryd.ntmps89
    go_wp2_with fail
  case' inr =>
    have hm1 : (0 : Int) < (m : Int) := by omega
    have h0 : IntsAt _ A m (gOf l) := HX.out
    rcases h0 with h0 | ⟨b, o, hA, hb, hcell⟩
    · omega
    have c0 := hcell (m - 1) (by omega)
    rw [hgq] at c0
    clear hcell hgq
    subst hA
    have j1 : (0 : Int) ≤ (m : Int) - 1 := by omega
    have j2 : (m : Int) - 1 < (m : Int) := by omega
    have j3 : ((m : Int) - 1).toNat = m - 1 := by omega
    have HM := Lib.hid hm0
    have HQ0 := Lib.hid (show (q : Int) - 1 + 1 = q by omega)
    clear hm0
    go_enter Tryd.func89, Tryd.ntmps89
    go_wp2_with fail
    clear j1 j2 j3 c0 hb
    generalize (some (⟨b, o, none⟩ : Addr)) = A at *
  all_goals
    go_loopw [5, 7] (fun v i wr => ∃ (V : Value) (d : Nat) (xs : List (List Int)) (vs : List Value), V = v ∧ i = .int .i64 d ∧ q ≤ d ∧ d ≤ S.nf + 1 ∧ xs ++ behindL S.nf (S.nf + 1 - d) l = l :: behindL S.nf f l ∧ wr.ownsRow (w.heap.size + 1) 23 1 v xs.length vs ∧ RowsT wr vs xs ∧ Below (w.alloc (.cells #[.slice Ar S.nr cr, .slice Af S.nf cf, .int .i64 S.deep, .int .i64 S.haul, .int .i64 S.rest] 25)).heap.size (w.alloc (.cells #[.slice Ar S.nr cr, .slice Af S.nf cf, .int .i64 S.deep, .int .i64 S.haul, .int .i64 S.rest] 25)) wr) (fun _ i _ => S.nf + 1 - (intOf i).toNat)
    case atStart =>
      refine ⟨_, q, [l], [.slice _ m c], rfl, ?_, Nat.le_refl _, hq2, ?_, by simpa using HO1.out, HR1.out, HB1.out⟩
      · first | rfl | (rw [HQ0.out]; rfl) | rw [HQ0.out]
      · have e : S.nf + 1 - q = f := by have := HQ.out; omega
        rw [e]; rfl
    case round =>
      obtain ⟨V, d, xs, vs, hV, rfl, hd1, hd2, htot, hown, hrows, hbel⟩ := hrel
      subst hV
      have HT := Lib.hid htot
      have HO := Lib.hid hown
      have HR := Lib.hid hrows
      have HB3 := Lib.hid hbel
      have hIr := Lib.hid (HI0.out.mono hbel)
      have hSr := Lib.hid (HS0.out.mono hbel)
      obtain ⟨bc3, bf3⟩ := bcell hbel
      have hz3 := hbel.size
      simp only [World.size_alloc] at hz3
      have hy3 : w.heap.size < wr.heap.size := hz3
      have hxl : xs.length ≤ 4096 := by
        have h1 := congrArg List.length htot
        have h2 := behindL_len S.nf f l
        have h3 : 2 ^ f ≤ 2 ^ 12 := Nat.pow_le_pow_right (by omega) (by omega)
        simp only [List.length_append, List.length_cons] at h1
        have h4 : (2 : Nat) ^ 12 = 4096 := by decide
        omega
      clear htot hown hrows hbel
      by_cases hlt : d ≤ S.nf
      · have hmd : m + 1 ≤ d := by
          rcases Nat.eq_zero_or_pos m with h0 | h0
          · omega
          · have := HQ.out; omega
        have hX4 : IntsAt wr A m (gOf l) := by
          obtain ⟨A', c', e, h1, _⟩ := hIr.out
          injection e with e1 _ _
          subst e1
          rwa [HLM.out] at h1
        have HX4 := Lib.hid hX4
        have hFq := HQ.out
        obtain ⟨L, hL⟩ : ∃ L, L = (l ++ [(d : Int)]) :: behindL S.nf (S.nf - d) (l ++ [(d : Int)]) := ⟨_, rfl⟩
        have hL1 : 1 ≤ L.length := by rw [hL]; simp
        have hL2 : L.length ≤ 4096 := by
          have h2 := behindL_len S.nf (S.nf - d) (l ++ [(d : Int)])
          have h3 : 2 ^ (S.nf - d) ≤ 2 ^ 12 := Nat.pow_le_pow_right (by omega) (by omega)
          have h4 : (2 : Nat) ^ 12 = 4096 := by decide
          rw [hL, List.length_cons]
          omega
        have HTN := Lib.hid (show (xs ++ L) ++ behindL S.nf (S.nf + 1 - (d + 1)) l = l :: behindL S.nf f l by
          have h1 := HT.out
          rw [show S.nf + 1 - d = (S.nf - d) + 1 from by omega] at h1
          simp only [behindL] at h1
          rw [show S.nf - (S.nf - d) = d from by omega, ← hL] at h1
          rw [show S.nf + 1 - (d + 1) = S.nf - d from by omega, List.append_assoc]
          exact h1)
        have HIH := Lib.hid (fun (w' : World) (A' : Option Addr) (c' : Nat) (hb : Below wr.heap.size wr w') (h : SliceIs w' (.slice A' (m + 1) c') (l ++ [(d : Int)])) =>
          (hL ▸ ih (S.nf - d) (by omega) w' A' (m + 1) c' (l ++ [(d : Int)]) (by omega) (by rw [List.length_append, HLM.out]; rfl) (by omega) (fun h => by omega) (fun _ => by
            rw [Nat.add_sub_cancel, ← HLM.out, gOf_last]; congr 1; omega) (hSr.out.mono hb) h : Calls Tryd.prog 89 #[.agg #[.slice Ar S.nr cr, .slice Af S.nf cf, .int .i64 S.deep, .int .i64 S.haul, .int .i64 S.rest], .slice A' (m + 1) c'] w' fun e w'' => ListsOut w'.heap.size w'' L e ∧ Below w'.heap.size w' w''))
        have HLD := Lib.hid hL
        clear hX4 hFq hL
        go_wp2_with fail
        refine wp_region_stir 9 (listHeld V (.agg #[.slice Ar S.nr cr, .slice Af S.nf cf, .int .i64 S.deep, .int .i64 S.haul, .int .i64 S.rest]) A m c (gOf l) d wr.heap.size L) (by kernel_rfl) (by kernel_rfl) rfl (listHeld_good _ _ _ _ _ _ _ _ _) (listHeld_cross _ _ _ _ _ _ _ _ _ _ _ (by kernel_rfl)) ?_
        refine wpStir_const (by go_simp) ?_
        refine wpStir_const (by go_simp) ?_
        refine wpStir_held rfl (fun w' hb hd => ?_) (fun v hv => ?_)
        · go_simp
          exact ⟨bAlloc (Below.refl _ _) _, _, rfl⟩
        obtain ⟨b0, rfl⟩ := hv
        refine wpStir_const (by go_simp) ?_
        refine wpStir_held rfl (fun w' hb hd => ?_) (fun v hv => ?_)
        · exact stir_copy _ _ _ _ rfl 3 _ 1 8 infoInt Tryd.underlying23 rfl (by decide) b0 A m c (intL (gOf l) m) rfl rfl (by rw [intL_len]; omega) ((intsAt_row.1 HX4.out).mono hb) (by omega) (by decide) _ hb.size
        obtain ⟨b1, c1, rfl⟩ := hv
        refine wpStir_const (by go_simp) ?_
        refine wpStir_held rfl (fun w' hb hd => ?_) (fun v hv => ?_)
        · go_simp
          exact ⟨bAlloc (Below.refl _ _) _, ⟨_, rfl⟩, _, rfl, by go_simp⟩
        obtain ⟨b2, rfl⟩ := hv
        simp only [Act.put, List.setIfInBounds_toArray, List.set_cons_succ, List.set_cons_zero]
        refine wpStir_stir rfl (fun w' hb hd => ?_) (fun v hv => ?_)
        · have h1 : oneR (.int .i64 d) w' (.slice (some ⟨b2, 0, none⟩) 1 1) := hd.1 (by kernel_rfl)
          have h2 : AtHand wr.heap.size 3 1 m (intL (gOf l) m) w' (.slice (some ⟨b1, 0, none⟩) m c1) := hd.2.1 (by kernel_rfl)
          clear hd
          have h3 := oneR_get h1
          refine stir_append w' (Operand.tmp 32) (Operand.tmp 34) 23 ?_ 3 (.int .i64 0) 1 8 ?_ ?_ ?_ ?_ (.slice (some ⟨b1, 0, none⟩) m c1) m (intL (gOf l) m) (some ⟨b2, 0, none⟩) 1 1 [.int .i64 d] wr.heap.size h2 ?_ ?_ ?_ ?_ ?_ ?_ ?_ ?_ ?_
          · rfl
          · exact infoInt
          · exact Tryd.underlying23
          · rfl
          · exact Nat.one_pos
          · rfl
          · rfl
          · exact Nat.one_pos
          · rfl
          · refine .inr ⟨b2, 0, rfl, World.block_lt_of_cell? w' _ h3, fun j u hj => ?_⟩
            match j, hj with
            | 0, hj => simp at hj; subst hj; exact h3
          · intro u hu; simp at hu; subst hu; rfl
          · omega
          · decide
          · exact hb.size
        obtain ⟨b3, c3, rfl⟩ := hv
        refine wpStir_held rfl (fun w' hb hd => ?_) (fun v hv => ?_)
        · have h1 : w'.ownsRow wr.heap.size 3 1 (.slice (some ⟨b3, 0, none⟩) (m + 1) c3) (m + 1) (intL (gOf l) m ++ [.int .i64 d]) := hd.1 (by kernel_rfl)
          clear hd
          have h2 : SliceIs w' (.slice (some ⟨b3, 0, none⟩) (m + 1) c3) (l ++ [(d : Int)]) := by
            refine sliceIs_own (N := wr.heap.size) ?_
            rw [List.length_append, show [(d : Int)].length = 1 from rfl, intL_gOf_snoc, HLM.out]
            exact h1
          go_simp
          refine (HIH.out w' _ _ hb h2).mono ?_
          rintro e w'' ⟨⟨u, he, hl⟩, hb'⟩
          obtain ⟨vs8, h8, _⟩ := id hl
          obtain ⟨g8, c8, h9⟩ := owns_form h8 hL1
          exact ⟨u, he, hb', ⟨g8, c8, h9⟩, hl.lower hb.size⟩
        obtain ⟨b4, c4, rfl⟩ := hv
        refine wpStir_end (fun w5 hb5 hd => ?_)
        have hl5 : Listed wr.heap.size w5 L (.slice (some ⟨b4, 0, none⟩) L.length c4) := hd.1
        clear hd
        simp only [List.drop_succ_cons, List.drop_zero]
        simp only [Act.put, List.setIfInBounds_toArray, List.set_cons_succ, List.set_cons_zero]
        obtain ⟨vs8, h8, hr8⟩ := hl5
        have HO5 := Lib.hid (owns_below HO.out hb5)
        have HR5 := Lib.hid (HR.out.mono hb5)
        have H8 := Lib.hid h8
        have HR8 := Lib.hid hr8
        have HB5 := Lib.hid (bTrans HB3.out hb5)
        have hlen8 := h8.1
        have hz5 : w.heap.size + 1 ≤ w5.heap.size := by have := HB5.out.size; simpa using this
        clear h8 hr8 hb5 bc3 bf3
        go_wp2_with (at_builtin; refine wpList_append_own _ rfl _ _ 89 rfl (w.heap.size + 1) 23 i0 (.slice none 0 0) 1 24 Tryd.underlying89 hi iz0 iz1 iz2 rfl (by decide) V xs.length vs rfl HO5.out ⟨b4, 0, none⟩ L.length c4 vs8 rfl hlen8 (fun j u h => H8.out.cells (g := b4) rfl j u h) HR8.out.one (by unfold maxLen; omega) (by omega) hz5 ?_)
        intro v' w6 hown6 hgrow _
        have HF6 := Lib.hid (Listed.more HO5.out HR5.out HR8.out hown6 hgrow)
        have HB6 := Lib.hid (HB5.out.grown hgrow HB5.out.size (fun k hk => by have := (HO5.out.lt k hk).1; simpa using this))
        clear hown6 hgrow
        go_wp2_with fail
        go_roundw
        case rel =>
          obtain ⟨vs9, h9, hr9⟩ := HF6.out
          exact ⟨v', d + 1, xs ++ L, vs9, rfl, by go_num, by omega, by omega, HTN.out, h9, hr9, HB6.out⟩
        case measure => simp [intOf]; omega
      · obtain rfl : d = S.nf + 1 := by omega
        have hfin := (⟨vs, owns_lower HO.out (Nat.le_succ _), HR.out⟩ : Listed w.heap.size wr xs _)
        rw [show xs = l :: behindL S.nf f l from by
          have h1 := HT.out
          rw [Nat.sub_self] at h1
          rw [← h1]
          exact (List.append_nil xs).symm] at hfin
        have HFIN := Lib.hid hfin
        clear hfin
        go_wp2_with fail
        go_ret
        exact ⟨⟨_, rfl, HFIN.out⟩, bTrans HB.out HB3.out⟩
theorem isPlan_at (Ar Af : Option Addr) (cr cf : Nat) (S : Sh) (w : World) (ok : S.Ok) (hS : ShAt w Ar Af S) {m : Nat} {g : Nat → Int} {b : Bool} (h : S.planB m g = b) (A : Option Addr) (c : Nat) (hm : m ≤ 9223372036854775807) (hg : IntsAt w A m g) :
    Calls Tryd.prog 29 #[.agg #[.slice Ar S.nr cr, .slice Af S.nf cf, .int .i64 S.deep, .int .i64 S.haul, .int .i64 S.rest], .slice A m c] w fun e w' => e = .returned (.bool b) ∧ Below w.heap.size w w' := by
  have := isPlan_any Ar Af cr cf S w ok hS A m c g hm hg
  rw [h] at this
  exact this
theorem owns_slice {w : World} {base : Nat} {e : TypeId} {size : Nat} {v : Value} {n : Nat} {xs : List Value} (h : w.ownsRow base e size v n xs) : ∃ A c, v = .slice A n c := by
  rcases h.2 with ⟨rfl, rfl⟩ | ⟨g, cap, cur, rfl, _⟩
  · exact ⟨none, 0, rfl⟩
  · exact ⟨_, cap, rfl⟩
theorem news_one {w : World} {b : Nat} {u : Value} (h : w.cell? ⟨b, 0, none⟩ = some u) : ∀ j v, [u][j]? = some v → w.cell? ((⟨b, 0, none⟩ : Addr).add j) = some v := by
  intro j v hj
  match j, hj with
  | 0, hj => simp at hj; subst hj; simpa [Addr.add] using h
theorem one_one {u : Value} (h : u.oneCell' = true) : ∀ v ∈ [u], v.oneCell' = true := by
  intro v hv
  rw [List.mem_singleton.1 hv]
  exact h
/-- what is read at a place of a row of lists -/
theorem Listed.at_ {base : Nat} {w : World} {L : List (List Int)} {g c k : Nat} {vs : List Value} {l : List Int} (h1 : w.ownsRow base 23 1 (.slice (some ⟨g, 0, none⟩) L.length c) L.length vs) (h2 : RowsT w vs L) (hk : L[k]? = some l) :
    ∃ A m d, w.cell? ⟨g, k, none⟩ = some (.slice A m d) ∧ m = l.length ∧ IntsAt w A m (gOf l) ∧ SliceIs w (.slice A m d) l := by
  obtain ⟨v, e1, A, d, rfl, e2, e3⟩ := h2.get hk
  have := h1.cells (g := g) rfl k _ e1
  rw [show (⟨g, 0, none⟩ : Addr).add k = ⟨g, 0 + k, none⟩ from by unfold Addr.add; split <;> simp_all, Nat.zero_add] at this
  exact ⟨A, _, d, this, rfl, e2, A, d, rfl, e2, e3⟩
def PlansOut (base : Nat) (w' : World) (S : Sh) (e : Ending) : Prop :=
  (¬ S.Ok ∧ e = .returned (.tuple #[.slice none 0 0, .int .i64 20])) ∨ (S.Ok ∧ S.plansL = [] ∧ e = .returned (.tuple #[.slice none 0 0, .int .i64 3])) ∨
    (S.Ok ∧ S.plansL ≠ [] ∧ ∃ g c vs, e = .returned (.tuple #[.slice (some ⟨g, 0, none⟩) S.plansL.length c, .int .i64 0]) ∧ w'.ownsRow base 23 1 (.slice (some ⟨g, 0, none⟩) S.plansL.length c) S.plansL.length vs ∧ RowsT w' vs S.plansL)
theorem take_filter {p : List Int → Bool} {L : List (List Int)} {k : Nat} {l : List Int} (h : L[k]? = some l) : (L.take (k + 1)).filter p = (L.take k).filter p ++ if p l then [l] else [] := by
  rw [List.take_add_one, h, Option.toList_some, List.filter_append]
  congr 1
  simp [List.filter_cons]
set_option maxHeartbeats 8000000 in
set_option maxRecDepth 100000 in
theorem plans_any (Ar Af : Option Addr) (cr cf : Nat) (S : Sh) (w : World) (hr : S.nr ≤ 9223372036854775807) (hf : S.nf ≤ 9223372036854775807) (hS : ShAt w Ar Af S) :
    Calls Tryd.prog 76 #[.agg #[.slice Ar S.nr cr, .slice Af S.nf cf, .int .i64 S.deep, .int .i64 S.haul, .int .i64 S.rest]] w fun e w' => PlansOut w.heap.size w' S e ∧ Below w.heap.size w w' := by
  have hb0 := bAlloc (Below.refl w.heap.size w) (.cells #[.slice Ar S.nr cr, .slice Af S.nf cf, .int .i64 S.deep, .int .i64 S.haul, .int .i64 S.rest] 25)
  have HS := Lib.hid (hS.mono hb0)
  have HB := Lib.hid hb0
  clear hS hb0
  by_cases ok : S.Ok
  · have hnf := ok.nf
    obtain ⟨i0, hi, iz0, iz1, iz2⟩ := info_parts infoList
    go_enter Tryd.func76, Tryd.ntmps76
    go_wp2_with fail
    refine (refCheck_any _ _ _ _ S _ hr hf HS.out).mono ?_
    rintro e w1 ⟨he1, hb1⟩
    rw [show S.err = 0 from if_pos ok] at he1
    subst he1
    have HB1 := Lib.hid hb1
    obtain ⟨bc1, bf1⟩ := bcell hb1
    have hz1 := hb1.size
    simp only [World.size_alloc] at hz1
    have hy1 : w.heap.size < w1.heap.size := by omega
    clear hb1
    go_wp2_with fail
    refine (lists_any _ _ _ _ S hnf S.nf _ _ 0 0 [] (Nat.le_refl _) rfl (by omega) (fun _ => rfl) (fun h => absurd h (Nat.lt_irrefl 0)) (HS.out.mono HB1.out) ⟨none, 0, rfl, .inl rfl, .inl rfl⟩).mono ?_
    rintro e w2 ⟨⟨v2, rfl, vs, hown2, hrows2⟩, hb2⟩
    obtain ⟨L, hL⟩ : ∃ L, L = allLists S.nf := ⟨_, rfl⟩
    rw [show [] :: behindL S.nf S.nf [] = L from hL.symm] at hown2 hrows2
    have hL1 : 1 ≤ L.length := by rw [hL]; simp [allLists]
    have hL2 : L.length ≤ 4096 := by
      have h2 := behindL_len S.nf S.nf []
      have h3 : 2 ^ S.nf ≤ 2 ^ 12 := Nat.pow_le_pow_right (by omega) hnf
      have h4 : (2 : Nat) ^ 12 = 4096 := by decide
      rw [hL]
      simp only [allLists, List.length_cons]
      omega
    obtain ⟨g2, c2, rfl⟩ := owns_form hown2 hL1
    have HLD := Lib.hid hL
    have HO2 := Lib.hid hown2
    have HR2 := Lib.hid hrows2
    have HB2 := Lib.hid (bTrans HB1.out hb2)
    have hg2 : g2 < w2.heap.size := (hown2.lt g2 rfl).2
    obtain ⟨bc2, bf2⟩ := bcell HB2.out
    have hz2 := HB2.out.size
    simp only [World.size_alloc] at hz2
    have hy2 : w.heap.size < w2.heap.size := by omega
    clear hb2 bc1 bf1 hz1 hy1 HB1 hL hown2 hrows2
    go_wp2_with fail
    clear bc2 bf2
    go_loopw [5, 7] (fun v i wr => ∃ (V : Value) (k : Nat) (ks : List (List Int)) (us : List Value), V = v ∧ i = .int .i64 k ∧ k ≤ L.length ∧ ks = (L.take k).filter S.isPlanL ∧ wr.ownsRow w2.heap.size 23 1 V ks.length us ∧ RowsT wr us ks ∧ Below w2.heap.size w2 wr) (fun _ i _ => L.length - (intOf i).toNat)
    case atStart => exact ⟨_, 0, [], [], rfl, rfl, Nat.zero_le _, rfl, World.ownsRow_nil _ _ _ _, trivial, Below.refl _ _⟩
    case round =>
      obtain ⟨V, k, ks, us, hV, rfl, hk, hks, hown, hrows, hbel⟩ := hrel
      subst hV
      have HKS := Lib.hid hks
      have HO := Lib.hid hown
      have HR := Lib.hid hrows
      have HD3 := Lib.hid hbel
      have HB3 := Lib.hid (bTrans HB2.out hbel)
      obtain ⟨bc3, bf3⟩ := bcell HB3.out
      have hz3 := HB3.out.size
      simp only [World.size_alloc] at hz3
      have hy3 : w.heap.size < wr.heap.size := hz3
      have hg3 : g2 < wr.heap.size := Nat.lt_of_lt_of_le hg2 hbel.size
      have hkl : ks.length ≤ 4096 := by
        have h1 := List.length_filter_le S.isPlanL (L.take k)
        have h2 := List.length_take_le k L
        rw [hks]
        omega
      clear hks hown hrows hbel
      by_cases hlt : k < L.length
      · obtain ⟨l, hl⟩ : ∃ l, L[k]? = some l := ⟨_, List.getElem?_eq_getElem hlt⟩
        obtain ⟨Ak, mk, dk, hc, hmk, hint, hsl⟩ := Listed.at_ (owns_below HO2.out HD3.out) (HR2.out.mono HD3.out) hl
        have hm12 : mk ≤ 9223372036854775807 := by
          have h1 := List.mem_of_getElem? hl
          rw [HLD.out] at h1
          have := all_lens h1
          omega
        have hpl : S.planB mk (gOf l) = S.isPlanL l := by rw [hmk]; rfl
        have HI := Lib.hid hint
        have HSL := Lib.hid hsl
        have HTF := Lib.hid (take_filter (p := S.isPlanL) hl)
        have hlt2 : (k : Int) < (L.length : Int) := by omega
        clear hmk
        cases hp : S.isPlanL l
        all_goals
          rw [hp] at hpl
          have HP := Lib.hid hpl
          have HPL := Lib.hid hp
          clear hpl hp
          go_wp2_with fail
          refine wp_region_quiet_below (by kernel_rfl) (by kernel_rfl) ?_
          repeat (go_big_quiet_step ((go_at_call 29; exact Calls.regrown_of (isPlan_at _ _ _ _ S _ ok ((HS.out.mono HB3.out).mono (below_regrown _ _ _)) HP.out _ _ hm12 (HI.out.mono (below_regrown _ _ _))))))
          refine wpQuiet_nil ?_
          intro w4 hw4
          have hb4 := below_of_regrown hw4
          have HD4 := Lib.hid (bTrans HD3.out hb4)
          have HB4 := Lib.hid (bTrans HB3.out hb4)
          have HO4 := Lib.hid (owns_below HO.out hb4)
          have HR4 := Lib.hid (HR.out.mono hb4)
          have HSL4 := Lib.hid (HSL.out.mono hb4)
          have hz4 := hb4.size
          have hc4 := (hb4.cell (p := ⟨g2, k, none⟩) hg3).trans hc
          obtain ⟨bc4, bf4⟩ := bcell HB4.out
          have hy4 : w.heap.size < w4.heap.size := by omega
          have hg4 : g2 < w4.heap.size := by omega
          clear hw4 hb4 bc3 bf3 hz3 hy3 hg3 hc
        · go_wp2_with fail
          go_roundw
          case rel => exact ⟨V, k + 1, ks, us, rfl, by go_num, by omega, by rw [HTF.out, HPL.out, HKS.out]; simp, HO4.out, HR4.out, HD4.out⟩
          case measure => simp [intOf]; omega
        · clear bc4 bf4
          go_wp2_with (at_builtin; refine wpList_append_own _ rfl _ _ 89 rfl w2.heap.size 23 i0 (.slice none 0 0) 1 24 Tryd.underlying89 hi iz0 iz1 iz2 rfl (by decide) V ks.length us rfl (HO4.out.alloc _) ⟨w4.heap.size, 0, none⟩ 1 1 [.slice Ak mk dk] rfl rfl (news_one (by go_simp)) (one_one rfl) (by unfold maxLen; omega) (by omega) (by have := HD4.out.size; simp; omega) ?_)
          intro v' w5 hown5 hgrow _
          have HD5 := Lib.hid ((HD4.out.alloc HD4.out.size _).grown hgrow (by have := HD4.out.size; simp; omega) (fun k hk => (HO4.out.lt k hk).1))
          have hl5 := Listed.more (K := [l]) (HO4.out.alloc _) (HR4.out.mono (bAlloc (Below.refl _ _) _)) (us := [.slice Ak mk dk]) ⟨HSL4.out.mono (bAlloc (Below.refl _ _) _), trivial⟩ hown5 hgrow
          have HL5 := Lib.hid hl5
          clear hown5 hgrow hl5
          go_wp2_with fail
          go_roundw
          case rel =>
            obtain ⟨us', h1, h2⟩ := HL5.out
            exact ⟨v', k + 1, ks ++ [l], us', rfl, by go_num, by omega, by rw [HTF.out, HPL.out, HKS.out]; simp, h1, h2, HD5.out⟩
          case measure => simp [intOf]; omega
      · obtain rfl : k = L.length := by omega
        have hks2 : ks = S.plansL := by rw [HKS.out, List.take_length, HLD.out]; rfl
        have HK2 := Lib.hid hks2
        obtain ⟨AV, cV, rfl⟩ := owns_slice HO.out
        rcases Nat.eq_zero_or_pos ks.length with h0 | h0
        · have hz : ((ks.length : Int) == 0) = true := by rw [h0]; rfl
          have HE := Lib.hid (show S.plansL = [] by rw [← hks2]; exact List.eq_nil_of_length_eq_zero h0)
          clear hks2 h0
          go_wp2_with fail
          go_ret2
          exact ⟨.inr (.inl ⟨ok, HE.out, rfl⟩), bTrans HB.out HB3.out⟩
        · have hz : ((ks.length : Int) == 0) = false := beq_eq_false_iff_ne.2 (by omega)
          obtain ⟨gV, cV', hV⟩ := owns_form HO.out h0
          injection hV with e1 e2 e3
          subst e1 e3
          have HE := Lib.hid (show S.plansL ≠ [] by rw [← hks2]; intro e; rw [e] at h0; exact absurd h0 (Nat.lt_irrefl 0))
          clear hks2 h0
          go_wp2_with fail
          go_ret2
          have hO := HO.out
          have hR := HR.out
          rw [HK2.out] at hO hR ⊢
          exact ⟨.inr (.inr ⟨ok, HE.out, gV, _, us, rfl, owns_lower hO (by omega), hR⟩), bTrans HB.out HB3.out⟩
  · go_enter Tryd.func76, Tryd.ntmps76
    go_wp2_with fail
    refine (refCheck_any _ _ _ _ S _ hr hf HS.out).mono ?_
    rintro e w1 ⟨he1, hb1⟩
    rw [show S.err = 20 from if_neg ok] at he1
    subst he1
    go_wp2_with fail
    go_ret2
    exact ⟨.inl ⟨ok, rfl⟩, bTrans HB.out hb1⟩
end Go.Proofs.YtbbnpneabmldnaaDoor
