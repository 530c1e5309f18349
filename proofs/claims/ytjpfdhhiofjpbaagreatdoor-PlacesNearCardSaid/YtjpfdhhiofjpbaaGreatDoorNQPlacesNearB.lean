/- Parts joined: what the claim PlacesNear needs beyond the others. -/
import Derived.Test.YtjpfdhhiofjpbaaGreatDoorNQPlacesNearA
set_option linter.unusedSimpArgs false
set_option linter.unusedVariables false
namespace Go.Proofs.YtjpfdhhiofjpbaaGreatDoor
open Go.RowKit Go.Sort
theorem infoList : (Tryz.prog.info? 26).map (fun i => (i.zero, i.size, i.bytes)) = some (some (.slice none 0 0), 1, 24) := by kernel_rfl
/-- a slice that reads as a list of numbers, in a row of numbers -/
def SliceIs (w : World) (v : Value) (l : List Int) : Prop :=
  ∃ A c, v = .slice A l.length c ∧ IntsAt w A l.length (gOf l) ∧ (l = [] ∨ ∃ b o cur fr, A = some ⟨b, o, none⟩ ∧ w.heap[b]? = some (.cells cur 3 fr))
theorem heap_lt {w : World} {b : Nat} {o : Obj} (h : w.heap[b]? = some o) : b < w.heap.size := (Array.getElem?_eq_some_iff.1 h).1
theorem SliceIs.mono {w w' : World} {v : Value} {l : List Int} (h : SliceIs w v l) (hb : Below w.heap.size w w') : SliceIs w' v l := by
  obtain ⟨A, c, e, h1, h2⟩ := h
  refine ⟨A, c, e, h1.mono hb, h2.imp id ?_⟩
  rintro ⟨b, o, cur, fr, e1, e2⟩
  exact ⟨b, o, cur, fr, e1, (hb.block b (heap_lt e2)).trans e2⟩
theorem SliceIs.grown {w w' : World} {v : Value} {l : List Int} {row : Option Nat} (h : SliceIs w v l) (hg : w.grownBy w' row) (ht : ∀ g, row = some g → ∃ cur, w.heap[g]? = some (.cells cur 26 (0, 0))) : SliceIs w' v l := by
  obtain ⟨A, c, e, h1, h2⟩ := h
  rcases h2 with rfl | ⟨b, o, cur, fr, rfl, e2⟩
  · exact ⟨A, c, e, .inl rfl, .inl rfl⟩
  · have hne : some b ≠ row := fun e => by
      obtain ⟨cur', e3⟩ := ht b e.symm
      rw [e2] at e3
      injection e3 with e3
      injection e3 with _ e3
      exact absurd e3 (by decide)
    have hblk := hg.block b (heap_lt e2) hne
    refine ⟨_, c, e, ?_, .inr ⟨b, o, cur, fr, rfl, hblk.trans e2⟩⟩
    rcases h1 with h1 | ⟨b', o', e1, hlt, hc⟩
    · exact .inl h1
    · injection e1 with e1
      injection e1 with e1 e1'
      subst e1 e1'
      exact .inr ⟨b, o, rfl, Nat.lt_of_lt_of_le hlt hg.size, fun i hi => (World.cell?_of_block (w := w) (a := ⟨b, o + i, none⟩) hblk).trans (hc i hi)⟩
def RowsT (w : World) : List Value → List (List Int) → Prop
  | [], [] => True
  | v :: vs, l :: ls => SliceIs w v l ∧ RowsT w vs ls
  | _, _ => False
theorem RowsT.imp {w w' : World} (h : ∀ v l, SliceIs w v l → SliceIs w' v l) : ∀ {vs : List Value} {ls : List (List Int)}, RowsT w vs ls → RowsT w' vs ls
  | [], [], _ => trivial
  | _ :: _, _ :: _, hr => ⟨h _ _ hr.1, RowsT.imp h hr.2⟩
  | [], _ :: _, hr => hr.elim
  | _ :: _, [], hr => hr.elim
theorem RowsT.mono {w w' : World} {vs : List Value} {ls : List (List Int)} (h : RowsT w vs ls) (hb : Below w.heap.size w w') : RowsT w' vs ls := h.imp fun _ _ h => h.mono hb
theorem RowsT.append {w : World} : ∀ {vs us : List Value} {ls ks : List (List Int)}, RowsT w vs ls → RowsT w us ks → RowsT w (vs ++ us) (ls ++ ks)
  | [], _, [], _, _, h => h
  | _ :: _, _, _ :: _, _, h1, h => ⟨h1.1, RowsT.append h1.2 h⟩
  | [], _, _ :: _, _, h1, _ => h1.elim
  | _ :: _, _, [], _, h1, _ => h1.elim
theorem RowsT.get {w : World} : ∀ {vs : List Value} {ls : List (List Int)} {i : Nat} {l : List Int}, RowsT w vs ls → ls[i]? = some l → ∃ v, vs[i]? = some v ∧ SliceIs w v l
  | v :: _, k :: _, 0, l, h, e => ⟨v, rfl, by simp at e; exact e ▸ h.1⟩
  | _ :: _, _ :: _, i + 1, l, h, e => by simpa using RowsT.get (i := i) h.2 (by simpa using e)
  | [], [], i, l, _, e => by simp at e
  | [], _ :: _, _, _, h, _ => h.elim
  | _ :: _, [], _, _, h, _ => h.elim
theorem RowsT.one {w : World} : ∀ {vs : List Value} {ls : List (List Int)}, RowsT w vs ls → ∀ u ∈ vs, u.oneCell' = true
  | [], [], _, u, hu => by cases hu
  | v :: vs, l :: ls, h, u, hu => by
    rcases List.mem_cons.1 hu with rfl | hu
    · obtain ⟨A, c, e, _⟩ := h.1
      rw [e]; rfl
    · exact RowsT.one h.2 u hu
  | [], _ :: _, h, _, _ => h.elim
  | _ :: _, [], h, _, _ => h.elim
/-- a row of lists of the call's own -/
def Listed (base : Nat) (w : World) (L : List (List Int)) (v : Value) : Prop := ∃ vs, w.ownsRow base 26 1 v L.length vs ∧ RowsT w vs L
theorem Listed.mono {base : Nat} {w w' : World} {L : List (List Int)} {v : Value} (h : Listed base w L v) (hb : Below w.heap.size w w') : Listed base w' L v := by
  obtain ⟨vs, h1, h2⟩ := h
  exact ⟨vs, owns_below h1 hb, h2.mono hb⟩
theorem Listed.lower {base base' : Nat} {w : World} {L : List (List Int)} {v : Value} (h : Listed base w L v) (hb : base' ≤ base) : Listed base' w L v := by
  obtain ⟨vs, h1, h2⟩ := h
  exact ⟨vs, owns_lower h1 hb, h2⟩
/-- one row of lists behind another one -/
theorem Listed.more {base : Nat} {w w' : World} {L K : List (List Int)} {v v' : Value} {vs us : List Value} (h1 : w.ownsRow base 26 1 v L.length vs) (h2 : RowsT w vs L) (h3 : RowsT w us K) (hown : w'.ownsRow base 26 1 v' (L.length + K.length) (vs ++ us)) (hg : w.grownBy w' v.ownBlock) : Listed base w' (L ++ K) v' :=
  ⟨vs ++ us, by rw [List.length_append]; exact hown, (h2.append h3).imp fun _ _ h => h.grown hg fun g e => (owns_typed h1 g e).2⟩
def ListsOut (base : Nat) (w' : World) (L : List (List Int)) (e : Ending) : Prop := ∃ v, e = .returned v ∧ Listed base w' L v
def sh_oneR (u : Value) (w : World) (v : Value) : Prop := ∃ b, v = .slice (some ⟨b, 0, none⟩) 1 1 ∧ w.cell? ⟨b, 0, none⟩ = some u
theorem oneR_mono {u : Value} {w w' : World} {v : Value} (hb : Below w.heap.size w w') (h : sh_oneR u w v) : sh_oneR u w' v := by
  obtain ⟨b, e, h⟩ := h
  exact ⟨b, e, (hb.cell (World.block_lt_of_cell? w _ h)).trans h⟩
theorem oneR_on {u : Value} {N n : Nat} {e : TypeId} {w w' : World} {v : Value} (hb : RowOn N e 1 n w w') (h : sh_oneR u w v) : sh_oneR u w' v := by
  rcases hb with hb | ⟨hn, g, cur, cur', _, h2, h3, h4, h5, h6⟩
  · exact oneR_mono hb h
  · obtain ⟨b, e, h⟩ := h
    refine ⟨b, e, ?_⟩
    by_cases hbg : b = g
    · subst hbg
      have hl : w.cell? ⟨b, 0, none⟩ = cur[0]? := cell_of_row w b 0 cur _ _ h2
      have hl' : w'.cell? ⟨b, 0, none⟩ = cur'[0]? := cell_of_row w' b 0 cur' _ _ h3
      have e1 : ∀ c : Array Value, c[0]? = (c.toList.take (n * 1))[0]? := fun c => by
        rw [List.getElem?_take, if_pos (by omega)]
        simp
      rw [hl', e1 cur', h5, ← e1 cur, ← hl, h]
    · exact (World.cell?_of_block (w := w) (a := ⟨b, 0, none⟩) (h6.block b (World.block_lt_of_cell? w _ h) (fun e => hbg (by injection e)))).trans h
theorem oneR_get {u : Value} {w : World} {b : Nat} (h : sh_oneR u w (.slice (some ⟨b, 0, none⟩) 1 1)) : w.cell? ⟨b, 0, none⟩ = some u := by
  obtain ⟨b', e, h⟩ := h
  injection e with e
  injection e with e
  injection e with e
  subst e
  exact h
/-- a row of numbers that the call has made reads as a list -/
theorem sliceIs_own {w : World} {N : Nat} {v : Value} {l : List Int} (h : w.ownsRow N 3 1 v l.length (intL (gOf l) l.length)) : SliceIs w v l := by
  obtain ⟨A, c, e, h1, h2⟩ := intsAt_own h
  refine ⟨A, c, e, h1, ?_⟩
  rcases h.2 with ⟨_, h0⟩ | ⟨g, cap, cur, e2, _, e3, _⟩
  · exact .inl (List.eq_nil_of_length_eq_zero h0)
  · rw [e] at e2
    injection e2 with e2
    exact .inr ⟨g, 0, cur, _, e2, e3⟩
theorem intL_gOf_snoc (l : List Int) (x : Int) : intL (gOf (l ++ [x])) (l.length + 1) = intL (gOf l) l.length ++ [.int .i64 x] := by
  simp only [intL, gOf_last]
  rw [intL_congr fun i hi => gOf_append hi]
def listHeld (v SV : Value) (A : Option Addr) (m c : Nat) (g : Nat → Int) (d : Int) (N : Nat) (L : List (List Int)) : List Stir :=
  [.const v, .const SV, .held emptyS (fun _ _ => True), .const (.slice A m c), .held (ShapeOf m) (AtHand N 3 1 m (intL g m)), .const (.int .i64 d), .held oneS (sh_oneR (.int .i64 d)),
    .stir (ShapeOf (m + 1)) (fun w v => w.ownsRow N 3 1 v (m + 1) (intL g m ++ [.int .i64 d])) (RowOn N 3 1 m), .held (ShapeOf L.length) (fun w v => Listed N w L v)]
theorem listHeld_good (v SV : Value) (A : Option Addr) (m c : Nat) (g : Nat → Int) (d : Int) (N : Nat) (L : List (List Int)) : goodAllS (listHeld v SV A m c g d N L) :=
  ⟨trivial, trivial, ⟨⟨_, 0, rfl⟩, fun _ _ _ _ _ => trivial⟩, trivial, ⟨⟨_, 0, 0, rfl⟩, fun _ _ _ hb h => AtHand.mono hb h⟩, trivial, ⟨⟨_, 0, rfl⟩, fun _ _ _ hb h => oneR_mono hb h⟩, ⟨⟨_, 0, 0, rfl⟩, fun _ _ _ hb h => owns_below h hb⟩, ⟨⟨_, 0, 0, rfl⟩, fun _ _ _ hb h => h.mono hb⟩, trivial⟩
theorem listHeld_cross (md : Region.Mode) (ops : Array Oper) (v SV : Value) (A : Option Addr) (m c : Nat) (g : Nat → Int) (d : Int) (N : Nat) (L : List (List Int)) (h8 : reach md ops 6 8 7 = true) : crossAll md ops N (listHeld v SV A m c g d N L) := by
  intro i s r K hi
  match i, hi with
  | 7, hi =>
    injection hi with hi
    injection hi with e1 e2 e3
    subst e1 e2 e3
    refine ⟨fun w w' hN h => h.below hN, fun j h hj hne => ?_⟩
    match j, hj with
    | 0, hj => injection hj with hj; subst hj; exact .inr fun _ _ _ _ h => h
    | 1, hj => injection hj with hj; subst hj; exact .inr fun _ _ _ _ h => h
    | 2, hj => injection hj with hj; subst hj; exact .inr fun _ _ _ _ h => h
    | 3, hj => injection hj with hj; subst hj; exact .inr fun _ _ _ _ h => h
    | 4, hj => injection hj with hj; subst hj; exact .inr fun _ _ _ hb h => ⟨h.1, AtHand.on hb h.2⟩
    | 5, hj => injection hj with hj; subst hj; exact .inr fun _ _ _ _ h => h
    | 6, hj => injection hj with hj; subst hj; exact .inr fun _ _ _ hb h => ⟨h.1, oneR_on hb h.2⟩
    | 7, hj => exact absurd rfl hne
    | 8, hj => exact .inl h8
    | j + 9, hj => simp [listHeld] at hj
  | 0, hi => injection hi with hi; cases hi
  | 1, hi => injection hi with hi; cases hi
  | 2, hi => injection hi with hi; cases hi
  | 3, hi => injection hi with hi; cases hi
  | 4, hi => injection hi with hi; cases hi
  | 5, hi => injection hi with hi; cases hi
  | 6, hi => injection hi with hi; cases hi
  | 8, hi => injection hi with hi; cases hi
  | i + 9, hi => simp [listHeld] at hi
set_option maxHeartbeats 8000000 in
set_option maxRecDepth 100000 in
theorem lists_any (Ar Af : Option Addr) (cr cf : Nat) (S : Sh) (hnf : S.nf ≤ 12) : ∀ (f : Nat) (w : World) (A : Option Addr) (m c : Nat) (l : List Int), f ≤ S.nf → l.length = m → m + f ≤ S.nf → (m = 0 → f = S.nf) → (0 < m → gOf l (m - 1) = ((S.nf - f : Nat) : Int)) → ShAt w Ar Af S → SliceIs w (.slice A m c) l →
    Calls Tryz.prog 192 #[.agg #[.slice Ar S.nr cr, .slice Af S.nf cf, .int .i64 S.deep, .int .i64 S.haul, .int .i64 S.rest], .slice A m c] w fun e w' => ListsOut w.heap.size w' (l :: behindL S.nf f l) e ∧ Below w.heap.size w w' := by
  intro f
  induction f using Nat.strongRecOn with
  | _ f ih =>
  intro w A m c l hf hlm hmf hf0 hfl hS hI
  obtain ⟨i0, hi, iz0, iz1, iz2⟩ := info_parts infoList
  have hb0 := bAlloc (Below.refl w.heap.size w) (.cells #[.slice Ar S.nr cr, .slice Af S.nf cf, .int .i64 S.deep, .int .i64 S.haul, .int .i64 S.rest] 57)
  have hb1 := bAlloc (Below.refl (w.alloc (.cells #[.slice Ar S.nr cr, .slice Af S.nf cf, .int .i64 S.deep, .int .i64 S.haul, .int .i64 S.rest] 57)).heap.size (w.alloc (.cells #[.slice Ar S.nr cr, .slice Af S.nf cf, .int .i64 S.deep, .int .i64 S.haul, .int .i64 S.rest] 57))) (.cells #[.slice A m c] 26)
  have HS := Lib.hid ((hS.mono hb0).mono hb1)
  have HI := Lib.hid ((hI.mono hb0).mono hb1)
  have HI0 := Lib.hid (hI.mono hb0)
  have HS0 := Lib.hid (hS.mono hb0)
  have HB := Lib.hid hb0
  have HB1 := Lib.hid hb1
  have HLM := Lib.hid hlm
  have HF0 := Lib.hid hf0
  have HFL := Lib.hid hfl
  have HO1 := Lib.hid (World.ownsRow_lit (e := 26) (size := 1) (base := w.heap.size + 1) (w.alloc (.cells #[.slice Ar S.nr cr, .slice Af S.nf cf, .int .i64 S.deep, .int .i64 S.haul, .int .i64 S.rest] 57)) #[.slice A m c] 1 (by simp) (by decide) rfl)
  have HR1 := Lib.hid (show RowsT ((w.alloc (.cells #[.slice Ar S.nr cr, .slice Af S.nf cf, .int .i64 S.deep, .int .i64 S.haul, .int .i64 S.rest] 57)).alloc (.cells #[.slice A m c] 26)) [.slice A m c] [l] from ⟨HI.out, trivial⟩)
  have hints : IntsAt w A m (gOf l) := by
    obtain ⟨A', c', e, h1, _⟩ := hI
    injection e with e1 _ _
    subst e1
    rwa [hlm] at h1
  have HX := Lib.hid ((hints.mono hb0).mono hb1)
  clear hS hI hb0 hb1 hlm hf0 hfl hints
  obtain ⟨q, hq, hqm⟩ : ∃ q : Nat, q = S.nf - f + 1 ∧ ((m = 0 ∧ q = 1) ∨ (0 < m ∧ gOf l (m - 1) = (q : Int) - 1)) := by
    refine ⟨S.nf - f + 1, rfl, ?_⟩
    rcases Nat.eq_zero_or_pos m with h0 | h0
    · exact .inl ⟨h0, by have := HF0.out h0; omega⟩
    · exact .inr ⟨h0, by rw [HFL.out h0]; omega⟩
  have HQ := Lib.hid hq
  have hq1 : 1 ≤ q := by omega
  have hq2 : q ≤ S.nf + 1 := by omega
  clear hq
  rcases hqm with ⟨hm0, hq0⟩ | ⟨hm0, hgq⟩
  case' inl =>
    have hm1 : ¬ (0 : Int) < (m : Int) := by omega
    have HQ0 := Lib.hid hq0
    have HM := Lib.hid hm0
    clear hm0 hq0
    go_enter Tryz.func192, Tryz.ntmps192
    go_wp2_with fail
  case' inr =>
    have hm1 : (0 : Int) < (m : Int) := by omega
    have h0 : IntsAt _ A m (gOf l) := HX.out
    rcases h0 with h0 | ⟨b, o, hA, hb, hcell⟩
    · omega
    have c0 := hcell (m - 1) (by omega)
    rw [hgq] at c0
    clear hcell hgq
    subst hA
    have j1 : (0 : Int) ≤ (m : Int) - 1 := by omega
    have j2 : (m : Int) - 1 < (m : Int) := by omega
    have j3 : ((m : Int) - 1).toNat = m - 1 := by omega
    have HM := Lib.hid hm0
    have HQ0 := Lib.hid (show (q : Int) - 1 + 1 = q by omega)
    clear hm0
    go_enter Tryz.func192, Tryz.ntmps192
    go_wp2_with fail
    clear j1 j2 j3 c0 hb
    generalize (some (⟨b, o, none⟩ : Addr)) = A at *
  all_goals
    go_loopw [5, 7] (fun v i wr => ∃ (V : Value) (d : Nat) (xs : List (List Int)) (vs : List Value), V = v ∧ i = .int .i64 d ∧ q ≤ d ∧ d ≤ S.nf + 1 ∧ xs ++ behindL S.nf (S.nf + 1 - d) l = l :: behindL S.nf f l ∧ wr.ownsRow (w.heap.size + 1) 26 1 v xs.length vs ∧ RowsT wr vs xs ∧ Below (w.alloc (.cells #[.slice Ar S.nr cr, .slice Af S.nf cf, .int .i64 S.deep, .int .i64 S.haul, .int .i64 S.rest] 57)).heap.size (w.alloc (.cells #[.slice Ar S.nr cr, .slice Af S.nf cf, .int .i64 S.deep, .int .i64 S.haul, .int .i64 S.rest] 57)) wr) (fun _ i _ => S.nf + 1 - (intOf i).toNat)
    case atStart =>
      refine ⟨_, q, [l], [.slice _ m c], rfl, ?_, Nat.le_refl _, hq2, ?_, by simpa using HO1.out, HR1.out, HB1.out⟩
      · first | rfl | (rw [HQ0.out]; rfl) | rw [HQ0.out]
      · have e : S.nf + 1 - q = f := by have := HQ.out; omega
        rw [e]; rfl
    case round =>
      obtain ⟨V, d, xs, vs, hV, rfl, hd1, hd2, htot, hown, hrows, hbel⟩ := hrel
      subst hV
      have HT := Lib.hid htot
      have HO := Lib.hid hown
      have HR := Lib.hid hrows
      have HB3 := Lib.hid hbel
      have hIr := Lib.hid (HI0.out.mono hbel)
      have hSr := Lib.hid (HS0.out.mono hbel)
      obtain ⟨bc3, bf3⟩ := bcell hbel
      have hz3 := hbel.size
      simp only [World.size_alloc] at hz3
      have hy3 : w.heap.size < wr.heap.size := hz3
      have hxl : xs.length ≤ 4096 := by
        have h1 := congrArg List.length htot
        have h2 := behindL_len S.nf f l
        have h3 : 2 ^ f ≤ 2 ^ 12 := Nat.pow_le_pow_right (by omega) (by omega)
        simp only [List.length_append, List.length_cons] at h1
        have h4 : (2 : Nat) ^ 12 = 4096 := by decide
        omega
      clear htot hown hrows hbel
      by_cases hlt : d ≤ S.nf
      · have hmd : m + 1 ≤ d := by
          rcases Nat.eq_zero_or_pos m with h0 | h0
          · omega
          · have := HQ.out; omega
        have hX4 : IntsAt wr A m (gOf l) := by
          obtain ⟨A', c', e, h1, _⟩ := hIr.out
          injection e with e1 _ _
          subst e1
          rwa [HLM.out] at h1
        have HX4 := Lib.hid hX4
        have hFq := HQ.out
        obtain ⟨L, hL⟩ : ∃ L, L = (l ++ [(d : Int)]) :: behindL S.nf (S.nf - d) (l ++ [(d : Int)]) := ⟨_, rfl⟩
        have hL1 : 1 ≤ L.length := by rw [hL]; simp
        have hL2 : L.length ≤ 4096 := by
          have h2 := behindL_len S.nf (S.nf - d) (l ++ [(d : Int)])
          have h3 : 2 ^ (S.nf - d) ≤ 2 ^ 12 := Nat.pow_le_pow_right (by omega) (by omega)
          have h4 : (2 : Nat) ^ 12 = 4096 := by decide
          rw [hL, List.length_cons]
          omega
        have HTN := Lib.hid (show (xs ++ L) ++ behindL S.nf (S.nf + 1 - (d + 1)) l = l :: behindL S.nf f l by
          have h1 := HT.out
          rw [show S.nf + 1 - d = (S.nf - d) + 1 from by omega] at h1
          simp only [behindL] at h1
          rw [show S.nf - (S.nf - d) = d from by omega, ← hL] at h1
          rw [show S.nf + 1 - (d + 1) = S.nf - d from by omega, List.append_assoc]
          exact h1)
        have HIH := Lib.hid (fun (w' : World) (A' : Option Addr) (c' : Nat) (hb : Below wr.heap.size wr w') (h : SliceIs w' (.slice A' (m + 1) c') (l ++ [(d : Int)])) =>
          (hL ▸ ih (S.nf - d) (by omega) w' A' (m + 1) c' (l ++ [(d : Int)]) (by omega) (by rw [List.length_append, HLM.out]; rfl) (by omega) (fun h => by omega) (fun _ => by
            rw [Nat.add_sub_cancel, ← HLM.out, gOf_last]; congr 1; omega) (hSr.out.mono hb) h : Calls Tryz.prog 192 #[.agg #[.slice Ar S.nr cr, .slice Af S.nf cf, .int .i64 S.deep, .int .i64 S.haul, .int .i64 S.rest], .slice A' (m + 1) c'] w' fun e w'' => ListsOut w'.heap.size w'' L e ∧ Below w'.heap.size w' w''))
        have HLD := Lib.hid hL
        clear hX4 hFq hL
        go_wp2_with fail
        refine wp_region_stir 9 (listHeld V (.agg #[.slice Ar S.nr cr, .slice Af S.nf cf, .int .i64 S.deep, .int .i64 S.haul, .int .i64 S.rest]) A m c (gOf l) d wr.heap.size L) (by kernel_rfl) (by kernel_rfl) rfl (listHeld_good _ _ _ _ _ _ _ _ _) (listHeld_cross _ _ _ _ _ _ _ _ _ _ _ (by kernel_rfl)) ?_
        refine wpStir_const (by go_simp) ?_
        refine wpStir_const (by go_simp) ?_
        refine wpStir_held rfl (fun w' hb hd => ?_) (fun v hv => ?_)
        · go_simp
          exact ⟨bAlloc (Below.refl _ _) _, _, rfl⟩
        obtain ⟨b0, rfl⟩ := hv
        refine wpStir_const (by go_simp) ?_
        refine wpStir_held rfl (fun w' hb hd => ?_) (fun v hv => ?_)
        · exact stir_copy _ _ _ _ rfl 3 _ 1 8 infoInt Tryz.underlying26 rfl (by decide) b0 A m c (intL (gOf l) m) rfl rfl (by rw [intL_len]; omega) ((intsAt_row.1 HX4.out).mono hb) (by omega) (by decide) _ hb.size
        obtain ⟨b1, c1, rfl⟩ := hv
        refine wpStir_const (by go_simp) ?_
        refine wpStir_held rfl (fun w' hb hd => ?_) (fun v hv => ?_)
        · go_simp
          exact ⟨bAlloc (Below.refl _ _) _, ⟨_, rfl⟩, _, rfl, by go_simp⟩
        obtain ⟨b2, rfl⟩ := hv
        simp only [Act.put, List.setIfInBounds_toArray, List.set_cons_succ, List.set_cons_zero]
        refine wpStir_stir rfl (fun w' hb hd => ?_) (fun v hv => ?_)
        · have h1 : sh_oneR (.int .i64 d) w' (.slice (some ⟨b2, 0, none⟩) 1 1) := hd.1 (by kernel_rfl)
          have h2 : AtHand wr.heap.size 3 1 m (intL (gOf l) m) w' (.slice (some ⟨b1, 0, none⟩) m c1) := hd.2.1 (by kernel_rfl)
          clear hd
          have h3 := oneR_get h1
          refine stir_append w' (Operand.tmp 32) (Operand.tmp 34) 26 ?_ 3 (.int .i64 0) 1 8 ?_ ?_ ?_ ?_ (.slice (some ⟨b1, 0, none⟩) m c1) m (intL (gOf l) m) (some ⟨b2, 0, none⟩) 1 1 [.int .i64 d] wr.heap.size h2 ?_ ?_ ?_ ?_ ?_ ?_ ?_ ?_ ?_
          · rfl
          · exact infoInt
          · exact Tryz.underlying26
          · rfl
          · exact Nat.one_pos
          · rfl
          · rfl
          · exact Nat.one_pos
          · rfl
          · refine .inr ⟨b2, 0, rfl, World.block_lt_of_cell? w' _ h3, fun j u hj => ?_⟩
            match j, hj with
            | 0, hj => simp at hj; subst hj; exact h3
          · intro u hu; simp at hu; subst hu; rfl
          · omega
          · decide
          · exact hb.size
        obtain ⟨b3, c3, rfl⟩ := hv
        refine wpStir_held rfl (fun w' hb hd => ?_) (fun v hv => ?_)
        · have h1 : w'.ownsRow wr.heap.size 3 1 (.slice (some ⟨b3, 0, none⟩) (m + 1) c3) (m + 1) (intL (gOf l) m ++ [.int .i64 d]) := hd.1 (by kernel_rfl)
          clear hd
          have h2 : SliceIs w' (.slice (some ⟨b3, 0, none⟩) (m + 1) c3) (l ++ [(d : Int)]) := by
            refine sliceIs_own (N := wr.heap.size) ?_
            rw [List.length_append, show [(d : Int)].length = 1 from rfl, intL_gOf_snoc, HLM.out]
            exact h1
          go_simp
          refine (HIH.out w' _ _ hb h2).mono ?_
          rintro e w'' ⟨⟨u, he, hl⟩, hb'⟩
          obtain ⟨vs8, h8, _⟩ := id hl
          obtain ⟨g8, c8, h9⟩ := owns_form h8 hL1
          exact ⟨u, he, hb', ⟨g8, c8, h9⟩, hl.lower hb.size⟩
        obtain ⟨b4, c4, rfl⟩ := hv
        refine wpStir_end (fun w5 hb5 hd => ?_)
        have hl5 : Listed wr.heap.size w5 L (.slice (some ⟨b4, 0, none⟩) L.length c4) := hd.1
        clear hd
        simp only [List.drop_succ_cons, List.drop_zero]
        simp only [Act.put, List.setIfInBounds_toArray, List.set_cons_succ, List.set_cons_zero]
        obtain ⟨vs8, h8, hr8⟩ := hl5
        have HO5 := Lib.hid (owns_below HO.out hb5)
        have HR5 := Lib.hid (HR.out.mono hb5)
        have H8 := Lib.hid h8
        have HR8 := Lib.hid hr8
        have HB5 := Lib.hid (bTrans HB3.out hb5)
        have hlen8 := h8.1
        have hz5 : w.heap.size + 1 ≤ w5.heap.size := by have := HB5.out.size; simpa using this
        clear h8 hr8 hb5 bc3 bf3
        go_wp2_with (at_builtin; refine wpList_append_own _ rfl _ _ 58 rfl (w.heap.size + 1) 26 i0 (.slice none 0 0) 1 24 Tryz.underlying58 hi iz0 iz1 iz2 rfl (by decide) V xs.length vs rfl HO5.out ⟨b4, 0, none⟩ L.length c4 vs8 rfl hlen8 (fun j u h => H8.out.cells (g := b4) rfl j u h) HR8.out.one (by unfold maxLen; omega) (by omega) hz5 ?_)
        intro v' w6 hown6 hgrow _
        have HF6 := Lib.hid (Listed.more HO5.out HR5.out HR8.out hown6 hgrow)
        have HB6 := Lib.hid (HB5.out.grown hgrow HB5.out.size (fun k hk => by have := (HO5.out.lt k hk).1; simpa using this))
        clear hown6 hgrow
        go_wp2_with fail
        go_roundw
        case rel =>
          obtain ⟨vs9, h9, hr9⟩ := HF6.out
          exact ⟨v', d + 1, xs ++ L, vs9, rfl, by go_num, by omega, by omega, HTN.out, h9, hr9, HB6.out⟩
        case measure => simp [intOf]; omega
      · obtain rfl : d = S.nf + 1 := by omega
        have hfin := (⟨vs, owns_lower HO.out (Nat.le_succ _), HR.out⟩ : Listed w.heap.size wr xs _)
        rw [show xs = l :: behindL S.nf f l from by
          have h1 := HT.out
          rw [Nat.sub_self] at h1
          rw [← h1]
          exact (List.append_nil xs).symm] at hfin
        have HFIN := Lib.hid hfin
        clear hfin
        go_wp2_with fail
        go_ret
        exact ⟨⟨_, rfl, HFIN.out⟩, bTrans HB.out HB3.out⟩
theorem isPlan_at (Ar Af : Option Addr) (cr cf : Nat) (S : Sh) (w : World) (ok : S.Ok) (hS : ShAt w Ar Af S) {m : Nat} {g : Nat → Int} {b : Bool} (h : S.planB m g = b) (A : Option Addr) (c : Nat) (hm : m ≤ 9223372036854775807) (hg : IntsAt w A m g) :
    Calls Tryz.prog 193 #[.agg #[.slice Ar S.nr cr, .slice Af S.nf cf, .int .i64 S.deep, .int .i64 S.haul, .int .i64 S.rest], .slice A m c] w fun e w' => e = .returned (.bool b) ∧ Below w.heap.size w w' := by
  have := isPlan_any Ar Af cr cf S w ok hS A m c g hm hg
  rw [h] at this
  exact this
theorem sh_owns_slice {w : World} {base : Nat} {e : TypeId} {size : Nat} {v : Value} {n : Nat} {xs : List Value} (h : w.ownsRow base e size v n xs) : ∃ A c, v = .slice A n c := by
  rcases h.2 with ⟨rfl, rfl⟩ | ⟨g, cap, cur, rfl, _⟩
  · exact ⟨none, 0, rfl⟩
  · exact ⟨_, cap, rfl⟩
theorem news_one {w : World} {b : Nat} {u : Value} (h : w.cell? ⟨b, 0, none⟩ = some u) : ∀ j v, [u][j]? = some v → w.cell? ((⟨b, 0, none⟩ : Addr).add j) = some v := by
  intro j v hj
  match j, hj with
  | 0, hj => simp at hj; subst hj; simpa [Addr.add] using h
theorem one_one {u : Value} (h : u.oneCell' = true) : ∀ v ∈ [u], v.oneCell' = true := by
  intro v hv
  rw [List.mem_singleton.1 hv]
  exact h
/-- what is read at a place of a row of lists -/
theorem Listed.at_ {base : Nat} {w : World} {L : List (List Int)} {g c k : Nat} {vs : List Value} {l : List Int} (h1 : w.ownsRow base 26 1 (.slice (some ⟨g, 0, none⟩) L.length c) L.length vs) (h2 : RowsT w vs L) (hk : L[k]? = some l) :
    ∃ A m d, w.cell? ⟨g, k, none⟩ = some (.slice A m d) ∧ m = l.length ∧ IntsAt w A m (gOf l) ∧ SliceIs w (.slice A m d) l := by
  obtain ⟨v, e1, A, d, rfl, e2, e3⟩ := h2.get hk
  have := h1.cells (g := g) rfl k _ e1
  rw [show (⟨g, 0, none⟩ : Addr).add k = ⟨g, 0 + k, none⟩ from by unfold Addr.add; split <;> simp_all, Nat.zero_add] at this
  exact ⟨A, _, d, this, rfl, e2, A, d, rfl, e2, e3⟩
def PlansOut (base : Nat) (w' : World) (S : Sh) (e : Ending) : Prop :=
  (¬ S.Ok ∧ e = .returned (.tuple #[.slice none 0 0, .int .i64 20])) ∨ (S.Ok ∧ S.plansL = [] ∧ e = .returned (.tuple #[.slice none 0 0, .int .i64 3])) ∨
    (S.Ok ∧ S.plansL ≠ [] ∧ ∃ g c vs, e = .returned (.tuple #[.slice (some ⟨g, 0, none⟩) S.plansL.length c, .int .i64 0]) ∧ w'.ownsRow base 26 1 (.slice (some ⟨g, 0, none⟩) S.plansL.length c) S.plansL.length vs ∧ RowsT w' vs S.plansL)
theorem take_filter {p : List Int → Bool} {L : List (List Int)} {k : Nat} {l : List Int} (h : L[k]? = some l) : (L.take (k + 1)).filter p = (L.take k).filter p ++ if p l then [l] else [] := by
  rw [List.take_add_one, h, Option.toList_some, List.filter_append]
  congr 1
  simp [List.filter_cons]
set_option maxHeartbeats 8000000 in
set_option maxRecDepth 100000 in
theorem plans_any (Ar Af : Option Addr) (cr cf : Nat) (S : Sh) (w : World) (hr : S.nr ≤ 9223372036854775807) (hf : S.nf ≤ 9223372036854775807) (hS : ShAt w Ar Af S) :
    Calls Tryz.prog 179 #[.agg #[.slice Ar S.nr cr, .slice Af S.nf cf, .int .i64 S.deep, .int .i64 S.haul, .int .i64 S.rest]] w fun e w' => PlansOut w.heap.size w' S e ∧ Below w.heap.size w w' := by
  have hb0 := bAlloc (Below.refl w.heap.size w) (.cells #[.slice Ar S.nr cr, .slice Af S.nf cf, .int .i64 S.deep, .int .i64 S.haul, .int .i64 S.rest] 57)
  have HS := Lib.hid (hS.mono hb0)
  have HB := Lib.hid hb0
  clear hS hb0
  by_cases ok : S.Ok
  · have hnf := ok.nf
    obtain ⟨i0, hi, iz0, iz1, iz2⟩ := info_parts infoList
    go_enter Tryz.func179, Tryz.ntmps179
    go_wp2_with fail
    refine (refCheck_any _ _ _ _ S _ hr hf HS.out).mono ?_
    rintro e w1 ⟨he1, hb1⟩
    rw [show S.err = 0 from if_pos ok] at he1
    subst he1
    have HB1 := Lib.hid hb1
    obtain ⟨bc1, bf1⟩ := bcell hb1
    have hz1 := hb1.size
    simp only [World.size_alloc] at hz1
    have hy1 : w.heap.size < w1.heap.size := by omega
    clear hb1
    go_wp2_with fail
    refine (lists_any _ _ _ _ S hnf S.nf _ _ 0 0 [] (Nat.le_refl _) rfl (by omega) (fun _ => rfl) (fun h => absurd h (Nat.lt_irrefl 0)) (HS.out.mono HB1.out) ⟨none, 0, rfl, .inl rfl, .inl rfl⟩).mono ?_
    rintro e w2 ⟨⟨v2, rfl, vs, hown2, hrows2⟩, hb2⟩
    obtain ⟨L, hL⟩ : ∃ L, L = allLists S.nf := ⟨_, rfl⟩
    rw [show [] :: behindL S.nf S.nf [] = L from hL.symm] at hown2 hrows2
    have hL1 : 1 ≤ L.length := by rw [hL]; simp [allLists]
    have hL2 : L.length ≤ 4096 := by
      have h2 := behindL_len S.nf S.nf []
      have h3 : 2 ^ S.nf ≤ 2 ^ 12 := Nat.pow_le_pow_right (by omega) hnf
      have h4 : (2 : Nat) ^ 12 = 4096 := by decide
      rw [hL]
      simp only [allLists, List.length_cons]
      omega
    obtain ⟨g2, c2, rfl⟩ := owns_form hown2 hL1
    have HLD := Lib.hid hL
    have HO2 := Lib.hid hown2
    have HR2 := Lib.hid hrows2
    have HB2 := Lib.hid (bTrans HB1.out hb2)
    have hg2 : g2 < w2.heap.size := (hown2.lt g2 rfl).2
    obtain ⟨bc2, bf2⟩ := bcell HB2.out
    have hz2 := HB2.out.size
    simp only [World.size_alloc] at hz2
    have hy2 : w.heap.size < w2.heap.size := by omega
    clear hb2 bc1 bf1 hz1 hy1 HB1 hL hown2 hrows2
    go_wp2_with fail
    clear bc2 bf2
    go_loopw [5, 7] (fun v i wr => ∃ (V : Value) (k : Nat) (ks : List (List Int)) (us : List Value), V = v ∧ i = .int .i64 k ∧ k ≤ L.length ∧ ks = (L.take k).filter S.isPlanL ∧ wr.ownsRow w2.heap.size 26 1 V ks.length us ∧ RowsT wr us ks ∧ Below w2.heap.size w2 wr) (fun _ i _ => L.length - (intOf i).toNat)
    case atStart => exact ⟨_, 0, [], [], rfl, rfl, Nat.zero_le _, rfl, World.ownsRow_nil _ _ _ _, trivial, Below.refl _ _⟩
    case round =>
      obtain ⟨V, k, ks, us, hV, rfl, hk, hks, hown, hrows, hbel⟩ := hrel
      subst hV
      have HKS := Lib.hid hks
      have HO := Lib.hid hown
      have HR := Lib.hid hrows
      have HD3 := Lib.hid hbel
      have HB3 := Lib.hid (bTrans HB2.out hbel)
      obtain ⟨bc3, bf3⟩ := bcell HB3.out
      have hz3 := HB3.out.size
      simp only [World.size_alloc] at hz3
      have hy3 : w.heap.size < wr.heap.size := hz3
      have hg3 : g2 < wr.heap.size := Nat.lt_of_lt_of_le hg2 hbel.size
      have hkl : ks.length ≤ 4096 := by
        have h1 := List.length_filter_le S.isPlanL (L.take k)
        have h2 := List.length_take_le k L
        rw [hks]
        omega
      clear hks hown hrows hbel
      by_cases hlt : k < L.length
      · obtain ⟨l, hl⟩ : ∃ l, L[k]? = some l := ⟨_, List.getElem?_eq_getElem hlt⟩
        obtain ⟨Ak, mk, dk, hc, hmk, hint, hsl⟩ := Listed.at_ (owns_below HO2.out HD3.out) (HR2.out.mono HD3.out) hl
        have hm12 : mk ≤ 9223372036854775807 := by
          have h1 := List.mem_of_getElem? hl
          rw [HLD.out] at h1
          have := all_lens h1
          omega
        have hpl : S.planB mk (gOf l) = S.isPlanL l := by rw [hmk]; rfl
        have HI := Lib.hid hint
        have HSL := Lib.hid hsl
        have HTF := Lib.hid (take_filter (p := S.isPlanL) hl)
        have hlt2 : (k : Int) < (L.length : Int) := by omega
        clear hmk
        cases hp : S.isPlanL l
        all_goals
          rw [hp] at hpl
          have HP := Lib.hid hpl
          have HPL := Lib.hid hp
          clear hpl hp
          go_wp2_with fail
          refine wp_region_quiet_below (by kernel_rfl) (by kernel_rfl) ?_
          repeat (go_big_quiet_step ((go_at_call 193; exact Calls.regrown_of (isPlan_at _ _ _ _ S _ ok ((HS.out.mono HB3.out).mono (below_regrown _ _ _)) HP.out _ _ hm12 (HI.out.mono (below_regrown _ _ _))))))
          refine wpQuiet_nil ?_
          intro w4 hw4
          have hb4 := below_of_regrown hw4
          have HD4 := Lib.hid (bTrans HD3.out hb4)
          have HB4 := Lib.hid (bTrans HB3.out hb4)
          have HO4 := Lib.hid (owns_below HO.out hb4)
          have HR4 := Lib.hid (HR.out.mono hb4)
          have HSL4 := Lib.hid (HSL.out.mono hb4)
          have hz4 := hb4.size
          have hc4 := (hb4.cell (p := ⟨g2, k, none⟩) hg3).trans hc
          obtain ⟨bc4, bf4⟩ := bcell HB4.out
          have hy4 : w.heap.size < w4.heap.size := by omega
          have hg4 : g2 < w4.heap.size := by omega
          clear hw4 hb4 bc3 bf3 hz3 hy3 hg3 hc
        · go_wp2_with fail
          go_roundw
          case rel => exact ⟨V, k + 1, ks, us, rfl, by go_num, by omega, by rw [HTF.out, HPL.out, HKS.out]; simp, HO4.out, HR4.out, HD4.out⟩
          case measure => simp [intOf]; omega
        · clear bc4 bf4
          go_wp2_with (at_builtin; refine wpList_append_own _ rfl _ _ 58 rfl w2.heap.size 26 i0 (.slice none 0 0) 1 24 Tryz.underlying58 hi iz0 iz1 iz2 rfl (by decide) V ks.length us rfl (HO4.out.alloc _) ⟨w4.heap.size, 0, none⟩ 1 1 [.slice Ak mk dk] rfl rfl (news_one (by go_simp)) (one_one rfl) (by unfold maxLen; omega) (by omega) (by have := HD4.out.size; simp; omega) ?_)
          intro v' w5 hown5 hgrow _
          have HD5 := Lib.hid ((HD4.out.alloc HD4.out.size _).grown hgrow (by have := HD4.out.size; simp; omega) (fun k hk => (HO4.out.lt k hk).1))
          have hl5 := Listed.more (K := [l]) (HO4.out.alloc _) (HR4.out.mono (bAlloc (Below.refl _ _) _)) (us := [.slice Ak mk dk]) ⟨HSL4.out.mono (bAlloc (Below.refl _ _) _), trivial⟩ hown5 hgrow
          have HL5 := Lib.hid hl5
          clear hown5 hgrow hl5
          go_wp2_with fail
          go_roundw
          case rel =>
            obtain ⟨us', h1, h2⟩ := HL5.out
            exact ⟨v', k + 1, ks ++ [l], us', rfl, by go_num, by omega, by rw [HTF.out, HPL.out, HKS.out]; simp, h1, h2, HD5.out⟩
          case measure => simp [intOf]; omega
      · obtain rfl : k = L.length := by omega
        have hks2 : ks = S.plansL := by rw [HKS.out, List.take_length, HLD.out]; rfl
        have HK2 := Lib.hid hks2
        obtain ⟨AV, cV, rfl⟩ := sh_owns_slice HO.out
        rcases Nat.eq_zero_or_pos ks.length with h0 | h0
        · have hz : ((ks.length : Int) == 0) = true := by rw [h0]; rfl
          have HE := Lib.hid (show S.plansL = [] by rw [← hks2]; exact List.eq_nil_of_length_eq_zero h0)
          clear hks2 h0
          go_wp2_with fail
          go_ret2
          exact ⟨.inr (.inl ⟨ok, HE.out, rfl⟩), bTrans HB.out HB3.out⟩
        · have hz : ((ks.length : Int) == 0) = false := beq_eq_false_iff_ne.2 (by omega)
          obtain ⟨gV, cV', hV⟩ := owns_form HO.out h0
          injection hV with e1 e2 e3
          subst e1 e3
          have HE := Lib.hid (show S.plansL ≠ [] by rw [← hks2]; intro e; rw [e] at h0; exact absurd h0 (Nat.lt_irrefl 0))
          clear hks2 h0
          go_wp2_with fail
          go_ret2
          have hO := HO.out
          have hR := HR.out
          rw [HK2.out] at hO hR ⊢
          exact ⟨.inr (.inr ⟨ok, HE.out, gV, _, us, rfl, owns_lower hO (by omega), hR⟩), bTrans HB.out HB3.out⟩
  · go_enter Tryz.func179, Tryz.ntmps179
    go_wp2_with fail
    refine (refCheck_any _ _ _ _ S _ hr hf HS.out).mono ?_
    rintro e w1 ⟨he1, hb1⟩
    rw [show S.err = 20 from if_neg ok] at he1
    subst he1
    go_wp2_with fail
    go_ret2
    exact ⟨.inl ⟨ok, rfl⟩, bTrans HB.out hb1⟩
end Go.Proofs.YtjpfdhhiofjpbaaGreatDoor


namespace Go.Proofs.YtjpfdhhiofjpbaaGreatDoor
open Go.RowKit Go.Sort
theorem costOf_at (Ar Af : Option Addr) (cr cf : Nat) (S : Sh) (w : World) (ok : S.Ok) (hS : ShAt w Ar Af S) {m : Nat} {g : Nat → Int} {x : Int} (h : S.costOf m g = x) (A : Option Addr) (c : Nat) (hg : IntsAt w A m g) (hR : Rising 1 S.nf m g) :
    Calls Tryz.prog 180 #[.agg #[.slice Ar S.nr cr, .slice Af S.nf cf, .int .i64 S.deep, .int .i64 S.haul, .int .i64 S.rest], .slice A m c] w fun e w' => e = .returned (.int .i64 x) ∧ Below w.heap.size w w' := by
  have := costOf_any Ar Af cr cf S w ok hS A m c g hg hR
  rw [h] at this
  exact this
theorem plans_lens {S : Sh} (ok : S.Ok) : S.plansL.length ≤ 4096 ∧ ∀ l ∈ S.plansL, l.length ≤ 12 := by
  have hnf := ok.nf
  have h2 := behindL_len S.nf S.nf []
  have h3 : 2 ^ S.nf ≤ 2 ^ 12 := Nat.pow_le_pow_right (by omega) hnf
  have h4 : (2 : Nat) ^ 12 = 4096 := by decide
  have h5 : S.plansL.length ≤ (allLists S.nf).length := List.length_filter_le _ _
  simp only [allLists, List.length_cons] at h5
  refine ⟨by omega, fun l hl => ?_⟩
  have := all_lens (List.mem_filter.1 hl).1
  omega
theorem fewest_none {S : Sh} (ok : S.Ok) (h : S.plansL = []) : S.fewestOut = (0, 3) ∧ S.cheapOut = (0, 3) := by
  rcases out_cases ok with ⟨hh, _⟩ | ⟨_, h1, h2⟩
  · exact absurd h (plans_has.2 hh)
  · exact ⟨h1, h2⟩
theorem cheap_some {S : Sh} (ok : S.Ok) {b : List Int} {xs : List (List Int)} (hL : S.plansL = b :: xs) {n : Int} (h1 : ∃ l ∈ S.plansL, S.costOf l.length (gOf l) = n) (h2 : ∀ l ∈ S.plansL, n ≤ S.costOf l.length (gOf l)) : S.cheapOut = (n, 0) := by
  have hc := min_cost hL h1 h2
  rcases out_cases ok with ⟨_, m, n', _, h3, _, h4, _⟩ | ⟨h, _⟩
  · rw [h3, h4.uniq hc]
  · exact absurd (plans_has.1 (by rw [hL]; simp)) h
set_option maxHeartbeats 4000000 in
set_option maxRecDepth 100000 in
theorem refCheap_any (Ar Af : Option Addr) (cr cf : Nat) (S : Sh) (w : World) (hr : S.nr ≤ 9223372036854775807) (hf : S.nf ≤ 9223372036854775807) (hS : ShAt w Ar Af S) :
    Calls Tryz.prog 153 #[.agg #[.slice Ar S.nr cr, .slice Af S.nf cf, .int .i64 S.deep, .int .i64 S.haul, .int .i64 S.rest]] w fun e w' => e = .returned (.tuple #[.int .i64 S.cheapOut.1, .int .i64 S.cheapOut.2]) ∧ Below w.heap.size w w' := by
  have hb0 := bAlloc (Below.refl w.heap.size w) (.cells #[.slice Ar S.nr cr, .slice Af S.nf cf, .int .i64 S.deep, .int .i64 S.haul, .int .i64 S.rest] 57)
  have HS := Lib.hid (hS.mono hb0)
  have HB := Lib.hid hb0
  clear hS hb0
  go_enter Tryz.func153, Tryz.ntmps153
  go_wp2_with fail
  refine (plans_any _ _ _ _ S _ hr hf HS.out).mono ?_
  rintro e w2 ⟨hp, hb2⟩
  have HB2 := Lib.hid hb2
  obtain ⟨bc2, bf2⟩ := bcell hb2
  have hz2 := hb2.size
  simp only [World.size_alloc] at hz2
  have hy2 : w.heap.size < w2.heap.size := by omega
  clear hb2
  rcases hp with ⟨ok, rfl⟩ | ⟨ok, hno, rfl⟩ | ⟨ok, hne, g2, c2, vs, rfl, hown, hrows⟩
  · have HE := Lib.hid (cheapOut_bad ok)
    go_wp2_with fail
    go_ret2
    exact ⟨by rw [HE.out]; rfl, bTrans HB.out HB2.out⟩
  · have HE := Lib.hid (fewest_none ok hno).2
    clear hno
    go_wp2_with fail
    go_ret2
    exact ⟨by rw [HE.out]; rfl, bTrans HB.out HB2.out⟩
  · obtain ⟨b, xs, hbx⟩ : ∃ b xs, S.plansL = b :: xs := by
      cases h : S.plansL with
      | nil => exact absurd h hne
      | cons b xs => exact ⟨b, xs, rfl⟩
    obtain ⟨hle, hlens⟩ := plans_lens ok
    obtain ⟨L, hL⟩ : ∃ L, L = S.plansL := ⟨_, rfl⟩
    rw [← hL] at hown hrows hne hle hlens
    have hL1 : 0 < L.length := by rw [hL, hbx]; simp
    have hL1' : (0 : Int) < (L.length : Int) := by omega
    have HBX := Lib.hid hbx
    have HLX := Lib.hid hL
    rw [← hL]
    have HO := Lib.hid hown
    have HR := Lib.hid hrows
    have hg2 : g2 < w2.heap.size := (hown.lt g2 rfl).2
    have HPL := Lib.hid (fun (l : List Int) (h : l ∈ L) => listed_plan (hL ▸ h : l ∈ S.plansL))
    have hb0L : b ∈ L := by rw [hL, hbx]; exact List.mem_cons_self ..
    have HBL := Lib.hid hb0L
    obtain ⟨A0, m0, d0, hc0, hm0, hint0, _⟩ := Listed.at_ hown hrows (show L[0]? = some b by rw [hL, hbx]; rfl)
    obtain ⟨x0, hx0⟩ : ∃ x0, S.costOf m0 (gOf b) = x0 := ⟨_, rfl⟩
    have HI0 := Lib.hid hint0
    have HX0 := Lib.hid hx0
    have HR0 := Lib.hid (show Rising 1 S.nf m0 (gOf b) by rw [hm0]; exact (HPL.out b hb0L).rising)
    have HXX := Lib.hid (show S.costOf b.length (gOf b) = x0 by rw [← hm0]; exact hx0)
    clear hown hrows hne hlens hbx hL hint0 hm0 hx0 hb0L
    go_wp2_with fail
    refine wp_region_quiet_below (by kernel_rfl) (by kernel_rfl) ?_
    repeat (go_big_quiet_step ((go_at_call 180; exact Calls.regrown_of (costOf_at _ _ _ _ S _ ok ((HS.out.mono HB2.out).mono (below_regrown _ _ _)) HX0.out _ _ (HI0.out.mono (below_regrown _ _ _)) HR0.out))))
    refine wpQuiet_nil ?_
    intro w3 hw3
    have hb3 := below_of_regrown hw3
    have HB3 := Lib.hid (bTrans HB2.out hb3)
    have HO3 := Lib.hid (owns_below HO.out hb3)
    have HR3 := Lib.hid (HR.out.mono hb3)
    have hz3 := hb3.size
    have hg3 : g2 < w3.heap.size := by omega
    have hy3 : w.heap.size < w3.heap.size := by omega
    clear hw3 hb3 bc2 bf2 hz2 hy2 hc0 hg2 HO HR
    go_wp2_with fail
    go_loopw [6, 7] (fun v i wr => ∃ (k : Nat) (n : Int), v = .int .i64 n ∧ i = .int .i64 k ∧ k ≤ L.length ∧ (∃ l ∈ L, S.costOf l.length (gOf l) = n) ∧ (∀ j l, j < k → L[j]? = some l → n ≤ S.costOf l.length (gOf l)) ∧ Below w3.heap.size w3 wr) (fun _ i _ => L.length - (intOf i).toNat)
    case atStart => exact ⟨0, x0, rfl, rfl, Nat.zero_le _, ⟨b, HBL.out, HXX.out⟩, fun j l h => absurd h (Nat.not_lt_zero _), Below.refl _ _⟩
    case round =>
      obtain ⟨k, n, rfl, rfl, hk, hex, hmin, hbel⟩ := hrel
      have HEX := Lib.hid hex
      have HMIN := Lib.hid hmin
      have HD4 := Lib.hid hbel
      have HB4 := Lib.hid (bTrans HB3.out hbel)
      obtain ⟨bc4, bf4⟩ := bcell HB4.out
      have hz4 := HB4.out.size
      simp only [World.size_alloc] at hz4
      have hy4 : w.heap.size < wr.heap.size := hz4
      have hg4 : g2 < wr.heap.size := Nat.lt_of_lt_of_le hg3 hbel.size
      clear hex hmin hbel
      by_cases hlt : k < L.length
      · obtain ⟨l, hl⟩ : ∃ l, L[k]? = some l := ⟨_, List.getElem?_eq_getElem hlt⟩
        obtain ⟨Ak, mk, dk, hc, hmk, hint, _⟩ := Listed.at_ (owns_below HO3.out HD4.out) (HR3.out.mono HD4.out) hl
        have hlt2 : (k : Int) < (L.length : Int) := by omega
        obtain ⟨x, hx⟩ : ∃ x, S.costOf mk (gOf l) = x := ⟨_, rfl⟩
        have HX := Lib.hid hx
        have HI := Lib.hid hint
        have HL := Lib.hid hl
        have HML := Lib.hid (List.mem_of_getElem? hl)
        have HRK := Lib.hid (show Rising 1 S.nf mk (gOf l) by rw [hmk]; exact (HPL.out l HML.out).rising)
        have hxl : S.costOf l.length (gOf l) = x := by rw [← hmk]; exact hx
        have hmn : ∃ y, (if x < n then x else n) = y ∧ (∃ l ∈ L, S.costOf l.length (gOf l) = y) ∧ ∀ j l, j < k + 1 → L[j]? = some l → y ≤ S.costOf l.length (gOf l) := by
          by_cases hxn : x < n
          · refine ⟨x, if_pos hxn, ⟨l, HML.out, hxl⟩, fun j l' hj hl' => ?_⟩
            rcases Nat.lt_or_ge j k with h1 | h1
            · have := HMIN.out j l' h1 hl'; omega
            · obtain rfl : j = k := by omega
              rw [hl] at hl'
              injection hl' with hl'
              subst hl'
              omega
          · refine ⟨n, if_neg hxn, HEX.out, fun j l' hj hl' => ?_⟩
            rcases Nat.lt_or_ge j k with h1 | h1
            · exact HMIN.out j l' h1 hl'
            · obtain rfl : j = k := by omega
              rw [hl] at hl'
              injection hl' with hl'
              subst hl'
              omega
        obtain ⟨y, hy, hy1, hy2⟩ := hmn
        have HY1 := Lib.hid hy1
        have HY2 := Lib.hid hy2
        clear hx hint hl hmk hxl hy1 hy2
        go_wp2_with fail
        refine wp_region_quiet_below (by kernel_rfl) (by kernel_rfl) ?_
        repeat (go_big_quiet_step ((go_at_call 180; exact Calls.regrown_of (costOf_at _ _ _ _ S _ ok ((HS.out.mono HB4.out).mono (below_regrown _ _ _)) HX.out _ _ (HI.out.mono (below_regrown _ _ _)) HRK.out))))
        refine wpQuiet_nil ?_
        intro w5 hw5
        have HD5 := Lib.hid (bTrans HD4.out (below_of_regrown hw5))
        clear hw5
        go_wp2_with fail
        go_roundw
        case rel => exact ⟨k + 1, y, by first | rfl | (rw [hy]), by go_num, by omega, HY1.out, HY2.out, HD5.out⟩
        case measure => simp [intOf]; omega
      · obtain rfl : k = L.length := by omega
        have HE := Lib.hid (cheap_some ok HBX.out (n := n) (by rw [← HLX.out]; exact HEX.out) (fun l hl => by
          rw [← HLX.out] at hl
          obtain ⟨j, hj, e⟩ := List.getElem_of_mem hl
          exact HMIN.out j l hj (by rw [List.getElem?_eq_getElem hj, e])))
        go_wp2_with fail
        go_ret2
        exact ⟨by rw [HE.out]; rfl, bTrans HB.out HB4.out⟩
end Go.Proofs.YtjpfdhhiofjpbaaGreatDoor


namespace Go.Proofs.YtjpfdhhiofjpbaaGreatDoor
open Go.RowKit Go.Sort
/-- the price of a spot, below 0 if it cannot be dug -/
noncomputable def Pt.priceV (t : Pt) (s : Nat) : Int := if (t.cheap s).2 = 0 then (t.cheap s).1 else -1
theorem cheap_zero {t : Pt} (ok : t.Ok) {s : Nat} (hs : s < t.ns) (h : (t.cheap s).2 ≠ 0) : t.cheap s = (0, 3) := by
  rcases out_cases (ok.spot s hs).sh with ⟨_, m, n, _, h', _⟩ | ⟨_, _, h'⟩
  · exact absurd (by unfold Pt.cheap; rw [h']) h
  · unfold Pt.cheap; rw [h']
set_option maxHeartbeats 4000000 in
set_option maxRecDepth 100000 in
theorem priceOf9_any (Aw Af Ao Ap As : Option Addr) (cw cf co cp cs : Nat) (t : Pt) (i : Nat) (w : World) (hs : t.Small) (hT : PAt w Aw Af Ao Ap As t) (hi : i < t.ns) :
    Calls Tryz.prog 91 #[.agg #[.int .i64 t.q.wells, .slice Aw t.q.nw cw, .slice Af t.q.nf cf, .slice Ao t.no co, .slice Ap t.np cp, .slice As t.ns cs, .int .i64 t.far, .int .i64 t.harm, .int .i64 t.many], .int .i64 (i : Int)] w fun e w' => e = .returned (.int .i64 (t.priceV i)) ∧ Below w.heap.size w w' := by
  obtain ⟨b, o, Ar, Af2, Ax, cr, cf2, cx, hA, hb7, hsh, hrow, s0, s1, s2, s3, s4, s5, s6⟩ := hT.spots.get hi
  have hxs := hs.spot i hi
  have hi1 : (i : Int) < (t.ns : Int) := by omega
  have hi0 : (0 : Int) ≤ (i : Int) := by omega
  obtain ⟨x, hxx⟩ : ∃ x, t.spot i = x := ⟨_, rfl⟩
  rw [hxx] at s0 s1 s2 s3 s4 s5 s6 hsh hrow hxs
  subst hA
  obtain ⟨y, hy⟩ : ∃ y, (t.cheap i).1 = y := ⟨_, rfl⟩
  obtain ⟨z, hz⟩ : ∃ z, (t.cheap i).2 = z := ⟨_, rfl⟩
  have HE := Lib.hid (show t.priceV i = if z = 0 then y else -1 by unfold Pt.priceV; rw [hy, hz])
  have HC := Lib.hid (fun (w' : World) (hb : Below w.heap.size w w') => (by have := refCheap_any Ar Af2 cr cf2 x.sh w' hxs.nr hxs.nf (hsh.mono hb); rw [← hxx] at this ⊢; unfold Pt.cheap at hy hz; rw [hy, hz] at this; exact this : Calls Tryz.prog 153 #[.agg #[.slice Ar x.sh.nr cr, .slice Af2 x.sh.nf cf2, .int .i64 x.sh.deep, .int .i64 x.sh.haul, .int .i64 x.sh.rest]] w' fun e w'' => e = .returned (.tuple #[.int .i64 y, .int .i64 z]) ∧ Below w'.heap.size w' w''))
  clear hy hz hsh hrow hxs hxx hi
  have HD0 := Lib.hid (Below.refl w.heap.size w)
  have HSM := Lib.hid hs
  have HT0 := Lib.hid hT
  clear hs hT
  go_enter Tryz.func91, Tryz.ntmps91
  go_wp2_with fail
  refine (HC.out _ (bTrans HD0.out (bAlloc (Below.refl _ _) (.cells #[.int .i64 t.q.wells, .slice Aw t.q.nw cw, .slice Af t.q.nf cf, .slice Ao t.no co, .slice Ap t.np cp, .slice (some ⟨b, o, none⟩) t.ns cs, .int .i64 t.far, .int .i64 t.harm, .int .i64 t.many] 29)))).mono ?_
  rintro e w1 ⟨rfl, hb⟩
  have hB1 : Below w.heap.size w w1 := bTrans (bAlloc (Below.refl _ _) (.cells #[.int .i64 t.q.wells, .slice Aw t.q.nw cw, .slice Af t.q.nf cf, .slice Ao t.no co, .slice Ap t.np cp, .slice (some ⟨b, o, none⟩) t.ns cs, .int .i64 t.far, .int .i64 t.harm, .int .i64 t.many] 29)) hb
  have HD1 := Lib.hid (bTrans HD0.out hB1)
  have HT1 := Lib.hid (HT0.out.mono hB1)
  have T1 := Lib.hid (show TBox w1 w.heap.size 29 #[.int .i64 t.q.wells, .slice Aw t.q.nw cw, .slice Af t.q.nf cf, .slice Ao t.no co, .slice Ap t.np cp, .slice (some ⟨b, o, none⟩) t.ns cs, .int .i64 t.far, .int .i64 t.harm, .int .i64 t.many] from by have := ((TBox.new w #[.int .i64 t.q.wells, .slice Aw t.q.nw cw, .slice Af t.q.nf cf, .slice Ao t.no co, .slice Ap t.np cp, .slice (some ⟨b, o, none⟩) t.ns cs, .int .i64 t.far, .int .i64 t.harm, .int .i64 t.many] 29).mono (Below.refl _ _)).mono hb; simpa using this)
  clear hb hB1 HD0 HT0
  obtain ⟨T_0, T_1, T_2, T_3, T_4, T_5, T_6, T_7, T_8, T_l⟩ := T1.out.c9
  by_cases h0 : z = 0
  case neg =>
    have e1 : (z != 0) = true := by simp [h0]
    have HZ0 := Lib.hid (show t.priceV i = -1 by rw [HE.out, if_neg h0])
    clear h0
    go_wp2_with fail
    go_ret
    exact ⟨by rw [HZ0.out] <;> rfl, HD1.out⟩
  subst h0
  have HZ0 := Lib.hid (show t.priceV i = y by rw [HE.out, if_pos rfl])
  go_wp2_with fail
  go_ret
  exact ⟨by rw [HZ0.out] <;> rfl, HD1.out⟩
set_option maxHeartbeats 4000000 in
set_option maxRecDepth 100000 in
theorem near9_any (Aw Af Ao Ap As : Option Addr) (cw cf co cp cs : Nat) (t : Pt) (n : Int) (w : World) (hs : t.Small) (hT : PAt w Aw Af Ao Ap As t) :
    Calls Tryz.prog 24 #[.agg #[.int .i64 t.q.wells, .slice Aw t.q.nw cw, .slice Af t.q.nf cf, .slice Ao t.no co, .slice Ap t.np cp, .slice As t.ns cs, .int .i64 t.far, .int .i64 t.harm, .int .i64 t.many], .int .i64 n] w fun e w' => e = .returned (.tuple #[.int .i64 (t.nearOut n).1, .int .i64 (t.nearOut n).2]) ∧ Below w.heap.size w w' := by
  obtain ⟨bb, hbb⟩ : ∃ b, t.hasB n = b := ⟨_, rfl⟩
  obtain ⟨er, her⟩ : ∃ v, t.askErr bb = v := ⟨_, rfl⟩
  have HC1 := Lib.hid (fun w => hbb ▸ isSpotN9_any Aw Af Ao Ap As cw cf co cp cs t n w hs.ns : ∀ w : World, Calls Tryz.prog 40 #[.agg #[.int .i64 t.q.wells, .slice Aw t.q.nw cw, .slice Af t.q.nf cf, .slice Ao t.no co, .slice Ap t.np cp, .slice As t.ns cs, .int .i64 t.far, .int .i64 t.harm, .int .i64 t.many], .int .i64 n] w fun e w' => e = .returned (.bool bb) ∧ Below w.heap.size w w')
  have HE := Lib.hid (show t.nearOut n = if er = 0 then (if t.no = 0 then (0, 3) else (t.nearTo n.toNat t.no, 0)) else (0, er) by unfold Pt.nearOut; rw [hbb, her])
  have HER := Lib.hid her
  have HBB := Lib.hid hbb
  clear hbb her
  have HD0 := Lib.hid (Below.refl w.heap.size w)
  have HSM := Lib.hid hs
  have HT0 := Lib.hid hT
  clear hs hT
  go_enter Tryz.func24, Tryz.ntmps24
  by_cases he : er = 0
  case neg =>
    have g0 : (er != 0) = true := by simp [he]
    have HNZ := Lib.hid he
    rw [HE.out, if_neg he]
    clear he
    go_wp2_with fail
    have HCA := Lib.hid (fun (w' : World) (hb : Below (w.alloc (.cells #[.int .i64 t.q.wells, .slice Aw t.q.nw cw, .slice Af t.q.nf cf, .slice Ao t.no co, .slice Ap t.np cp, .slice As t.ns cs, .int .i64 t.far, .int .i64 t.harm, .int .i64 t.many] 29)).heap.size (w.alloc (.cells #[.int .i64 t.q.wells, .slice Aw t.q.nw cw, .slice Af t.q.nf cf, .slice Ao t.no co, .slice Ap t.np cp, .slice As t.ns cs, .int .i64 t.far, .int .i64 t.harm, .int .i64 t.many] 29)) w') => (HER.out ▸ ask9_any Aw Af Ao Ap As cw cf co cp cs t bb w' HSM.out ((HT0.out.mono (bAlloc (Below.refl _ _) (.cells #[.int .i64 t.q.wells, .slice Aw t.q.nw cw, .slice Af t.q.nf cf, .slice Ao t.no co, .slice Ap t.np cp, .slice As t.ns cs, .int .i64 t.far, .int .i64 t.harm, .int .i64 t.many] 29))).mono hb) : Calls Tryz.prog 89 #[.agg #[.int .i64 t.q.wells, .slice Aw t.q.nw cw, .slice Af t.q.nf cf, .slice Ao t.no co, .slice Ap t.np cp, .slice As t.ns cs, .int .i64 t.far, .int .i64 t.harm, .int .i64 t.many], .bool bb] w' fun e w'' => e = .returned (.int .i64 er) ∧ Below w'.heap.size w' w''))
    refine wp_region_quiet_below (by kernel_rfl) (by kernel_rfl) ?_
    repeat (go_big_quiet_step (((first | (go_at_call 40; with_reducible exact Calls.regrown_of (HC1.out _)) | (go_at_call 89; with_reducible exact Calls.regrown_of (HCA.out _ (below_regrown _ _ _)))))))
    refine wpQuiet_nil ?_
    intro w1 hw9
    have hb := below_of_regrown hw9
    clear hw9
    clear HCA
    have hB1 : Below w.heap.size w w1 := bTrans (bAlloc (Below.refl _ _) (.cells #[.int .i64 t.q.wells, .slice Aw t.q.nw cw, .slice Af t.q.nf cf, .slice Ao t.no co, .slice Ap t.np cp, .slice As t.ns cs, .int .i64 t.far, .int .i64 t.harm, .int .i64 t.many] 29)) hb
    have HD1 := Lib.hid (bTrans HD0.out hB1)
    have HT1 := Lib.hid (HT0.out.mono hB1)
    have T1 := Lib.hid (show TBox w1 w.heap.size 29 #[.int .i64 t.q.wells, .slice Aw t.q.nw cw, .slice Af t.q.nf cf, .slice Ao t.no co, .slice Ap t.np cp, .slice As t.ns cs, .int .i64 t.far, .int .i64 t.harm, .int .i64 t.many] from by have := ((TBox.new w #[.int .i64 t.q.wells, .slice Aw t.q.nw cw, .slice Af t.q.nf cf, .slice Ao t.no co, .slice Ap t.np cp, .slice As t.ns cs, .int .i64 t.far, .int .i64 t.harm, .int .i64 t.many] 29).mono (Below.refl _ _)).mono hb; simpa using this)
    clear hb hB1 HD0 HT0
    obtain ⟨T_0, T_1, T_2, T_3, T_4, T_5, T_6, T_7, T_8, T_l⟩ := T1.out.c9
    go_wp2_with fail
    go_ret2
    exact ⟨rfl, HD1.out⟩
  subst he
  obtain ⟨ok, rfl⟩ := Pt.askErr_zero HER.out
  have HOK := Lib.hid ok
  have hn := hasB_iff.1 HBB.out
  obtain ⟨i, rfl⟩ : ∃ i : Nat, n = (i : Int) := ⟨n.toNat, by omega⟩
  have HI := Lib.hid (show i < t.ns by omega)
  have hi1 : (i : Int) < (t.ns : Int) := by omega
  have hi0 : (0 : Int) ≤ (i : Int) := by omega
  rw [HE.out, if_pos rfl, Int.toNat_natCast]
  clear ok hn
  by_cases hz : t.no = 0
  case pos =>
    rw [if_pos hz]
    have hz2 : ((t.no : Int) == 0) = true := by simp [hz]
    have hz3 : (t.no == 0) = true := by simp [hz]
    clear hz
    go_wp2_with fail
    have HCA := Lib.hid (fun (w' : World) (hb : Below (w.alloc (.cells #[.int .i64 t.q.wells, .slice Aw t.q.nw cw, .slice Af t.q.nf cf, .slice Ao t.no co, .slice Ap t.np cp, .slice As t.ns cs, .int .i64 t.far, .int .i64 t.harm, .int .i64 t.many] 29)).heap.size (w.alloc (.cells #[.int .i64 t.q.wells, .slice Aw t.q.nw cw, .slice Af t.q.nf cf, .slice Ao t.no co, .slice Ap t.np cp, .slice As t.ns cs, .int .i64 t.far, .int .i64 t.harm, .int .i64 t.many] 29)) w') => (HER.out ▸ ask9_any Aw Af Ao Ap As cw cf co cp cs t true w' HSM.out ((HT0.out.mono (bAlloc (Below.refl _ _) (.cells #[.int .i64 t.q.wells, .slice Aw t.q.nw cw, .slice Af t.q.nf cf, .slice Ao t.no co, .slice Ap t.np cp, .slice As t.ns cs, .int .i64 t.far, .int .i64 t.harm, .int .i64 t.many] 29))).mono hb) : Calls Tryz.prog 89 #[.agg #[.int .i64 t.q.wells, .slice Aw t.q.nw cw, .slice Af t.q.nf cf, .slice Ao t.no co, .slice Ap t.np cp, .slice As t.ns cs, .int .i64 t.far, .int .i64 t.harm, .int .i64 t.many], .bool true] w' fun e w'' => e = .returned (.int .i64 0) ∧ Below w'.heap.size w' w''))
    refine wp_region_quiet_below (by kernel_rfl) (by kernel_rfl) ?_
    repeat (go_big_quiet_step (((first | (go_at_call 40; with_reducible exact Calls.regrown_of (HC1.out _)) | (go_at_call 89; with_reducible exact Calls.regrown_of (HCA.out _ (below_regrown _ _ _)))))))
    refine wpQuiet_nil ?_
    intro w1 hw9
    have hb := below_of_regrown hw9
    clear hw9
    clear HCA
    have hB1 : Below w.heap.size w w1 := bTrans (bAlloc (Below.refl _ _) (.cells #[.int .i64 t.q.wells, .slice Aw t.q.nw cw, .slice Af t.q.nf cf, .slice Ao t.no co, .slice Ap t.np cp, .slice As t.ns cs, .int .i64 t.far, .int .i64 t.harm, .int .i64 t.many] 29)) hb
    have HD1 := Lib.hid (bTrans HD0.out hB1)
    have HT1 := Lib.hid (HT0.out.mono hB1)
    have T1 := Lib.hid (show TBox w1 w.heap.size 29 #[.int .i64 t.q.wells, .slice Aw t.q.nw cw, .slice Af t.q.nf cf, .slice Ao t.no co, .slice Ap t.np cp, .slice As t.ns cs, .int .i64 t.far, .int .i64 t.harm, .int .i64 t.many] from by have := ((TBox.new w #[.int .i64 t.q.wells, .slice Aw t.q.nw cw, .slice Af t.q.nf cf, .slice Ao t.no co, .slice Ap t.np cp, .slice As t.ns cs, .int .i64 t.far, .int .i64 t.harm, .int .i64 t.many] 29).mono (Below.refl _ _)).mono hb; simpa using this)
    clear hb hB1 HD0 HT0
    obtain ⟨T_0, T_1, T_2, T_3, T_4, T_5, T_6, T_7, T_8, T_l⟩ := T1.out.c9
    go_wp2_with fail
    go_ret2
    exact ⟨rfl, HD1.out⟩
  rw [if_neg hz]
  have hz2 : ((t.no : Int) == 0) = false := by simp; exact hz
  have hz3 : (t.no == 0) = false := by simp; exact hz
  have hz4 : (0 : Int) < (t.no : Int) := by omega
  have hz5 : 0 < t.no := by omega
  have HZ := Lib.hid hz5
  clear hz
  go_wp2_with fail
  have HCA := Lib.hid (fun (w' : World) (hb : Below (w.alloc (.cells #[.int .i64 t.q.wells, .slice Aw t.q.nw cw, .slice Af t.q.nf cf, .slice Ao t.no co, .slice Ap t.np cp, .slice As t.ns cs, .int .i64 t.far, .int .i64 t.harm, .int .i64 t.many] 29)).heap.size (w.alloc (.cells #[.int .i64 t.q.wells, .slice Aw t.q.nw cw, .slice Af t.q.nf cf, .slice Ao t.no co, .slice Ap t.np cp, .slice As t.ns cs, .int .i64 t.far, .int .i64 t.harm, .int .i64 t.many] 29)) w') => (HER.out ▸ ask9_any Aw Af Ao Ap As cw cf co cp cs t true w' HSM.out ((HT0.out.mono (bAlloc (Below.refl _ _) (.cells #[.int .i64 t.q.wells, .slice Aw t.q.nw cw, .slice Af t.q.nf cf, .slice Ao t.no co, .slice Ap t.np cp, .slice As t.ns cs, .int .i64 t.far, .int .i64 t.harm, .int .i64 t.many] 29))).mono hb) : Calls Tryz.prog 89 #[.agg #[.int .i64 t.q.wells, .slice Aw t.q.nw cw, .slice Af t.q.nf cf, .slice Ao t.no co, .slice Ap t.np cp, .slice As t.ns cs, .int .i64 t.far, .int .i64 t.harm, .int .i64 t.many], .bool true] w' fun e w'' => e = .returned (.int .i64 0) ∧ Below w'.heap.size w' w''))
  refine wp_region_quiet_below (by kernel_rfl) (by kernel_rfl) ?_
  repeat (go_big_quiet_step (((first | (go_at_call 40; with_reducible exact Calls.regrown_of (HC1.out _)) | (go_at_call 89; with_reducible exact Calls.regrown_of (HCA.out _ (below_regrown _ _ _)))))))
  refine wpQuiet_nil ?_
  intro w1 hw9
  have hb := below_of_regrown hw9
  clear hw9
  clear HCA
  have hB1 : Below w.heap.size w w1 := bTrans (bAlloc (Below.refl _ _) (.cells #[.int .i64 t.q.wells, .slice Aw t.q.nw cw, .slice Af t.q.nf cf, .slice Ao t.no co, .slice Ap t.np cp, .slice As t.ns cs, .int .i64 t.far, .int .i64 t.harm, .int .i64 t.many] 29)) hb
  have HD1 := Lib.hid (bTrans HD0.out hB1)
  have HT1 := Lib.hid (HT0.out.mono hB1)
  have T1 := Lib.hid (show TBox w1 w.heap.size 29 #[.int .i64 t.q.wells, .slice Aw t.q.nw cw, .slice Af t.q.nf cf, .slice Ao t.no co, .slice Ap t.np cp, .slice As t.ns cs, .int .i64 t.far, .int .i64 t.harm, .int .i64 t.many] from by have := ((TBox.new w #[.int .i64 t.q.wells, .slice Aw t.q.nw cw, .slice Af t.q.nf cf, .slice Ao t.no co, .slice Ap t.np cp, .slice As t.ns cs, .int .i64 t.far, .int .i64 t.harm, .int .i64 t.many] 29).mono (Below.refl _ _)).mono hb; simpa using this)
  clear hb hB1 HD0 HT0
  obtain ⟨T_0, T_1, T_2, T_3, T_4, T_5, T_6, T_7, T_8, T_l⟩ := T1.out.c9
  go_wp2_with fail
  obtain ⟨b, o, Ar, Af2, Ax, cr, cf2, cx, hA, hb7, hsh, hrow, s0, s1, s2, s3, s4, s5, s6⟩ := HT1.out.spots.get HI.out
  obtain ⟨x, hxx⟩ : ∃ x, t.spot i = x := ⟨_, rfl⟩
  rw [hxx] at s0 s1 s2 s3 s4 s5 s6 hsh hrow
  have HX := Lib.hid hxx
  have HSH1 := Lib.hid hsh
  have HRW1 := Lib.hid hrow
  subst hA
  clear hsh hrow hxx
  obtain ⟨bo, oo, hO, hbo, co0⟩ := HT1.out.old.get HZ.out
  have hxo := HOK.out.spot i HI.out
  rw [HX.out] at hxo
  obtain ⟨u0, hu0⟩ : ∃ u, t.old 0 = u := ⟨_, rfl⟩
  obtain ⟨d0, hd0⟩ : ∃ d, dst x.at_ u0 = d := ⟨_, rfl⟩
  have hol := HOK.out.old 0 HZ.out
  rw [hu0, Nat.add_zero] at co0
  rw [hu0] at hol
  have HXA := Lib.hid (And.intro hxo.a0 hxo.a1)
  have HD00 := Lib.hid (show dst (t.old 0) (t.spot i).at_ = d0 by rw [HX.out, dst_comm, hu0]; exact hd0)
  have HDI := Lib.hid (fun w' => hd0 ▸ dist9_any x.at_ u0 w' HXA.out hol : ∀ w' : World, Calls Tryz.prog 58 #[.int .i64 x.at_, .int .i64 u0] w' fun e w'' => e = .returned (.int .i64 d0) ∧ Below w'.heap.size w' w'')
  have HD9 := Lib.hid (show 0 ≤ d0 ∧ d0 ≤ 99 by rw [← hd0]; exact ⟨dst_nonneg _ _, dst_le HXA.out hol⟩)
  subst hO
  clear hxo hol hu0 hd0 hz2 hz3
  go_wp2_with fail
  refine wp_region_quiet_below (by kernel_rfl) (by kernel_rfl) ?_
  repeat (go_big_quiet_step ((go_at_call 58; exact Calls.regrown_of (HDI.out _))))
  refine wpQuiet_nil ?_
  intro w2 hw9
  have hb := below_of_regrown hw9
  clear hw9
  clear s0 s1 s2 s3 s4 s5 s6 hb7 co0 hbo HDI HSH1 HRW1
  have hB2 : Below w1.heap.size w1 w2 := bTrans (Below.refl _ _) hb
  have HD2 := Lib.hid (bTrans HD1.out hB2)
  have HT2 := Lib.hid (HT1.out.mono hB2)
  have T2 := Lib.hid (T1.out.mono hB2)
  clear hb hB2 HD1 HT1 T1 T_0 T_1 T_2 T_3 T_4 T_5 T_6 T_7 T_8 T_l
  obtain ⟨T_0, T_1, T_2, T_3, T_4, T_5, T_6, T_7, T_8, T_l⟩ := T2.out.c9
  go_wp2_with fail
  obtain ⟨f, hf⟩ : ∃ f : Nat → Int, f = fun k => if k = 0 then d0 else t.nearTo i k := ⟨_, rfl⟩
  have HF := Lib.hid (show ∀ k, f k = if k = 0 then d0 else t.nearTo i k from fun k => by rw [hf])
  have hf0 : d0 = f 0 := by rw [hf]; rfl
  have HF0 := Lib.hid hf0
  clear hf hf0
  clear T_0 T_1 T_2 T_3 T_4 T_5 T_6 T_7 T_8 T_l
  go_loopw [7, 8] (fun s7 s8 wr => ∃ k : Nat, k ≤ t.no ∧ s7 = .int .i64 (f k) ∧ s8 = .int .i64 (k : Int) ∧ Below w2.heap.size w2 wr) (fun _ s8 _ => t.no - (intOf s8).toNat)
  case atStart => exact ⟨0, Nat.zero_le _, by rw [← HF0.out], rfl, Below.refl _ _⟩
  case round =>
    obtain ⟨k, hk_k, rfl, rfl, hb⟩ := hrel
    have HBk := Lib.hid hb
    have hB3 : Below w2.heap.size w2 wr := bTrans (Below.refl _ _) hb
    have HD3 := Lib.hid (bTrans HD2.out hB3)
    have HT3 := Lib.hid (HT2.out.mono hB3)
    have HU_k3 := Lib.hid ((show Upto w2 wr from HBk.out))
    have T3 := Lib.hid (T2.out.mono hB3)
    clear hb hB3
    obtain ⟨T_0, T_1, T_2, T_3, T_4, T_5, T_6, T_7, T_8, T_l⟩ := T3.out.c9
    by_cases hlt_k : k < t.no
    case pos =>
      have h1_k : (k : Int) < (t.no : Int) := by omega
      have h0_k : (0 : Int) ≤ (k : Int) := by omega
      have hb_k : k < 100 := by have := HOK.out.no; have := HOK.out.q.w1; omega
      have HK := Lib.hid hlt_k
      obtain ⟨m, hm⟩ : ∃ m, f k = m := ⟨_, rfl⟩
      rw [hm]
      have HM := Lib.hid hm
      clear hm
      obtain ⟨bs, os_, Ar, Af2, Ax, cr, cf2, cx, hA, hb7, _, _, s0, s1, s2, s3, s4, s5, s6⟩ := HT3.out.spots.get HI.out
      obtain ⟨bq, oq, hO, hbo, co0⟩ := HT3.out.old.get hlt_k
      rw [HX.out] at s0 s1 s2 s3 s4 s5 s6
      simp only [Option.some.injEq, Addr.mk.injEq, and_true] at hA hO
      obtain ⟨rfl, rfl⟩ := hA
      obtain ⟨rfl, rfl⟩ := hO
      obtain ⟨u, hu⟩ : ∃ u, t.old k = u := ⟨_, rfl⟩
      obtain ⟨d, hd⟩ : ∃ d, dst x.at_ u = d := ⟨_, rfl⟩
      have hol := HOK.out.old k hlt_k
      rw [hu] at co0 hol
      have HDI := Lib.hid (fun w' => hd ▸ dist9_any x.at_ u w' HXA.out hol : ∀ w' : World, Calls Tryz.prog 58 #[.int .i64 x.at_, .int .i64 u] w' fun e w'' => e = .returned (.int .i64 d) ∧ Below w'.heap.size w' w'')
      obtain ⟨m2, hm2⟩ : ∃ m2, (if d < m then d else m) = m2 := ⟨_, rfl⟩
      have HR := Lib.hid (show f (k + 1) = m2 by
        rw [HF.out, if_neg (by omega)]
        have h1 := HM.out
        rw [HF.out] at h1
        unfold Pt.nearTo
        rw [hu, HX.out, dst_comm, hd, ← hm2]
        have h9 := nearTo_bd HOK.out HI.out k (by omega)
        have h8 := HD9.out
        by_cases e : k = 0
        · subst e
          rw [if_pos rfl] at h1
          have h2 := HD00.out
          rw [hu, HX.out, dst_comm, hd] at h2
          show min (99 : Int) d = _
          split <;> omega
        · rw [if_neg e] at h1
          split <;> omega)
      clear hol hu hd
      go_wp2_with fail
      refine wp_region_quiet_below (by kernel_rfl) (by kernel_rfl) ?_
      repeat (go_big_quiet_step ((go_at_call 58; exact Calls.regrown_of (HDI.out _))))
      refine wpQuiet_nil ?_
      intro w4 hw9
      have hb := below_of_regrown hw9
      clear hw9
      clear s0 s1 s2 s3 s4 s5 s6 hb7 co0 hbo HDI
      have hB4 : Below wr.heap.size wr w4 := bTrans (Below.refl _ _) hb
      have HD4 := Lib.hid (bTrans HD3.out hB4)
      have HT4 := Lib.hid (HT3.out.mono hB4)
      have HU_k4 := Lib.hid (HU_k3.out.mono hB4)
      have T4 := Lib.hid (T3.out.mono hB4)
      clear hb hB4 HD3 HT3 HU_k3 T3 T_0 T_1 T_2 T_3 T_4 T_5 T_6 T_7 T_8 T_l
      obtain ⟨T_0, T_1, T_2, T_3, T_4, T_5, T_6, T_7, T_8, T_l⟩ := T4.out.c9
      go_wp2_with fail
      go_roundw
      case rel =>
        first
        | exact ⟨k + 1, by omega, by rw [HR.out], by go_num, HU_k4.out⟩
        | ((repeat apply Exists.intro)
           refine ⟨⟨k + 1, by omega, by rw [HR.out], ?_, HU_k4.out⟩, rfl⟩
           go_num)
      case measure => simp [intOf]; omega
    have he_k : k = t.no := by omega
    have HR := Lib.hid (show t.nearTo i t.no = f k by rw [HF.out, if_neg (by have := HZ.out; omega), he_k])
    obtain ⟨m, hm⟩ : ∃ m, f k = m := ⟨_, rfl⟩
    rw [hm] at HR ⊢
    have hk9 : ¬ (k : Int) < (t.no : Int) := by omega
    have hk8 : ¬ k < t.no := by omega
    clear he_k hm
    go_wp2_with fail
    go_ret2
    exact ⟨by rw [HR.out]; rfl, HD3.out⟩
set_option maxHeartbeats 4000000 in
set_option maxRecDepth 100000 in
theorem price9_any (Aw Af Ao Ap As : Option Addr) (cw cf co cp cs : Nat) (t : Pt) (n : Int) (w : World) (hs : t.Small) (hT : PAt w Aw Af Ao Ap As t) :
    Calls Tryz.prog 26 #[.agg #[.int .i64 t.q.wells, .slice Aw t.q.nw cw, .slice Af t.q.nf cf, .slice Ao t.no co, .slice Ap t.np cp, .slice As t.ns cs, .int .i64 t.far, .int .i64 t.harm, .int .i64 t.many], .int .i64 n] w fun e w' => e = .returned (.tuple #[.int .i64 (t.priceOut n).1, .int .i64 (t.priceOut n).2]) ∧ Below w.heap.size w w' := by
  obtain ⟨bb, hbb⟩ : ∃ b, t.hasB n = b := ⟨_, rfl⟩
  obtain ⟨er, her⟩ : ∃ v, t.askErr bb = v := ⟨_, rfl⟩
  have HC1 := Lib.hid (fun w => hbb ▸ isSpotN9_any Aw Af Ao Ap As cw cf co cp cs t n w hs.ns : ∀ w : World, Calls Tryz.prog 40 #[.agg #[.int .i64 t.q.wells, .slice Aw t.q.nw cw, .slice Af t.q.nf cf, .slice Ao t.no co, .slice Ap t.np cp, .slice As t.ns cs, .int .i64 t.far, .int .i64 t.harm, .int .i64 t.many], .int .i64 n] w fun e w' => e = .returned (.bool bb) ∧ Below w.heap.size w w')
  have HE := Lib.hid (show t.priceOut n = if er = 0 then t.cheap n.toNat else (0, er) by unfold Pt.priceOut; rw [hbb, her])
  have HER := Lib.hid her
  have HBB := Lib.hid hbb
  clear hbb her
  have HD0 := Lib.hid (Below.refl w.heap.size w)
  have HSM := Lib.hid hs
  have HT0 := Lib.hid hT
  clear hs hT
  go_enter Tryz.func26, Tryz.ntmps26
  by_cases he : er = 0
  case neg =>
    have g0 : (er != 0) = true := by simp [he]
    have HNZ := Lib.hid he
    rw [HE.out, if_neg he]
    clear he
    go_wp2_with fail
    have HCA := Lib.hid (fun (w' : World) (hb : Below (w.alloc (.cells #[.int .i64 t.q.wells, .slice Aw t.q.nw cw, .slice Af t.q.nf cf, .slice Ao t.no co, .slice Ap t.np cp, .slice As t.ns cs, .int .i64 t.far, .int .i64 t.harm, .int .i64 t.many] 29)).heap.size (w.alloc (.cells #[.int .i64 t.q.wells, .slice Aw t.q.nw cw, .slice Af t.q.nf cf, .slice Ao t.no co, .slice Ap t.np cp, .slice As t.ns cs, .int .i64 t.far, .int .i64 t.harm, .int .i64 t.many] 29)) w') => (HER.out ▸ ask9_any Aw Af Ao Ap As cw cf co cp cs t bb w' HSM.out ((HT0.out.mono (bAlloc (Below.refl _ _) (.cells #[.int .i64 t.q.wells, .slice Aw t.q.nw cw, .slice Af t.q.nf cf, .slice Ao t.no co, .slice Ap t.np cp, .slice As t.ns cs, .int .i64 t.far, .int .i64 t.harm, .int .i64 t.many] 29))).mono hb) : Calls Tryz.prog 89 #[.agg #[.int .i64 t.q.wells, .slice Aw t.q.nw cw, .slice Af t.q.nf cf, .slice Ao t.no co, .slice Ap t.np cp, .slice As t.ns cs, .int .i64 t.far, .int .i64 t.harm, .int .i64 t.many], .bool bb] w' fun e w'' => e = .returned (.int .i64 er) ∧ Below w'.heap.size w' w''))
    refine wp_region_quiet_below (by kernel_rfl) (by kernel_rfl) ?_
    repeat (go_big_quiet_step (((first | (go_at_call 40; with_reducible exact Calls.regrown_of (HC1.out _)) | (go_at_call 89; with_reducible exact Calls.regrown_of (HCA.out _ (below_regrown _ _ _)))))))
    refine wpQuiet_nil ?_
    intro w1 hw9
    have hb := below_of_regrown hw9
    clear hw9
    clear HCA
    have hB1 : Below w.heap.size w w1 := bTrans (bAlloc (Below.refl _ _) (.cells #[.int .i64 t.q.wells, .slice Aw t.q.nw cw, .slice Af t.q.nf cf, .slice Ao t.no co, .slice Ap t.np cp, .slice As t.ns cs, .int .i64 t.far, .int .i64 t.harm, .int .i64 t.many] 29)) hb
    have HD1 := Lib.hid (bTrans HD0.out hB1)
    have HT1 := Lib.hid (HT0.out.mono hB1)
    have T1 := Lib.hid (show TBox w1 w.heap.size 29 #[.int .i64 t.q.wells, .slice Aw t.q.nw cw, .slice Af t.q.nf cf, .slice Ao t.no co, .slice Ap t.np cp, .slice As t.ns cs, .int .i64 t.far, .int .i64 t.harm, .int .i64 t.many] from by have := ((TBox.new w #[.int .i64 t.q.wells, .slice Aw t.q.nw cw, .slice Af t.q.nf cf, .slice Ao t.no co, .slice Ap t.np cp, .slice As t.ns cs, .int .i64 t.far, .int .i64 t.harm, .int .i64 t.many] 29).mono (Below.refl _ _)).mono hb; simpa using this)
    clear hb hB1 HD0 HT0
    obtain ⟨T_0, T_1, T_2, T_3, T_4, T_5, T_6, T_7, T_8, T_l⟩ := T1.out.c9
    go_wp2_with fail
    go_ret2
    exact ⟨rfl, HD1.out⟩
  subst he
  obtain ⟨ok, rfl⟩ := Pt.askErr_zero HER.out
  have HOK := Lib.hid ok
  have hn := hasB_iff.1 HBB.out
  obtain ⟨i, rfl⟩ : ∃ i : Nat, n = (i : Int) := ⟨n.toNat, by omega⟩
  have HI := Lib.hid (show i < t.ns by omega)
  have hi1 : (i : Int) < (t.ns : Int) := by omega
  have hi0 : (0 : Int) ≤ (i : Int) := by omega
  rw [HE.out, if_pos rfl, Int.toNat_natCast]
  clear ok hn
  go_wp2_with fail
  have HCA := Lib.hid (fun (w' : World) (hb : Below (w.alloc (.cells #[.int .i64 t.q.wells, .slice Aw t.q.nw cw, .slice Af t.q.nf cf, .slice Ao t.no co, .slice Ap t.np cp, .slice As t.ns cs, .int .i64 t.far, .int .i64 t.harm, .int .i64 t.many] 29)).heap.size (w.alloc (.cells #[.int .i64 t.q.wells, .slice Aw t.q.nw cw, .slice Af t.q.nf cf, .slice Ao t.no co, .slice Ap t.np cp, .slice As t.ns cs, .int .i64 t.far, .int .i64 t.harm, .int .i64 t.many] 29)) w') => (HER.out ▸ ask9_any Aw Af Ao Ap As cw cf co cp cs t true w' HSM.out ((HT0.out.mono (bAlloc (Below.refl _ _) (.cells #[.int .i64 t.q.wells, .slice Aw t.q.nw cw, .slice Af t.q.nf cf, .slice Ao t.no co, .slice Ap t.np cp, .slice As t.ns cs, .int .i64 t.far, .int .i64 t.harm, .int .i64 t.many] 29))).mono hb) : Calls Tryz.prog 89 #[.agg #[.int .i64 t.q.wells, .slice Aw t.q.nw cw, .slice Af t.q.nf cf, .slice Ao t.no co, .slice Ap t.np cp, .slice As t.ns cs, .int .i64 t.far, .int .i64 t.harm, .int .i64 t.many], .bool true] w' fun e w'' => e = .returned (.int .i64 0) ∧ Below w'.heap.size w' w''))
  refine wp_region_quiet_below (by kernel_rfl) (by kernel_rfl) ?_
  repeat (go_big_quiet_step (((first | (go_at_call 40; with_reducible exact Calls.regrown_of (HC1.out _)) | (go_at_call 89; with_reducible exact Calls.regrown_of (HCA.out _ (below_regrown _ _ _)))))))
  refine wpQuiet_nil ?_
  intro w1 hw9
  have hb := below_of_regrown hw9
  clear hw9
  clear HCA
  have hB1 : Below w.heap.size w w1 := bTrans (bAlloc (Below.refl _ _) (.cells #[.int .i64 t.q.wells, .slice Aw t.q.nw cw, .slice Af t.q.nf cf, .slice Ao t.no co, .slice Ap t.np cp, .slice As t.ns cs, .int .i64 t.far, .int .i64 t.harm, .int .i64 t.many] 29)) hb
  have HD1 := Lib.hid (bTrans HD0.out hB1)
  have HT1 := Lib.hid (HT0.out.mono hB1)
  have T1 := Lib.hid (show TBox w1 w.heap.size 29 #[.int .i64 t.q.wells, .slice Aw t.q.nw cw, .slice Af t.q.nf cf, .slice Ao t.no co, .slice Ap t.np cp, .slice As t.ns cs, .int .i64 t.far, .int .i64 t.harm, .int .i64 t.many] from by have := ((TBox.new w #[.int .i64 t.q.wells, .slice Aw t.q.nw cw, .slice Af t.q.nf cf, .slice Ao t.no co, .slice Ap t.np cp, .slice As t.ns cs, .int .i64 t.far, .int .i64 t.harm, .int .i64 t.many] 29).mono (Below.refl _ _)).mono hb; simpa using this)
  clear hb hB1 HD0 HT0
  obtain ⟨T_0, T_1, T_2, T_3, T_4, T_5, T_6, T_7, T_8, T_l⟩ := T1.out.c9
  go_wp2_with fail
  refine (priceOf9_any Aw Af Ao Ap As cw cf co cp cs t i _ HSM.out HT1.out HI.out).mono ?_
  rintro e w2 ⟨rfl, hb⟩
  have hB2 : Below w1.heap.size w1 w2 := bTrans (Below.refl _ _) hb
  have HD2 := Lib.hid (bTrans HD1.out hB2)
  have HT2 := Lib.hid (HT1.out.mono hB2)
  have T2 := Lib.hid (T1.out.mono hB2)
  clear hb hB2 HD1 HT1 T1 T_0 T_1 T_2 T_3 T_4 T_5 T_6 T_7 T_8 T_l
  obtain ⟨T_0, T_1, T_2, T_3, T_4, T_5, T_6, T_7, T_8, T_l⟩ := T2.out.c9
  by_cases hz : (t.cheap i).2 = 0
  case neg =>
    have HC := Lib.hid (cheap_zero HOK.out HI.out hz)
    have HP := Lib.hid (show t.priceV i = -1 from if_neg hz)
    rw [HP.out]
    clear hz
    go_wp2_with fail
    go_ret2
    exact ⟨by rw [HC.out] <;> rfl, HD2.out⟩
  have HP := Lib.hid (show t.priceV i = (t.cheap i).1 from if_pos hz)
  have hbd := cheap_bd HOK.out HI.out
  obtain ⟨y, hy⟩ : ∃ y, (t.cheap i).1 = y := ⟨_, rfl⟩
  rw [hy] at hbd
  rw [HP.out, hy]
  have HC := Lib.hid (show t.cheap i = (y, 0) from Prod.ext hy hz)
  have hy0 : ¬ y < 0 := by omega
  clear hz hy hbd
  go_wp2_with fail
  go_ret2
  exact ⟨by rw [HC.out] <;> rfl, HD2.out⟩
end Go.Proofs.YtjpfdhhiofjpbaaGreatDoor

namespace Go.Proofs.YtjpfdhhiofjpbaaGreatDoor
open Go.RowKit Go.Sort
set_option maxHeartbeats 16000000 in
set_option maxRecDepth 100000 in
theorem placesNear_any (Aw Af Ao Ap As : Option Addr) (cw cf co cp cs : Nat) (t : Pt) (n : Int) (w : World) (hs : t.Fits) (hT : PAt w Aw Af Ao Ap As t) (hB : TabAt w) (hN : NoneAt w) :
    Calls Tryz.prog 3 #[.agg #[.int .i64 t.q.wells, .slice Aw t.q.nw cw, .slice Af t.q.nf cf, .slice Ao t.no co, .slice Ap t.np cp, .slice As t.ns cs, .int .i64 t.far, .int .i64 t.harm, .int .i64 t.many], .int .i64 n] w fun e w' => e = .returned (.bool true) ∧ Below w.heap.size w w' := by
  have HD0 := Lib.hid (Below.refl w.heap.size w)
  have HFI := Lib.hid hs
  have HT0 := Lib.hid hT
  have HTB0 := Lib.hid hB
  have HNA0 := Lib.hid hN
  clear hs hT hB hN
  go_enter Tryz.func3, Tryz.ntmps3
  have HSM := Lib.hid HFI.out.small
  go_wp2_with fail
  refine (far9_any Aw Af Ao Ap As cw cf co cp cs t _ HSM.out (HT0.out.mono (bAlloc (Below.refl _ _) (.cells #[.int .i64 t.q.wells, .slice Aw t.q.nw cw, .slice Af t.q.nf cf, .slice Ao t.no co, .slice Ap t.np cp, .slice As t.ns cs, .int .i64 t.far, .int .i64 t.harm, .int .i64 t.many] 29)))).mono ?_
  rintro e w1 ⟨⟨bf, rfl⟩, hb⟩
  have hB1 : Below w.heap.size w w1 := bTrans (bAlloc (Below.refl _ _) (.cells #[.int .i64 t.q.wells, .slice Aw t.q.nw cw, .slice Af t.q.nf cf, .slice Ao t.no co, .slice Ap t.np cp, .slice As t.ns cs, .int .i64 t.far, .int .i64 t.harm, .int .i64 t.many] 29)) hb
  have HD1 := Lib.hid (bTrans HD0.out hB1)
  have HT1 := Lib.hid (HT0.out.mono hB1)
  have HTB1 := Lib.hid (HTB0.out.mono hB1)
  have HNA1 := Lib.hid (HNA0.out.mono hB1)
  have T1 := Lib.hid (show TBox w1 w.heap.size 29 #[.int .i64 t.q.wells, .slice Aw t.q.nw cw, .slice Af t.q.nf cf, .slice Ao t.no co, .slice Ap t.np cp, .slice As t.ns cs, .int .i64 t.far, .int .i64 t.harm, .int .i64 t.many] from by have := ((TBox.new w #[.int .i64 t.q.wells, .slice Aw t.q.nw cw, .slice Af t.q.nf cf, .slice Ao t.no co, .slice Ap t.np cp, .slice As t.ns cs, .int .i64 t.far, .int .i64 t.harm, .int .i64 t.many] 29).mono (Below.refl _ _)).mono hb; simpa using this)
  clear hb hB1 HD0 HT0 HTB0 HNA0
  obtain ⟨T_0, T_1, T_2, T_3, T_4, T_5, T_6, T_7, T_8, T_l⟩ := T1.out.c9
  cases bf
  case true =>
    go_wp2_with fail
    refine (works9_any _ HTB1.out HNA1.out).mono ?_
    rintro e w2 ⟨rfl, hb⟩
    have hB2 : Below w1.heap.size w1 w2 := bTrans (Below.refl _ _) hb
    have HD2 := Lib.hid (bTrans HD1.out hB2)
    have HT2 := Lib.hid (HT1.out.mono hB2)
    have HTB2 := Lib.hid (HTB1.out.mono hB2)
    have HNA2 := Lib.hid (HNA1.out.mono hB2)
    have T2 := Lib.hid (T1.out.mono hB2)
    clear hb hB2 HD1 HT1 HTB1 HNA1 T1 T_0 T_1 T_2 T_3 T_4 T_5 T_6 T_7 T_8 T_l
    obtain ⟨T_0, T_1, T_2, T_3, T_4, T_5, T_6, T_7, T_8, T_l⟩ := T2.out.c9
    go_wp2_with fail
    go_ret
    exact ⟨rfl, HD2.out⟩
  go_wp2_with fail
  refine (copy9_any Aw Af Ao Ap As cw cf co cp cs t _ HFI.out HT1.out).mono ?_
  rintro e w2 ⟨ho, hb⟩
  obtain ⟨_, _, _, _, _, rfl, hc⟩ := ho
  obtain ⟨Bw, dw, Bf, df, Bo, do_, Bp, dp, Bs, ds, rfl, rfl, rfl, rfl, rfl, hU⟩ := hc.pat
  have hB2 : Below w1.heap.size w1 w2 := bTrans (Below.refl _ _) hb
  have HD2 := Lib.hid (bTrans HD1.out hB2)
  have HT2 := Lib.hid (HT1.out.mono hB2)
  have HTB2 := Lib.hid (HTB1.out.mono hB2)
  have HNA2 := Lib.hid (HNA1.out.mono hB2)
  have HU2 := Lib.hid (hU)
  have T2 := Lib.hid (T1.out.mono hB2)
  clear hb hB2 HD1 HT1 HTB1 HNA1 T1 T_0 T_1 T_2 T_3 T_4 T_5 T_6 T_7 T_8 T_l
  obtain ⟨T_0, T_1, T_2, T_3, T_4, T_5, T_6, T_7, T_8, T_l⟩ := T2.out.c9
  clear hc hU
  go_wp2_with fail
  obtain ⟨x1, hx1⟩ : ∃ y, (t.nearOut n).1 = y := ⟨_, rfl⟩
  obtain ⟨x2, hx2⟩ : ∃ y, (t.nearOut n).2 = y := ⟨_, rfl⟩
  obtain ⟨y1, hy1⟩ : ∃ y, (t.priceOut n).1 = y := ⟨_, rfl⟩
  obtain ⟨y2, hy2⟩ : ∃ y, (t.priceOut n).2 = y := ⟨_, rfl⟩
  obtain ⟨z, hz⟩ : ∃ y, t.err = y := ⟨_, rfl⟩
  have HX := Lib.hid (And.intro hx1 hx2)
  have HY := Lib.hid (And.intro hy1 hy2)
  have HZZ := Lib.hid hz
  clear hx1 hx2 hy1 hy2 hz
  have HC1 := Lib.hid (fun (w' : World) (hb : Below (w2.alloc (.cells #[.int .i64 t.q.wells, .slice Bw t.q.nw dw, .slice Bf t.q.nf df, .slice Bo t.no do_, .slice Bp t.np dp, .slice Bs t.ns ds, .int .i64 t.far, .int .i64 t.harm, .int .i64 t.many] 29)).heap.size (w2.alloc (.cells #[.int .i64 t.q.wells, .slice Bw t.q.nw dw, .slice Bf t.q.nf df, .slice Bo t.no do_, .slice Bp t.np dp, .slice Bs t.ns ds, .int .i64 t.far, .int .i64 t.harm, .int .i64 t.many] 29)) w') => (HZZ.out ▸ checkP_any Bw Bf Bo Bp Bs dw df do_ dp ds t w' HSM.out ((HU2.out.mono (bAlloc (Below.refl _ _) (.cells #[.int .i64 t.q.wells, .slice Bw t.q.nw dw, .slice Bf t.q.nf df, .slice Bo t.no do_, .slice Bp t.np dp, .slice Bs t.ns ds, .int .i64 t.far, .int .i64 t.harm, .int .i64 t.many] 29))).mono hb) : Calls Tryz.prog 21 #[.agg #[.int .i64 t.q.wells, .slice Bw t.q.nw dw, .slice Bf t.q.nf df, .slice Bo t.no do_, .slice Bp t.np dp, .slice Bs t.ns ds, .int .i64 t.far, .int .i64 t.harm, .int .i64 t.many]] w' fun e w'' => e = .returned (.int .i64 z) ∧ Below w'.heap.size w' w''))
  have HC2 := Lib.hid (fun (w' : World) (hb : Below (w2.alloc (.cells #[.int .i64 t.q.wells, .slice Bw t.q.nw dw, .slice Bf t.q.nf df, .slice Bo t.no do_, .slice Bp t.np dp, .slice Bs t.ns ds, .int .i64 t.far, .int .i64 t.harm, .int .i64 t.many] 29)).heap.size (w2.alloc (.cells #[.int .i64 t.q.wells, .slice Bw t.q.nw dw, .slice Bf t.q.nf df, .slice Bo t.no do_, .slice Bp t.np dp, .slice Bs t.ns ds, .int .i64 t.far, .int .i64 t.harm, .int .i64 t.many] 29)) w') => (HZZ.out ▸ check9_any Aw Af Ao Ap As cw cf co cp cs t w' HSM.out ((HT2.out.mono (bAlloc (Below.refl _ _) (.cells #[.int .i64 t.q.wells, .slice Bw t.q.nw dw, .slice Bf t.q.nf df, .slice Bo t.no do_, .slice Bp t.np dp, .slice Bs t.ns ds, .int .i64 t.far, .int .i64 t.harm, .int .i64 t.many] 29))).mono hb) : Calls Tryz.prog 22 #[.agg #[.int .i64 t.q.wells, .slice Aw t.q.nw cw, .slice Af t.q.nf cf, .slice Ao t.no co, .slice Ap t.np cp, .slice As t.ns cs, .int .i64 t.far, .int .i64 t.harm, .int .i64 t.many]] w' fun e w'' => e = .returned (.int .i64 z) ∧ Below w'.heap.size w' w''))
  refine wp_region_quiet_below (by kernel_rfl) (by kernel_rfl) ?_
  repeat (go_big_quiet_step (((first | (go_at_call 21; with_reducible exact Calls.regrown_of (HC1.out _ (below_regrown _ _ _))) | (go_at_call 22; with_reducible exact Calls.regrown_of (HC2.out _ (below_regrown _ _ _)))))))
  refine wpQuiet_nil ?_
  intro w3 hw9
  have hb := below_of_regrown hw9
  clear hw9
  clear HC1 HC2
  have hB3 : Below w2.heap.size w2 w3 := bTrans (bAlloc (Below.refl _ _) (.cells #[.int .i64 t.q.wells, .slice Bw t.q.nw dw, .slice Bf t.q.nf df, .slice Bo t.no do_, .slice Bp t.np dp, .slice Bs t.ns ds, .int .i64 t.far, .int .i64 t.harm, .int .i64 t.many] 29)) hb
  have HD3 := Lib.hid (bTrans HD2.out hB3)
  have HT3 := Lib.hid (HT2.out.mono hB3)
  have HTB3 := Lib.hid (HTB2.out.mono hB3)
  have HNA3 := Lib.hid (HNA2.out.mono hB3)
  have HU3 := Lib.hid (HU2.out.mono hB3)
  have T3 := Lib.hid (T2.out.mono hB3)
  have U3 := Lib.hid (show TBox w3 w2.heap.size 29 #[.int .i64 t.q.wells, .slice Bw t.q.nw dw, .slice Bf t.q.nf df, .slice Bo t.no do_, .slice Bp t.np dp, .slice Bs t.ns ds, .int .i64 t.far, .int .i64 t.harm, .int .i64 t.many] from by have := ((TBox.new w2 #[.int .i64 t.q.wells, .slice Bw t.q.nw dw, .slice Bf t.q.nf df, .slice Bo t.no do_, .slice Bp t.np dp, .slice Bs t.ns ds, .int .i64 t.far, .int .i64 t.harm, .int .i64 t.many] 29).mono (Below.refl _ _)).mono hb; simpa using this)
  clear hb hB3 HD2 HT2 HTB2 HNA2 HU2 T2 T_0 T_1 T_2 T_3 T_4 T_5 T_6 T_7 T_8 T_l
  obtain ⟨T_0, T_1, T_2, T_3, T_4, T_5, T_6, T_7, T_8, T_l⟩ := T3.out.c9
  obtain ⟨U_0, U_1, U_2, U_3, U_4, U_5, U_6, U_7, U_8, U_l⟩ := U3.out.c9
  go_wp2_with fail
  refine ((by have := nearP_any Bw Bf Bo Bp Bs dw df do_ dp ds t n w3 HSM.out HU3.out HTB3.out; rw [HX.out.1, HX.out.2] at this; exact this : Calls Tryz.prog 23 #[.agg #[.int .i64 t.q.wells, .slice Bw t.q.nw dw, .slice Bf t.q.nf df, .slice Bo t.no do_, .slice Bp t.np dp, .slice Bs t.ns ds, .int .i64 t.far, .int .i64 t.harm, .int .i64 t.many], .int .i64 n] w3 fun e w' => e = .returned (.tuple #[.int .i64 x1, .int .i64 x2]) ∧ Below w3.heap.size w3 w')).mono ?_
  rintro e w4 ⟨rfl, hb⟩
  have hB4 : Below w3.heap.size w3 w4 := bTrans (Below.refl _ _) hb
  have HD4 := Lib.hid (bTrans HD3.out hB4)
  have HT4 := Lib.hid (HT3.out.mono hB4)
  have HTB4 := Lib.hid (HTB3.out.mono hB4)
  have HNA4 := Lib.hid (HNA3.out.mono hB4)
  have HU4 := Lib.hid (HU3.out.mono hB4)
  have T4 := Lib.hid (T3.out.mono hB4)
  have U4 := Lib.hid (U3.out.mono hB4)
  clear hb hB4 HD3 HT3 HTB3 HNA3 HU3 T3 T_0 T_1 T_2 T_3 T_4 T_5 T_6 T_7 T_8 T_l U3 U_0 U_1 U_2 U_3 U_4 U_5 U_6 U_7 U_8 U_l
  obtain ⟨T_0, T_1, T_2, T_3, T_4, T_5, T_6, T_7, T_8, T_l⟩ := T4.out.c9
  obtain ⟨U_0, U_1, U_2, U_3, U_4, U_5, U_6, U_7, U_8, U_l⟩ := U4.out.c9
  go_wp2_with fail
  refine ((by have := near9_any Aw Af Ao Ap As cw cf co cp cs t n w4 HSM.out HT4.out; rw [HX.out.1, HX.out.2] at this; exact this : Calls Tryz.prog 24 #[.agg #[.int .i64 t.q.wells, .slice Aw t.q.nw cw, .slice Af t.q.nf cf, .slice Ao t.no co, .slice Ap t.np cp, .slice As t.ns cs, .int .i64 t.far, .int .i64 t.harm, .int .i64 t.many], .int .i64 n] w4 fun e w' => e = .returned (.tuple #[.int .i64 x1, .int .i64 x2]) ∧ Below w4.heap.size w4 w')).mono ?_
  rintro e w5 ⟨rfl, hb⟩
  have hB5 : Below w4.heap.size w4 w5 := bTrans (Below.refl _ _) hb
  have HD5 := Lib.hid (bTrans HD4.out hB5)
  have HT5 := Lib.hid (HT4.out.mono hB5)
  have HTB5 := Lib.hid (HTB4.out.mono hB5)
  have HNA5 := Lib.hid (HNA4.out.mono hB5)
  have HU5 := Lib.hid (HU4.out.mono hB5)
  have T5 := Lib.hid (T4.out.mono hB5)
  have U5 := Lib.hid (U4.out.mono hB5)
  clear hb hB5 HD4 HT4 HTB4 HNA4 HU4 T4 T_0 T_1 T_2 T_3 T_4 T_5 T_6 T_7 T_8 T_l U4 U_0 U_1 U_2 U_3 U_4 U_5 U_6 U_7 U_8 U_l
  obtain ⟨T_0, T_1, T_2, T_3, T_4, T_5, T_6, T_7, T_8, T_l⟩ := T5.out.c9
  obtain ⟨U_0, U_1, U_2, U_3, U_4, U_5, U_6, U_7, U_8, U_l⟩ := U5.out.c9
  go_wp2_with fail
  refine ((by have := pricesP_any Bw Bf Bo Bp Bs dw df do_ dp ds t n w5 HSM.out HU5.out HTB5.out HNA5.out; rw [HY.out.1, HY.out.2] at this; exact this : Calls Tryz.prog 25 #[.agg #[.int .i64 t.q.wells, .slice Bw t.q.nw dw, .slice Bf t.q.nf df, .slice Bo t.no do_, .slice Bp t.np dp, .slice Bs t.ns ds, .int .i64 t.far, .int .i64 t.harm, .int .i64 t.many], .int .i64 n] w5 fun e w' => e = .returned (.tuple #[.int .i64 y1, .int .i64 y2]) ∧ Below w5.heap.size w5 w')).mono ?_
  rintro e w6 ⟨rfl, hb⟩
  have hB6 : Below w5.heap.size w5 w6 := bTrans (Below.refl _ _) hb
  have HD6 := Lib.hid (bTrans HD5.out hB6)
  have HT6 := Lib.hid (HT5.out.mono hB6)
  have HTB6 := Lib.hid (HTB5.out.mono hB6)
  have HNA6 := Lib.hid (HNA5.out.mono hB6)
  have HU6 := Lib.hid (HU5.out.mono hB6)
  have T6 := Lib.hid (T5.out.mono hB6)
  have U6 := Lib.hid (U5.out.mono hB6)
  clear hb hB6 HD5 HT5 HTB5 HNA5 HU5 T5 T_0 T_1 T_2 T_3 T_4 T_5 T_6 T_7 T_8 T_l U5 U_0 U_1 U_2 U_3 U_4 U_5 U_6 U_7 U_8 U_l
  obtain ⟨T_0, T_1, T_2, T_3, T_4, T_5, T_6, T_7, T_8, T_l⟩ := T6.out.c9
  obtain ⟨U_0, U_1, U_2, U_3, U_4, U_5, U_6, U_7, U_8, U_l⟩ := U6.out.c9
  go_wp2_with fail
  refine ((by have := price9_any Aw Af Ao Ap As cw cf co cp cs t n w6 HSM.out HT6.out; rw [HY.out.1, HY.out.2] at this; exact this : Calls Tryz.prog 26 #[.agg #[.int .i64 t.q.wells, .slice Aw t.q.nw cw, .slice Af t.q.nf cf, .slice Ao t.no co, .slice Ap t.np cp, .slice As t.ns cs, .int .i64 t.far, .int .i64 t.harm, .int .i64 t.many], .int .i64 n] w6 fun e w' => e = .returned (.tuple #[.int .i64 y1, .int .i64 y2]) ∧ Below w6.heap.size w6 w')).mono ?_
  rintro e w7 ⟨rfl, hb⟩
  have hB7 : Below w6.heap.size w6 w7 := bTrans (Below.refl _ _) hb
  have HD7 := Lib.hid (bTrans HD6.out hB7)
  have HT7 := Lib.hid (HT6.out.mono hB7)
  have HTB7 := Lib.hid (HTB6.out.mono hB7)
  have HNA7 := Lib.hid (HNA6.out.mono hB7)
  have HU7 := Lib.hid (HU6.out.mono hB7)
  have T7 := Lib.hid (T6.out.mono hB7)
  have U7 := Lib.hid (U6.out.mono hB7)
  clear hb hB7 HD6 HT6 HTB6 HNA6 HU6 T6 T_0 T_1 T_2 T_3 T_4 T_5 T_6 T_7 T_8 T_l U6 U_0 U_1 U_2 U_3 U_4 U_5 U_6 U_7 U_8 U_l
  obtain ⟨T_0, T_1, T_2, T_3, T_4, T_5, T_6, T_7, T_8, T_l⟩ := T7.out.c9
  obtain ⟨U_0, U_1, U_2, U_3, U_4, U_5, U_6, U_7, U_8, U_l⟩ := U7.out.c9
  go_wp2_with fail
  refine (same9_any Bw Bf Bo Bp Bs dw df do_ dp ds t Aw Af Ao Ap As cw cf co cp cs _ HSM.out HU7.out HT7.out).mono ?_
  rintro e w8 ⟨rfl, hb⟩
  have hB8 : Below w7.heap.size w7 w8 := bTrans (Below.refl _ _) hb
  have HD8 := Lib.hid (bTrans HD7.out hB8)
  have HT8 := Lib.hid (HT7.out.mono hB8)
  have HTB8 := Lib.hid (HTB7.out.mono hB8)
  have HNA8 := Lib.hid (HNA7.out.mono hB8)
  have HU8 := Lib.hid (HU7.out.mono hB8)
  have T8 := Lib.hid (T7.out.mono hB8)
  have U8 := Lib.hid (U7.out.mono hB8)
  clear hb hB8 HD7 HT7 HTB7 HNA7 HU7 T7 T_0 T_1 T_2 T_3 T_4 T_5 T_6 T_7 T_8 T_l U7 U_0 U_1 U_2 U_3 U_4 U_5 U_6 U_7 U_8 U_l
  obtain ⟨T_0, T_1, T_2, T_3, T_4, T_5, T_6, T_7, T_8, T_l⟩ := T8.out.c9
  obtain ⟨U_0, U_1, U_2, U_3, U_4, U_5, U_6, U_7, U_8, U_l⟩ := U8.out.c9
  go_wp2_with fail
  refine (works9_any _ HTB8.out HNA8.out).mono ?_
  rintro e w9 ⟨rfl, hb⟩
  have hB9 : Below w8.heap.size w8 w9 := bTrans (Below.refl _ _) hb
  have HD9 := Lib.hid (bTrans HD8.out hB9)
  have HT9 := Lib.hid (HT8.out.mono hB9)
  have HTB9 := Lib.hid (HTB8.out.mono hB9)
  have HNA9 := Lib.hid (HNA8.out.mono hB9)
  have HU9 := Lib.hid (HU8.out.mono hB9)
  have T9 := Lib.hid (T8.out.mono hB9)
  have U9 := Lib.hid (U8.out.mono hB9)
  clear hb hB9 HD8 HT8 HTB8 HNA8 HU8 T8 T_0 T_1 T_2 T_3 T_4 T_5 T_6 T_7 T_8 T_l U8 U_0 U_1 U_2 U_3 U_4 U_5 U_6 U_7 U_8 U_l
  obtain ⟨T_0, T_1, T_2, T_3, T_4, T_5, T_6, T_7, T_8, T_l⟩ := T9.out.c9
  obtain ⟨U_0, U_1, U_2, U_3, U_4, U_5, U_6, U_7, U_8, U_l⟩ := U9.out.c9
  go_wp2_with fail
  go_ret
  exact ⟨rfl, HD9.out⟩
end Go.Proofs.YtjpfdhhiofjpbaaGreatDoor

