/- Parts joined. -/
import Derived.Test.YtchhodikgllgnaaDoorJF
set_option linter.unusedSimpArgs false
set_option linter.unusedVariables false
/- Walks of the package quarrels: isLaw, Harms. Conditions: lengths are Go's; the listed table holds what it holds. -/
namespace Go.Proofs.YtchhodikgllgnaaDoor
open Go.RowKit Go.Sort
theorem isLawQ_any (n : Int) (w : World) : Calls Tryd.prog 87 #[.int .i64 n] w fun e w' => e = .returned (.bool (inR n 0 99)) ∧ Below w.heap.size w w' := by
  go_enter Tryd.func87, Tryd.ntmps87
  go_wp2_with fail
  refine (withinQ_b _ _ _ _ _ rfl).mono ?_
  rintro e w' ⟨rfl, rfl⟩
  go_wp2_with fail
  go_ret
  exact ⟨rfl, Below.refl _ _⟩
theorem AskOut.ret {w : World} {base : Nat} {Aw Af : Option Addr} {cw cf : Nat} {t : Qt} {er : Int} {e : Ending} (h : AskOut w base Aw Af cw cf t er e) : ∃ v, e = .returned v := by
  by_cases he : er = 0
  · obtain ⟨C, mp, h1, _⟩ := h.2 he
    exact ⟨_, h1⟩
  · exact ⟨_, h.1 he⟩
theorem AskOut.lower {w : World} {base base' : Nat} {Aw Af : Option Addr} {cw cf : Nat} {t : Qt} {er : Int} {e : Ending} (h : AskOut w base Aw Af cw cf t er e) (hb : base' ≤ base) : AskOut w base' Aw Af cw cf t er e :=
  ⟨h.1, fun he => by
    obtain ⟨C, mp, h1, h2, h3, h4, h5⟩ := h.2 he
    exact ⟨C, mp, h1, h2, Nat.le_trans hb h3, h4, Nat.le_trans hb h5⟩⟩
set_option maxHeartbeats 2000000 in
set_option maxRecDepth 100000 in
theorem harmsQ_any (Aw Af : Option Addr) (cw cf : Nat) (t : Qt) (p q law : Int) (w : World) (hs : t.Small) (hT : QAt w Aw Af t) (hB : TabAt w) :
    Calls Tryd.prog 34 #[.agg #[.int .i64 t.wells, .slice Aw t.nw cw, .slice Af t.nf cf], .int .i64 p, .int .i64 q, .int .i64 law] w fun e w' => e = .returned (.tuple #[.int .i64 (if t.knowErr (t.wellB p && t.wellB q && inR law 0 99) = 0 then harmK (t.between p.toNat q.toNat) law else 0), .int .i64 (t.knowErr (t.wellB p && t.wellB q && inR law 0 99))]) ∧ Below w.heap.size w w' := by
  have hb0 := bAlloc (Below.refl w.heap.size w) (.cells #[.int .i64 t.wells, .slice Aw t.nw cw, .slice Af t.nf cf] 25)
  have HT := Lib.hid (hT.mono hb0)
  have HTB := Lib.hid (hB.mono hb0)
  have HB := Lib.hid hb0
  clear hT hb0 hB
  obtain ⟨b1, h1⟩ : ∃ b, t.wellB p = b := ⟨_, rfl⟩
  obtain ⟨b2, h2⟩ : ∃ b, t.wellB q = b := ⟨_, rfl⟩
  obtain ⟨b3, h3⟩ : ∃ b, inR law 0 99 = b := ⟨_, rfl⟩
  have HC1 := Lib.hid (fun w => h1 ▸ isWellQ_any Aw Af cw cf t p w : ∀ w : World, Calls Tryd.prog 71 #[.agg #[.int .i64 t.wells, .slice Aw t.nw cw, .slice Af t.nf cf], .int .i64 p] w fun e w' => e = .returned (.bool b1) ∧ Below w.heap.size w w')
  have HC2 := Lib.hid (fun w => h2 ▸ isWellQ_any Aw Af cw cf t q w : ∀ w : World, Calls Tryd.prog 71 #[.agg #[.int .i64 t.wells, .slice Aw t.nw cw, .slice Af t.nf cf], .int .i64 q] w fun e w' => e = .returned (.bool b2) ∧ Below w.heap.size w w')
  have HC3 := Lib.hid (fun w => h3 ▸ isLawQ_any law w : ∀ w : World, Calls Tryd.prog 87 #[.int .i64 law] w fun e w' => e = .returned (.bool b3) ∧ Below w.heap.size w w')
  obtain ⟨bb, hbb⟩ : ∃ bb, (b1 && b2 && b3) = bb := ⟨_, rfl⟩
  obtain ⟨er, her⟩ : ∃ er, t.knowErr bb = er := ⟨_, rfl⟩
  have HCO := Lib.hid (fun (w' : World) (hb : Below (w.alloc (.cells #[.int .i64 t.wells, .slice Aw t.nw cw, .slice Af t.nf cf] 25)).heap.size (w.alloc (.cells #[.int .i64 t.wells, .slice Aw t.nw cw, .slice Af t.nf cf] 25)) w') => ((openQ_any Aw Af cw cf t bb w' hs (HT.out.mono hb)).mono fun e w'' h => ⟨(her ▸ h.1).lower hb.size, h.2⟩ : Calls Tryd.prog 70 #[.agg #[.int .i64 t.wells, .slice Aw t.nw cw, .slice Af t.nf cf], .bool bb] w' fun e w'' => AskOut w'' (w.alloc (.cells #[.int .i64 t.wells, .slice Aw t.nw cw, .slice Af t.nf cf] 25)).heap.size Aw Af cw cf t er e ∧ Below w'.heap.size w' w''))
  have HE := Lib.hid (show t.knowErr (t.wellB p && t.wellB q && inR law 0 99) = er by rw [h1, h2, h3, hbb, her])
  rw [HE.out]
  have HKE := Lib.hid her
  have HG := Lib.hid hbb
  have HW1 := Lib.hid h1
  have HW2 := Lib.hid h2
  clear h1 h2 h3 her hbb HE
  by_cases he : er = 0
  · subst he
    obtain ⟨ok, rfl, hne⟩ := knowErr_zero HKE.out
    have hg := HG.out
    simp only [Bool.and_eq_true] at hg
    obtain ⟨⟨rfl, rfl⟩, rfl⟩ := hg
    have hp := inR_iff.1 ((wellB_ok ok p).symm.trans HW1.out)
    have hq := inR_iff.1 ((wellB_ok ok q).symm.trans HW2.out)
    obtain ⟨i, rfl⟩ : ∃ i : Nat, p = (i : Int) := ⟨p.toNat, by omega⟩
    obtain ⟨j, rfl⟩ : ∃ j : Nat, q = (j : Int) := ⟨q.toNat, by omega⟩
    have HP := Lib.hid (show (i : Int) < t.wells by omega)
    have HQ := Lib.hid (show (j : Int) < t.wells by omega)
    have HOK := Lib.hid ok
    rw [if_pos rfl, Int.toNat_natCast, Int.toNat_natCast]
    clear hp hq hne ok
    go_enter Tryd.func34, Tryd.ntmps34
    go_wp2_with fail
    refine wp_region_call 13 (fun v w2 => AskOut w2 (w.alloc (.cells #[.int .i64 t.wells, .slice Aw t.nw cw, .slice Af t.nf cf] 25)).heap.size Aw Af cw cf t 0 (.returned v) ∧ Below (w.alloc (.cells #[.int .i64 t.wells, .slice Aw t.nw cw, .slice Af t.nf cf] 25)).heap.size (w.alloc (.cells #[.int .i64 t.wells, .slice Aw t.nw cw, .slice Af t.nf cf] 25)) w2) (by kernel_rfl) (by decide +kernel) rfl ?_
    apply Exists.intro
    refine ⟨fun K hK => ?_, ?_, fun w1 hb1 K Q' hK => ?_, ?_⟩
    · skip
      repeat (first | (refine wpCalm_skip rfl ?_) | (refine wpCalm_step rfl (fun K hK => ?_); go_simp; (first | (refine hK _ ?_; clear hK K) | (apply Exists.intro; refine ⟨fun _ => ?_, hK _ ?_⟩; ((first | (go_at_call 71; with_reducible exact newer_of (HC1.out _)) | (go_at_call 71; with_reducible exact newer_of (HC2.out _)) | (go_at_call 87; with_reducible exact newer_of (HC3.out _)))); clear hK K))))
      refine wpCalm_nil ?_
      exact hK
    · rfl
    · go_simp
      refine (HCO.out w1 hb1).mono ?_
      rintro e w2 ⟨ho, hb2⟩
      obtain ⟨v, rfl⟩ := AskOut.ret ho
      exact hK v w2 ⟨ho, bTrans hb1 hb2⟩
    rintro v w2 ⟨ho, hb2⟩
    obtain ⟨C, mp, e1, hc, _⟩ := ho.2 rfl
    obtain rfl := Ending.returned.inj e1
    have HCT := Lib.hid hc
    have HB2 := Lib.hid hb2
    clear ho hb2 hc e1
    apply Exists.intro
    refine ⟨fun K hK => ?_, fun w3 hb3 => ?_⟩
    · skip
      repeat (first | (refine wpCalm_skip rfl ?_) | (refine wpCalm_step rfl (fun K hK => ?_); go_simp; (first | (refine hK _ ?_; clear hK K) | (apply Exists.intro; refine ⟨fun _ => ?_, hK _ ?_⟩; (fail); clear hK K))))
      refine wpCalm_nil ?_
      exact hK
    have HC3' := Lib.hid (HCT.out.mono hb3)
    have HB3 := Lib.hid (bTrans HB2.out hb3)
    clear hb3
    go_wp2_with fail
    refine (harmsC_any Aw Af cw cf C mp _ t i j law w3 HC3'.out (mask_64 t HOK.out.nw) (bits_mask t HOK.out.nw) HOK.out HP.out HQ.out (HT.out.mono HB3.out) (HTB.out.mono HB3.out)).mono ?_
    rintro e w4 ⟨rfl, hb4⟩
    go_wp2_with fail
    go_ret2
    exact ⟨rfl, bTrans HB.out (bTrans HB3.out hb4)⟩
  · have g0 : (er != 0) = true := by simp [he]
    have HNZ := Lib.hid he
    rw [if_neg he]
    clear he
    go_enter Tryd.func34, Tryd.ntmps34
    go_wp2_with fail
    rcases three_ways b1 b2 b3 with rfl | ⟨rfl, rfl⟩ | ⟨rfl, rfl, rfl⟩ | ⟨rfl, rfl, rfl⟩
    all_goals
      obtain rfl := HG.out
      refine wp_region_call 13 (fun v w2 => AskOut w2 (w.alloc (.cells #[.int .i64 t.wells, .slice Aw t.nw cw, .slice Af t.nf cf] 25)).heap.size Aw Af cw cf t er (.returned v) ∧ Below (w.alloc (.cells #[.int .i64 t.wells, .slice Aw t.nw cw, .slice Af t.nf cf] 25)).heap.size (w.alloc (.cells #[.int .i64 t.wells, .slice Aw t.nw cw, .slice Af t.nf cf] 25)) w2) (by kernel_rfl) (by decide +kernel) rfl ?_
      apply Exists.intro
      refine ⟨fun K hK => ?_, ?_, fun w1 hb1 K Q' hK => ?_, ?_⟩
      · skip
        repeat (first | (refine wpCalm_skip rfl ?_) | (refine wpCalm_step rfl (fun K hK => ?_); go_simp; (first | (refine hK _ ?_; clear hK K) | (apply Exists.intro; refine ⟨fun _ => ?_, hK _ ?_⟩; ((first | (go_at_call 71; with_reducible exact newer_of (HC1.out _)) | (go_at_call 71; with_reducible exact newer_of (HC2.out _)) | (go_at_call 87; with_reducible exact newer_of (HC3.out _)))); clear hK K))))
        refine wpCalm_nil ?_
        exact hK
      · rfl
      · go_simp
        refine (HCO.out w1 hb1).mono ?_
        rintro e w2 ⟨ho, hb2⟩
        obtain ⟨v, rfl⟩ := AskOut.ret ho
        exact hK v w2 ⟨ho, bTrans hb1 hb2⟩
      rintro v w2 ⟨ho, hb2⟩
      obtain rfl := Ending.returned.inj (ho.1 HNZ.out)
      have HB2 := Lib.hid hb2
      clear ho hb2
      apply Exists.intro
      refine ⟨fun K hK => ?_, fun w3 hb3 => ?_⟩
      · skip
        repeat (first | (refine wpCalm_skip rfl ?_) | (refine wpCalm_step rfl (fun K hK => ?_); go_simp; (first | (refine hK _ ?_; clear hK K) | (apply Exists.intro; refine ⟨fun _ => ?_, hK _ ?_⟩; (fail); clear hK K))))
        refine wpCalm_nil ?_
        exact hK
      have HB3 := Lib.hid (bTrans HB2.out hb3)
      clear hb3
      go_wp2_with fail
      go_ret2
      exact ⟨rfl, bTrans HB.out HB3.out⟩
end Go.Proofs.YtchhodikgllgnaaDoor
/- Slices of the call's own, whatever their elements, gone on with one by one. No condition. -/
namespace Go.Proofs.YtchhodikgllgnaaDoor
open Go.RowKit Go.Sort
/-- how an element lies in memory -/
structure Elem (α : Type) where
  enc : α → List Value
  size : Nat
  ty : TypeId
  sl : TypeId
  z : Value
  bytes : Nat
structure Elem.Good {α : Type} (E : Elem α) : Prop where
  info : (Tryd.prog.info? E.ty).map (fun i => (i.zero, i.size, i.bytes)) = some (some E.z, E.size, E.bytes)
  und : Tryd.prog.underlying E.sl = some (.slice E.ty)
  zs : E.z.cells.size = E.size
  pos : 0 < E.size
  len : ∀ x, (E.enc x).length = E.size
  one : ∀ x, ∀ u ∈ E.enc x, u.oneCell' = true
  by_ : E.bytes ≤ 1000000
def Elem.cells {α : Type} (E : Elem α) (l : List α) : List Value := l.flatMap E.enc
theorem Elem.cells_len {α : Type} {E : Elem α} (g : E.Good) : ∀ l : List α, (E.cells l).length = l.length * E.size
  | [] => by simp [Elem.cells]
  | x :: l => by
    have ih := Elem.cells_len g l
    unfold Elem.cells at ih ⊢
    rw [List.flatMap_cons, List.length_append, g.len, ih, List.length_cons, Nat.succ_mul, Nat.add_comm]
theorem Elem.cells_get {α : Type} {E : Elem α} (g : E.Good) : ∀ {l : List α} {j : Nat} {x : α} (i : Nat), l[j]? = some x → i < E.size → (E.cells l)[j * E.size + i]? = (E.enc x)[i]?
  | [], j, x, i, h, _ => by simp at h
  | y :: l, 0, x, i, h, hi => by
    obtain rfl : y = x := by simpa using h
    unfold Elem.cells
    rw [List.flatMap_cons, Nat.zero_mul, Nat.zero_add, List.getElem?_append_left (by rw [g.len]; exact hi)]
  | y :: l, j + 1, x, i, h, hi => by
    have ih := Elem.cells_get g (l := l) (j := j) (x := x) i (by simpa using h) hi
    unfold Elem.cells at ih ⊢
    rw [List.flatMap_cons, List.getElem?_append_right (by rw [g.len, Nat.succ_mul]; omega), g.len, Nat.succ_mul, show j * E.size + E.size + i - E.size = j * E.size + i by omega]
    exact ih
/-- a slice of the call's own that holds a list -/
def OwnE {α : Type} (E : Elem α) (w : World) (base : Nat) (v : Value) (l : List α) : Prop := w.ownsRow base E.ty E.size v l.length (E.cells l)
section
variable {α : Type} {E : Elem α} {w w' : World} {base : Nat} {v : Value} {l : List α}
theorem OwnE.nil (E : Elem α) (w : World) (base : Nat) : OwnE E w base (.slice none 0 0) [] := World.ownsRow_nil _ _ _ _
theorem OwnE.mono (h : OwnE E w base v l) (hb : Below w.heap.size w w') : OwnE E w' base v l := owns_below h hb
theorem OwnE.lower {base' : Nat} (h : OwnE E w base v l) (hb : base' ≤ base) : OwnE E w base' v l := owns_lower h hb
/-- a slice that reads as a list -/
def SliceE (E : Elem α) (w : World) (v : Value) (l : List α) : Prop := ∃ A c, v = .slice A l.length c ∧ RowAt w A (E.cells l)
theorem SliceE.mono (h : SliceE E w v l) (hb : Below w.heap.size w w') : SliceE E w' v l := by
  obtain ⟨A, c, e, h⟩ := h
  exact ⟨A, c, e, h.mono hb⟩
theorem OwnE.read (h : OwnE E w base v l) : SliceE E w v l := by
  rcases Nat.eq_zero_or_pos l.length with h0 | h0
  · obtain rfl := List.eq_nil_of_length_eq_zero h0
    rcases h.2 with ⟨rfl, _⟩ | ⟨g, cap, cur, rfl, _⟩
    · exact ⟨_, _, rfl, .inl rfl⟩
    · exact ⟨_, _, rfl, .inl rfl⟩
  · obtain ⟨A, c, e, hr⟩ := AtHand.row (N := base) (.inr ⟨h0, h⟩)
    exact ⟨A, c, e, hr⟩
theorem RowAt.elem (g : E.Good) {A : Option Addr} (h : RowAt w A (E.cells l)) {j : Nat} {x : α} (hj : l[j]? = some x) : ∃ b o, A = some ⟨b, o, none⟩ ∧ b < w.heap.size ∧ ∀ i u, (E.enc x)[i]? = some u → w.cell? ⟨b, o + (j * E.size + i), none⟩ = some u := by
  have hget := fun i (hi : i < E.size) => Elem.cells_get g (l := l) (j := j) (x := x) i hj hi
  rcases h with h | ⟨b, o, rfl, hlt, hc⟩
  · have h1 := hget 0 g.pos
    rw [h] at h1
    have : (E.enc x).length = E.size := g.len x
    have h2 : (E.enc x)[0]? = some ((E.enc x)[0]'(by rw [this]; exact g.pos)) := List.getElem?_eq_getElem _
    rw [h2] at h1
    simp at h1
  · refine ⟨b, o, rfl, hlt, fun i u hu => hc _ u ?_⟩
    have hi : i < (E.enc x).length := by
      rcases Nat.lt_or_ge i (E.enc x).length with h | h
      · exact h
      · rw [List.getElem?_eq_none h] at hu; cases hu
    rw [hget i (by rw [← g.len x]; exact hi)]
    exact hu
/-- 'append(out, x)' -/
theorem wpList_snocE (g : E.Good) (w : World) {ops : Array Oper} {rest : List Oper} {o : Oper} {a : Act} {Q : Exit → Act → World → Prop} (hg : o.guard = none) (s x : Operand) (hop : o.op = Op.call { callee := Callee.builtin Builtin.append, args := #[s, x], argTypes := #[E.sl, E.sl] })
    (base : Nat) (v : Value) (l : List α) (y : α) (hs : a.eval s = v) (hown : OwnE E w base v l) (b : Nat) (hx : a.eval x = .slice (some ⟨b, 0, none⟩) 1 1) (hc : ∀ i u, (E.enc y)[i]? = some u → w.cell? ⟨b, i, none⟩ = some u) (hlen : l.length ≤ 100000) (hbase : base ≤ w.heap.size)
    (h : ∀ v' w', OwnE E w' base v' (l ++ [y]) → (∀ b0 W, b0 ≤ base → Below b0 W w → Below b0 W w') → w.grownBy w' v.ownBlock → v' ≠ .slice none 0 0 → wpList Tryd.prog ops Q rest (a.put o.dst v') w') : wpList Tryd.prog ops Q (o :: rest) a w := by
  obtain ⟨i0, hi, iz0, iz1, iz2⟩ := info_parts g.info
  refine wpList_append_own w hg s x E.sl hop base E.ty i0 E.z E.size E.bytes g.und hi iz0 iz1 iz2 g.zs g.pos v l.length (E.cells l) hs hown ⟨b, 0, none⟩ 1 1 (E.enc y) hx (by rw [g.len, Nat.one_mul]) (fun j u hj => ?_) (fun u hu => g.one y u hu) (by unfold maxLen; omega) (by have := g.by_; exact Nat.le_trans (Nat.mul_le_mul (show l.length + 1 ≤ 100001 by omega) this) (by decide)) hbase fun v' w' h1 h2 h3 => ?_
  · have := hc j u hj
    rwa [show (⟨b, 0, none⟩ : Addr).add j = ⟨b, j, none⟩ from by unfold Addr.add; split <;> simp_all]
  · refine h v' w' ?_ (fun b0 W hb hB => hB.grown h2 (Nat.le_trans hb hbase) fun k hk => Nat.le_trans hb (hown.lt k hk).1) h2 fun e => ?_
    · show w'.ownsRow base E.ty E.size v' (l ++ [y]).length (E.cells (l ++ [y]))
      rw [List.length_append, show E.cells (l ++ [y]) = E.cells l ++ E.enc y from by simp [Elem.cells]]
      exact h1
    · have := h3.1 e
      omega
end
/-! ### Tests, pairs of worlds -/
def tstE : Elem Tp := { enc := fun x => [.int .i64 x.1, .int .i64 x.2], size := 2, ty := 27, sl := 34, z := .agg #[.int .i64 0, .int .i64 0], bytes := 16 }
theorem tstG : tstE.Good :=
  ⟨by kernel_rfl, Tryd.underlying34, by decide, by decide, fun _ => rfl, fun x u hu => by
    rcases (by simpa [tstE] using hu : u = .int .i64 x.1 ∨ u = .int .i64 x.2) with rfl | rfl <;> rfl, by decide⟩
def prE : Elem (Int × Int) := { enc := fun x => [.int .i64 x.1, .int .i64 x.2], size := 2, ty := 142, sl := 105, z := .agg #[.int .i64 0, .int .i64 0], bytes := 16 }
theorem prG : prE.Good :=
  ⟨by kernel_rfl, Tryd.underlying105, by decide, by decide, fun _ => rfl, fun x u hu => by
    rcases (by simpa [prE] using hu : u = .int .i64 x.1 ∨ u = .int .i64 x.2) with rfl | rfl <;> rfl, by decide⟩
theorem SliceE.tst {w : World} {A : Option Addr} {l : List Tp} (h : RowAt w A (tstE.cells l)) {j : Nat} {x : Tp} (hj : l[j]? = some x) : ∃ b o, A = some ⟨b, o, none⟩ ∧ b < w.heap.size ∧ w.cell? ⟨b, o + j * 2, none⟩ = some (.int .i64 x.1) ∧ w.cell? ⟨b, o + j * 2 + 1, none⟩ = some (.int .i64 x.2) := by
  obtain ⟨b, o, h1, h2, h3⟩ := RowAt.elem tstG h hj
  exact ⟨b, o, h1, h2, h3 0 _ rfl, h3 1 _ rfl⟩
theorem SliceE.pr {w : World} {A : Option Addr} {l : List (Int × Int)} (h : RowAt w A (prE.cells l)) {j : Nat} {x : Int × Int} (hj : l[j]? = some x) : ∃ b o, A = some ⟨b, o, none⟩ ∧ b < w.heap.size ∧ w.cell? ⟨b, o + j * 2, none⟩ = some (.int .i64 x.1) ∧ w.cell? ⟨b, o + j * 2 + 1, none⟩ = some (.int .i64 x.2) := by
  obtain ⟨b, o, h1, h2, h3⟩ := RowAt.elem prG h hj
  exact ⟨b, o, h1, h2, h3 0 _ rfl, h3 1 _ rfl⟩
end Go.Proofs.YtchhodikgllgnaaDoor
/- Walks of the package quarrels: areDraws, the closure of Total. Conditions: lengths are Go's; of the closure: a valid world and draws. -/
namespace Go.Proofs.YtchhodikgllgnaaDoor
open Go.RowKit Go.Sort
theorem draws1Q_any (n : Int) (w : World) : Calls Tryd.prog 129 #[.int .i64 n] w fun e w' => e = .returned (.bool (!inR n 0 9)) ∧ Below w.heap.size w w' := by
  go_enter Tryd.func129, Tryd.ntmps129
  go_wp2_with fail
  refine (withinQ_b _ _ _ _ _ rfl).mono ?_
  rintro e w' ⟨rfl, rfl⟩
  go_wp2_with fail
  go_ret
  exact ⟨rfl, Below.refl _ _⟩
/-- whether numbers are draws -/
def Qt.drawsB (t : Qt) (n : Nat) (g : Nat → Int) : Bool := decide ((n : Int) = t.wells) && !anyB (fun i => !inR (g i) 0 9) n
theorem drawsB_iff {t : Qt} {n : Nat} {g : Nat → Int} : t.drawsB n g = true ↔ (n : Int) = t.wells ∧ ∀ i, i < n → 0 ≤ g i ∧ g i ≤ 9 := by
  unfold Qt.drawsB
  rw [Bool.and_eq_true, decide_eq_true_eq, Bool.not_eq_true', anyB_false]
  simp [inR_iff]
theorem areDrawsQ_any (Aw Af A : Option Addr) (cw cf c n : Nat) (t : Qt) (g : Nat → Int) (w : World) (hn : n ≤ 9223372036854775807) (hI : IntsAt w A n g) :
    Calls Tryd.prog 109 #[.agg #[.int .i64 t.wells, .slice Aw t.nw cw, .slice Af t.nf cf], .slice A n c] w fun e w' => e = .returned (.bool (t.drawsB n g)) ∧ Below w.heap.size w w' := by
  have hb0 := bAlloc (Below.refl w.heap.size w) (.cells #[.int .i64 t.wells, .slice Aw t.nw cw, .slice Af t.nf cf] 25)
  have HI := Lib.hid (hI.mono hb0)
  have HB := Lib.hid hb0
  clear hb0 hI
  by_cases hnw : (n : Int) = t.wells
  · have g0 : ((n : Int) == t.wells) = true := by simp [hnw]
    have HE := Lib.hid (show t.drawsB n g = !anyB (fun i => !inR (g i) 0 9) n by unfold Qt.drawsB; simp [hnw])
    clear hnw
    go_enter Tryd.func109, Tryd.ntmps109
    go_wp2_with fail
    refine (none_int A n c 129 #[] g (fun i => !inR (g i) 0 9) _ hn HI.out (enters_of Tryd.func129 (by kernel_rfl)) (fun i _ w' _ => draws1Q_any (g i) w')).mono ?_
    rintro e w1 ⟨rfl, hb1⟩
    go_wp2_with fail
    go_ret
    exact ⟨by rw [HE.out]; rfl, bTrans HB.out hb1⟩
  · have g0 : ((n : Int) == t.wells) = false := by simp [hnw]
    have HE := Lib.hid (show t.drawsB n g = false by unfold Qt.drawsB; simp [hnw])
    clear hnw
    go_enter Tryd.func109, Tryd.ntmps109
    go_wp2_with fail
    go_ret
    exact ⟨by rw [HE.out]; rfl, HB.out⟩
theorem mul_bd9 {a b : Int} (h0 : 0 ≤ a) (h1 : a ≤ 9) (h2 : 0 ≤ b) (h3 : b ≤ 9) : 0 ≤ a * b ∧ a * b ≤ 81 :=
  ⟨Int.mul_nonneg h0 h2, Int.le_trans (Int.mul_le_mul h1 h3 h2 (by omega)) (by decide)⟩
set_option maxHeartbeats 2000000 in
theorem total1Q_any (A Ad : Option Addr) (c cd a d n : Nat) (m : Int) (x : Wd) (g : Nat → Int) (q : Nat) (w : World) (hm : m ≤ 4) (ok : x.Ok m) (hn : (n : Int) = m) (hg : ∀ i, i < n → 0 ≤ g i ∧ g i ≤ 9) (hq : (q : Int) < m) (hr : RowsAt w A x) (hI : IntsAt w Ad n g)
    (ha : a < w.heap.size) (hca : w.cell? ⟨a, 0, none⟩ = some (.slice Ad n cd)) (hd : d < w.heap.size) (hcd : w.cell? ⟨d, 0, none⟩ = some (.int .i64 q)) :
    Calls Tryd.prog 110 #[.agg #[.slice A x.n c], .pointer (some ⟨a, 0, none⟩), .pointer (some ⟨d, 0, none⟩)] w fun e w' => e = .returned (.int .i64 (sumTo (fun i => g i * x.fall i q) n)) ∧ Below w.heap.size w w' := by
  have hb0 := bAlloc (Below.refl w.heap.size w) (.cells #[.slice A x.n c] 81)
  have HR := Lib.hid (hr.mono hb0)
  have HI := Lib.hid (hI.mono hb0)
  have HB := Lib.hid hb0
  have HOK := Lib.hid ok
  have HG := Lib.hid hg
  have HN := Lib.hid hn
  have HQ := Lib.hid hq
  have n4 : n ≤ 4 := by omega
  have x0 : (w.alloc (.cells #[.slice A x.n c] 81)).heap.size = w.heap.size + 1 := by simp
  clear hb0 hr hI ok hg hn hq
  go_enter Tryd.func110, Tryd.ntmps110
  go_wp2_with fail
  clear x0
  go_loopw [5, 10] (fun s i wr => ∃ k : Nat, i = .int .i64 k ∧ k ≤ n ∧ s = .int .i64 (sumTo (fun i => g i * x.fall i q) k) ∧ Below (w.alloc (.cells #[.slice A x.n c] 81)).heap.size (w.alloc (.cells #[.slice A x.n c] 81)) wr) (fun _ i _ => n - (intOf i).toNat)
  case atStart => exact ⟨0, rfl, Nat.zero_le _, rfl, Below.refl _ _⟩
  case round =>
    obtain ⟨k, rfl, hk, rfl, hbel⟩ := hrel
    have HL := Lib.hid hbel
    obtain ⟨bc3, bf3⟩ := bcell hbel
    have hz3 := hbel.size
    simp only [World.size_alloc] at hz3
    have hy3 : w.heap.size < wr.heap.size := by omega
    clear hbel
    obtain ⟨s, hs⟩ : ∃ s, sumTo (fun i => g i * x.fall i q) k = s := ⟨_, rfl⟩
    rw [hs]
    have HS := Lib.hid hs
    by_cases hlt : k < n
    · have hbd : (k : Int) * 0 ≤ s ∧ s ≤ (k : Int) * 81 := by
        rw [← hs]
        refine sumTo_bd fun i hi => ?_
        have h1 := HG.out i (by omega)
        have h2 := HOK.out.n
        have h3 := HOK.out.len i (by have := HN.out; omega)
        have h4 := HOK.out.fall i (by have := HN.out; omega) q (by have := HQ.out; omega)
        exact mul_bd9 h1.1 h1.2 h4.1 h4.2
      have hgk := HG.out k hlt
      obtain ⟨b', o', b'', o'', c'', kk, v, rfl, a4, a5, a6, a7, hv, v0, v1, hm2⟩ := HOK.out.at (HR.out.mono HL.out) (p := k) (q := q) (by omega) (by have := HN.out; omega) (by omega) HQ.out
      obtain ⟨b1, o1, rfl, a8, a9⟩ := (HI.out.mono HL.out).get hlt
      rw [Int.toNat_natCast] at a5
      rw [Int.toNat_natCast] at a7
      rw [Int.toNat_natCast, Int.toNat_natCast] at hv
      have hprod := mul_bd9 hgk.1 hgk.2 v0 v1
      obtain ⟨u, hu⟩ : ∃ u, g k = u := ⟨_, rfl⟩
      rw [hu] at a9 hprod
      have hS1 : sumTo (fun i => g i * x.fall i q) (k + 1) = s + u * v := by
        show sumTo _ k + g k * x.fall k q = _
        rw [hs, hu, hv]
      have HS1 := Lib.hid hS1
      obtain ⟨r, hr⟩ : ∃ r, u * v = r := ⟨_, rfl⟩
      rw [hr] at hprod
      have e1 : IntKind.i64.wrap (u * v) = r := by rw [hr]; exact IntWalk.i64_in _ (by omega)
      have e2 : IntKind.i64.wrap (s + r) = s + r := IntWalk.i64_in _ (by omega)
      have HU := Lib.hid hr
      obtain ⟨xn, hxn⟩ : ∃ xn, x.n = xn := ⟨_, rfl⟩
      have hxk : (k : Int) < (xn : Int) := by have := HOK.out.n; have := HN.out; omega
      have hqk : (q : Int) < (kk : Int) := by have := HQ.out; omega
      have k0 : (0 : Int) ≤ (k : Int) := by omega
      have q0 : (0 : Int) ≤ (q : Int) := by omega
      have k1 : (k : Int) < (n : Int) := by omega
      rw [hxn] at bc3
      clear hs hbd hgk hv v0 v1 hm2 hprod hu hS1 hr hxn
      go_wp2_with fail
      go_region
      go_wp2_with fail
      go_roundw
      case rel =>
        first
        | exact ⟨k + 1, by go_num, by omega, by rw [HS1.out, HU.out], HL.out.drew⟩
        | ((repeat apply Exists.intro)
           refine ⟨⟨k + 1, ?_, by omega, by rw [HS1.out, HU.out], HL.out.drew⟩, rfl⟩
           go_num)
      case measure => simp [intOf]; omega
    · obtain rfl : k = n := by omega
      go_wp2_with fail
      go_ret
      exact ⟨by rw [HS.out]; rfl, bTrans HB.out HL.out⟩
end Go.Proofs.YtchhodikgllgnaaDoor
/- Walks of the reference 05: AreDraws, Lowers. Conditions: lengths are Go's; for Lowers a valid town, draws, a world and a well of it. -/
namespace Go.Proofs.YtchhodikgllgnaaDoor
open Go.RowKit Go.Sort
set_option maxHeartbeats 2000000 in
set_option maxRecDepth 100000 in
theorem areDraws5_any (Aw Af A : Option Addr) (cw cf c n : Nat) (t : Qt) (g : Nat → Int) (w : World) (hn : n ≤ 9223372036854775807) (hI : IntsAt w A n g) :
    Calls Tryd.prog 59 #[.agg #[.int .i64 t.wells, .slice Aw t.nw cw, .slice Af t.nf cf], .slice A n c] w fun e w' => e = .returned (.bool (t.drawsB n g)) ∧ Below w.heap.size w w' := by
  have hb0 := bAlloc (Below.refl w.heap.size w) (.cells #[.int .i64 t.wells, .slice Aw t.nw cw, .slice Af t.nf cf] 25)
  have HI := Lib.hid (hI.mono hb0)
  have HB := Lib.hid hb0
  clear hb0 hI
  by_cases hnw : (n : Int) = t.wells
  · have g0 : ((n : Int) == t.wells) = true := by simp [hnw]
    have g1 : ((n : Int) != t.wells) = false := by simp [hnw]
    have HE := Lib.hid (show t.drawsB n g = !anyB (fun i => !inR (g i) 0 9) n by unfold Qt.drawsB; simp [hnw])
    clear hnw
    go_enter Tryd.func59, Tryd.ntmps59
    go_wp2_with fail
    go_loopw [5] (fun i wr => ∃ k : Nat, k ≤ n ∧ i = .int .i64 k ∧ anyB (fun i => !inR (g i) 0 9) k = false ∧ Below (w.alloc (.cells #[.int .i64 t.wells, .slice Aw t.nw cw, .slice Af t.nf cf] 25)).heap.size (w.alloc (.cells #[.int .i64 t.wells, .slice Aw t.nw cw, .slice Af t.nf cf] 25)) wr) (fun i _ => n - (intOf i).toNat)
    case atStart => exact ⟨0, Nat.zero_le _, rfl, rfl, Below.refl _ _⟩
    case round =>
      obtain ⟨k, hk, rfl, hno, hbel⟩ := hrel
      have HN := Lib.hid hno
      have HL := Lib.hid hbel
      clear hno hbel
      by_cases hlt : k < n
      · obtain ⟨b, o, hA, hb, c0⟩ := (HI.out.mono HL.out).get hlt
        subst hA
        have k1 : (k : Int) < (n : Int) := by omega
        have k0 : (0 : Int) ≤ (k : Int) := by omega
        obtain ⟨u, hu⟩ : ∃ u, g k = u := ⟨_, rfl⟩
        rw [hu] at c0
        obtain ⟨bb, hbb⟩ : ∃ bb, inR u 0 9 = bb := ⟨_, rfl⟩
        have HU := Lib.hid (show inR (g k) 0 9 = bb by rw [hu, hbb])
        have HW := Lib.hid (within5_b u 0 9 bb wr hbb)
        clear hu hbb
        go_wp2_with fail
        refine HW.out.mono ?_
        rintro e w' ⟨rfl, rfl⟩
        cases bb
        · have HX := Lib.hid (show anyB (fun i => !inR (g i) 0 9) n = true from anyB_hit hlt (by rw [HU.out]; rfl))
          go_wp2_with fail
          go_ret
          exact ⟨ret_bool (by rw [HE.out, HX.out]; rfl), bTrans HB.out HL.out⟩
        · have HX := Lib.hid (anyB_step HN.out (show (fun i => !inR (g i) 0 9) k = false by simp only [HU.out]; rfl))
          go_wp2_with fail
          go_roundw
          case rel =>
            first
            | exact ⟨k + 1, by omega, by go_num, HX.out, HL.out⟩
            | ((repeat apply Exists.intro)
               refine ⟨⟨k + 1, by omega, ?_, HX.out, HL.out⟩, rfl⟩
               go_num)
          case measure => simp [intOf]; omega
      · obtain rfl : k = n := by omega
        go_wp2_with fail
        go_ret
        exact ⟨ret_bool (by rw [HE.out, HN.out]; rfl), bTrans HB.out HL.out⟩
  · have g0 : ((n : Int) == t.wells) = false := by simp [hnw]
    have g1 : ((n : Int) != t.wells) = true := by simp [hnw]
    have HE := Lib.hid (show t.drawsB n g = false by unfold Qt.drawsB; simp [hnw])
    clear hnw
    go_enter Tryd.func59, Tryd.ntmps59
    go_wp2_with fail
    go_ret
    exact ⟨ret_bool (by rw [HE.out]), HB.out⟩
end Go.Proofs.YtchhodikgllgnaaDoor
/- Walks of the reference 05: Lowers. Conditions: a valid town, draws, a world and a well of it. -/
namespace Go.Proofs.YtchhodikgllgnaaDoor
open Go.RowKit Go.Sort
theorem fallAt_F (t : Qt) (i p q : Nat) : t.fallAt i p q = t.F (i : Int) (p, q) := by
  unfold Qt.fallAt Qt.F
  rw [Int.toNat_natCast, Int.toNat_natCast, Int.toNat_natCast]
theorem F_bd {t : Qt} (ok : t.Ok) {i p q : Nat} (hi : i < t.nw) (hp : (p : Int) < t.wells) (hq : (q : Int) < t.wells) : 0 ≤ t.F (i : Int) (p, q) ∧ t.F (i : Int) (p, q) ≤ 9 := by
  rw [← fallAt_F]
  exact fallAt_bd ok hi (by omega) hp (by omega) hq
theorem lowers_bd {t : Qt} (ok : t.Ok) {d : Nat → Int} {n q i : Nat} (hn : (n : Int) = t.wells) (hd : ∀ k, k < n → 0 ≤ d k ∧ d k ≤ 9) (hq : (q : Int) < t.wells) (hi : i < t.nw) {k : Nat} (hk : k ≤ n) : (k : Int) * 0 ≤ sumTo (fun j => d j * t.F (i : Int) (j, q)) k ∧ sumTo (fun j => d j * t.F (i : Int) (j, q)) k ≤ (k : Int) * 81 :=
  sumTo_bd fun j hj => by
    have h1 := hd j (by omega)
    have h2 := F_bd ok hi (p := j) (q := q) (by omega) hq
    exact mul_bd9 h1.1 h1.2 h2.1 h2.2
set_option maxHeartbeats 2000000 in
set_option maxRecDepth 100000 in
theorem lowers5_any (Aw Af A : Option Addr) (cw cf c n : Nat) (t : Qt) (d : Nat → Int) (i q : Nat) (w : World) (ok : t.Ok) (hT : QAt w Aw Af t) (hI : IntsAt w A n d) (hn : (n : Int) = t.wells) (hd : ∀ k, k < n → 0 ≤ d k ∧ d k ≤ 9) (hq : (q : Int) < t.wells) (hi : i < t.nw) :
    Calls Tryd.prog 66 #[.agg #[.int .i64 t.wells, .slice Aw t.nw cw, .slice Af t.nf cf], .int .i64 i, .slice A n c, .int .i64 q] w fun e w' => e = .returned (.int .i64 (t.lowers d n q i)) ∧ Below w.heap.size w w' := by
  have hb0 := bAlloc (Below.refl w.heap.size w) (.cells #[.int .i64 t.wells, .slice Aw t.nw cw, .slice Af t.nf cf] 25)
  have HI := Lib.hid (hI.mono hb0)
  have HT := Lib.hid (hT.mono hb0)
  have HB := Lib.hid hb0
  have HOK := Lib.hid ok
  have HN := Lib.hid hn
  have HD := Lib.hid hd
  have HQ := Lib.hid hq
  have HIW := Lib.hid hi
  have n4 : n ≤ 4 := by have := ok.w1; omega
  have HBD := Lib.hid (fun (k : Nat) (hk : k ≤ n) => lowers_bd ok hn hd hq hi hk)
  clear hb0 hI hT ok hn hd hq hi
  go_enter Tryd.func66, Tryd.ntmps66
  go_wp2_with fail
  go_loopw [9, 10] (fun s9 i' wr => ∃ k : Nat, k ≤ n ∧ i' = .int .i64 k ∧ s9 = .int .i64 (sumTo (fun j => d j * t.F (i : Int) (j, q)) k) ∧ Below (w.alloc (.cells #[.int .i64 t.wells, .slice Aw t.nw cw, .slice Af t.nf cf] 25)).heap.size (w.alloc (.cells #[.int .i64 t.wells, .slice Aw t.nw cw, .slice Af t.nf cf] 25)) wr) (fun _ i _ => n - (intOf i).toNat)
  case atStart => exact ⟨0, Nat.zero_le _, rfl, rfl, Below.refl _ _⟩
  case round =>
    obtain ⟨k, hk, rfl, rfl, hbel⟩ := hrel
    have HL := Lib.hid hbel
    obtain ⟨bc3, bf3⟩ := bcell hbel
    have hz3 := hbel.size
    simp only [World.size_alloc] at hz3
    have hy3 : w.heap.size < wr.heap.size := by omega
    have hbd := HBD.out k hk
    clear hbel
    obtain ⟨s, hs⟩ : ∃ s, sumTo (fun j => d j * t.F (i : Int) (j, q)) k = s := ⟨_, rfl⟩
    rw [hs] at hbd ⊢
    have HS := Lib.hid hs
    clear hs
    by_cases hlt : k < n
    · obtain ⟨b, o, hA, hb, c0⟩ := (HI.out.mono HL.out).get hlt
      subst hA
      have hk9 := HD.out k hlt
      have hf9 := F_bd HOK.out HIW.out (p := k) (q := q) (by have := HN.out; omega) HQ.out
      obtain ⟨u, hu⟩ : ∃ u, d k = u := ⟨_, rfl⟩
      rw [hu] at c0 hk9
      obtain ⟨v, hv⟩ : ∃ v, t.F (i : Int) (k, q) = v := ⟨_, rfl⟩
      rw [hv] at hf9
      have hprod := mul_bd9 hk9.1 hk9.2 hf9.1 hf9.2
      obtain ⟨r, hr⟩ : ∃ r, u * v = r := ⟨_, rfl⟩
      rw [hr] at hprod
      have e1 : IntKind.i64.wrap (u * v) = r := by rw [hr]; exact IntWalk.i64_in _ (by omega)
      have e2 : IntKind.i64.wrap (s + r) = s + r := IntWalk.i64_in _ (by omega)
      have HX := Lib.hid (show sumTo (fun j => d j * t.F (i : Int) (j, q)) (k + 1) = s + r by
        show sumTo _ k + d k * t.F (i : Int) (k, q) = _
        rw [HS.out, hu, hv, hr])
      have k1 : (k : Int) < (n : Int) := by omega
      have k0 : (0 : Int) ≤ (k : Int) := by omega
      have HF := Lib.hid (fun (w' : World) (hb : Below wr.heap.size wr w') => (hv ▸ fallAt_F t i k q ▸ fall5_any Aw Af cw cf t i k q w' HOK.out HIW.out (by have := HN.out; omega) HQ.out ((HT.out.mono HL.out).mono hb) : Calls Tryd.prog 63 #[.agg #[.int .i64 t.wells, .slice Aw t.nw cw, .slice Af t.nf cf], .int .i64 i, .int .i64 k, .int .i64 q] w' fun e w'' => e = .returned (.int .i64 v) ∧ Below w'.heap.size w' w''))
      clear hbd hk9 hf9 hprod hu hv hr
      go_wp2_with fail
      refine wp_region_quiet_below (by kernel_rfl) (by kernel_rfl) ?_
      repeat (go_big_quiet_step (((go_at_call 63; with_reducible exact Calls.regrown_of (HF.out _ (below_regrown _ _ _))))))
      refine wpQuiet_nil ?_
      intro w9 hw9
      have HL9 := Lib.hid (bTrans HL.out (below_of_regrown hw9))
      clear hw9
      go_wp2_with fail
      go_roundw
      case rel =>
        first
        | exact ⟨k + 1, by omega, by go_num, by rw [HX.out], HL9.out⟩
        | ((repeat apply Exists.intro)
           refine ⟨⟨k + 1, by omega, ?_, by rw [HX.out], HL9.out⟩, rfl⟩
           go_num)
      case measure => simp [intOf]; omega
    · obtain rfl : k = n := by omega
      go_wp2_with fail
      go_ret
      exact ⟨by rw [show t.lowers d k q i = s from HS.out]; rfl, bTrans HB.out HL.out⟩
end Go.Proofs.YtchhodikgllgnaaDoor
/- Walks of the reference 05: IsBlamed. Conditions: a valid town, draws, a world and wells of it. -/
namespace Go.Proofs.YtchhodikgllgnaaDoor
open Go.RowKit Go.Sort
set_option maxHeartbeats 4000000 in
set_option maxRecDepth 100000 in
theorem isBlamed5_any (Aw Af A : Option Addr) (cw cf c n : Nat) (t : Qt) (d : Nat → Int) (i p q : Nat) (w : World) (ok : t.Ok) (hT : QAt w Aw Af t) (hI : IntsAt w A n d) (hn : (n : Int) = t.wells) (hd : ∀ k, k < n → 0 ≤ d k ∧ d k ≤ 9) (hp : p < n) (hq : (q : Int) < t.wells) (hi : i < t.nw) :
    Calls Tryd.prog 68 #[.agg #[.int .i64 t.wells, .slice Aw t.nw cw, .slice Af t.nf cf], .int .i64 i, .slice A n c, .int .i64 p, .int .i64 q] w fun e w' => e = .returned (.bool (t.blamed d n q p i)) ∧ Below w.heap.size w w' := by
  have hb0 := bAlloc (Below.refl w.heap.size w) (.cells #[.int .i64 t.wells, .slice Aw t.nw cw, .slice Af t.nf cf] 25)
  have HI := Lib.hid (hI.mono hb0)
  have HT := Lib.hid (hT.mono hb0)
  have HB := Lib.hid hb0
  have HOK := Lib.hid ok
  have HN := Lib.hid hn
  have HD := Lib.hid hd
  have HQ := Lib.hid hq
  have HIW := Lib.hid hi
  have n4 : n ≤ 4 := by have := ok.w1; omega
  obtain ⟨b, o, hA, hbA, c0⟩ := hI.get hp
  subst hA
  have hp9 := hd p hp
  have hf9 := F_bd ok hi (p := p) (q := q) (by omega) hq
  obtain ⟨u, hu⟩ : ∃ u, d p = u := ⟨_, rfl⟩
  rw [hu] at c0 hp9
  obtain ⟨v, hv⟩ : ∃ v, t.F (i : Int) (p, q) = v := ⟨_, rfl⟩
  rw [hv] at hf9
  have hprod := mul_bd9 hp9.1 hp9.2 hf9.1 hf9.2
  obtain ⟨r, hr⟩ : ∃ r, u * v = r := ⟨_, rfl⟩
  rw [hr] at hprod
  have e1 : IntKind.i64.wrap (u * v) = r := by rw [hr]; exact IntWalk.i64_in _ (by omega)
  have HR := Lib.hid (show d p * t.F (i : Int) (p, q) = r by rw [hu, hv, hr])
  have p1 : (p : Int) < (n : Int) := by omega
  have p0 : (0 : Int) ≤ (p : Int) := by omega
  have HFp := Lib.hid (fun (w' : World) (hb : Below (w.alloc (.cells #[.int .i64 t.wells, .slice Aw t.nw cw, .slice Af t.nf cf] 25)).heap.size (w.alloc (.cells #[.int .i64 t.wells, .slice Aw t.nw cw, .slice Af t.nf cf] 25)) w') => (hv ▸ fallAt_F t i p q ▸ fall5_any Aw Af cw cf t i p q w' HOK.out HIW.out (by have := HN.out; omega) HQ.out (HT.out.mono hb) : Calls Tryd.prog 63 #[.agg #[.int .i64 t.wells, .slice Aw t.nw cw, .slice Af t.nf cf], .int .i64 i, .int .i64 p, .int .i64 q] w' fun e w'' => e = .returned (.int .i64 v) ∧ Below w'.heap.size w' w''))
  have HRB := Lib.hid (And.intro hprod.1 hprod.2)
  clear hb0 hI hT ok hn hd hq hi hp9 hf9 hu hv hprod hr
  go_enter Tryd.func68, Tryd.ntmps68
  go_wp2_with fail
  refine wp_region_quiet_below (by kernel_rfl) (by kernel_rfl) ?_
  repeat (go_big_quiet_step (((go_at_call 63; with_reducible exact Calls.regrown_of (HFp.out _ (below_regrown _ _ _))))))
  refine wpQuiet_nil ?_
  intro w2 hw2
  have hb2 := below_of_regrown hw2
  have HB2 := Lib.hid hb2
  clear hw2 hb2 c0 hbA
  go_wp2_with fail
  go_loopw [12] (fun i' wr => ∃ k : Nat, k ≤ n ∧ i' = .int .i64 k ∧ anyB (fun j => decide (j ≠ p) && decide (j ≠ q) && decide (d p * t.F (i : Int) (p, q) ≤ d j * t.F (i : Int) (j, q))) k = false ∧ Below (w.alloc (.cells #[.int .i64 t.wells, .slice Aw t.nw cw, .slice Af t.nf cf] 25)).heap.size (w.alloc (.cells #[.int .i64 t.wells, .slice Aw t.nw cw, .slice Af t.nf cf] 25)) wr) (fun i _ => n - (intOf i).toNat)
  case atStart => exact ⟨0, Nat.zero_le _, rfl, rfl, HB2.out⟩
  case round =>
    obtain ⟨k, hk, rfl, hno, hbel⟩ := hrel
    have HNO := Lib.hid hno
    have HL := Lib.hid hbel
    obtain ⟨bc3, bf3⟩ := bcell hbel
    have hz3 := hbel.size
    simp only [World.size_alloc] at hz3
    have hy3 : w.heap.size < wr.heap.size := by omega
    clear hbel hno
    by_cases hlt : k < n
    · have k1 : (k : Int) < (n : Int) := by omega
      have k0 : (0 : Int) ≤ (k : Int) := by omega
      by_cases hkp : k = p
      · have g1 : ((k : Int) != (p : Int)) = false := by simp; omega
        have g2 : ((k : Int) == (p : Int)) = true := by simp; omega
        have HX := Lib.hid (anyB_step HNO.out (show (fun j => decide (j ≠ p) && decide (j ≠ q) && decide (d p * t.F (i : Int) (p, q) ≤ d j * t.F (i : Int) (j, q))) k = false by simp [hkp]))
        clear hkp
        go_wp2_with fail
        refine wp_region_quiet_below (by kernel_rfl) (by kernel_rfl) ?_
        repeat (go_big_quiet_step ((fail)))
        refine wpQuiet_nil ?_
        intro w9 hw9
        have HL9 := Lib.hid (bTrans HL.out (below_of_regrown hw9))
        clear hw9
        go_wp2_with fail
        go_roundw
        case rel =>
          first
          | exact ⟨k + 1, by omega, by go_num, HX.out, HL9.out⟩
          | ((repeat apply Exists.intro)
             refine ⟨⟨k + 1, by omega, ?_, HX.out, HL9.out⟩, rfl⟩
             go_num)
        case measure => simp [intOf]; omega
      · have g1 : ((k : Int) != (p : Int)) = true := by simp; omega
        by_cases hkq : k = q
        · have g2 : ((k : Int) != (q : Int)) = false := by simp; omega
          have HX := Lib.hid (anyB_step HNO.out (show (fun j => decide (j ≠ p) && decide (j ≠ q) && decide (d p * t.F (i : Int) (p, q) ≤ d j * t.F (i : Int) (j, q))) k = false by simp [hkq]))
          clear hkp hkq
          go_wp2_with fail
          refine wp_region_quiet_below (by kernel_rfl) (by kernel_rfl) ?_
          repeat (go_big_quiet_step ((fail)))
          refine wpQuiet_nil ?_
          intro w9 hw9
          have HL9 := Lib.hid (bTrans HL.out (below_of_regrown hw9))
          clear hw9
          go_wp2_with fail
          go_roundw
          case rel =>
            first
            | exact ⟨k + 1, by omega, by go_num, HX.out, HL9.out⟩
            | ((repeat apply Exists.intro)
               refine ⟨⟨k + 1, by omega, ?_, HX.out, HL9.out⟩, rfl⟩
               go_num)
          case measure => simp [intOf]; omega
        · have g2 : ((k : Int) != (q : Int)) = true := by simp; omega
          obtain ⟨b8, o8, e8, a8, c8⟩ := (HI.out.mono HL.out).get hlt
          simp only [Option.some.injEq, Addr.mk.injEq, and_true] at e8
          obtain ⟨rfl, rfl⟩ := e8
          have hk9 := HD.out k hlt
          have hf9 := F_bd HOK.out HIW.out (p := k) (q := q) (by have := HN.out; omega) HQ.out
          obtain ⟨u2, hu2⟩ : ∃ u, d k = u := ⟨_, rfl⟩
          rw [hu2] at c8 hk9
          obtain ⟨v2, hv2⟩ : ∃ v, t.F (i : Int) (k, q) = v := ⟨_, rfl⟩
          rw [hv2] at hf9
          have hprod := mul_bd9 hk9.1 hk9.2 hf9.1 hf9.2
          obtain ⟨r2, hr2⟩ : ∃ r, u2 * v2 = r := ⟨_, rfl⟩
          rw [hr2] at hprod
          have e2 : IntKind.i64.wrap (u2 * v2) = r2 := by rw [hr2]; exact IntWalk.i64_in _ (by omega)
          have HR2 := Lib.hid (show d k * t.F (i : Int) (k, q) = r2 by rw [hu2, hv2, hr2])
          have HF := Lib.hid (fun (w' : World) (hb : Below wr.heap.size wr w') => (hv2 ▸ fallAt_F t i k q ▸ fall5_any Aw Af cw cf t i k q w' HOK.out HIW.out (by have := HN.out; omega) HQ.out ((HT.out.mono HL.out).mono hb) : Calls Tryd.prog 63 #[.agg #[.int .i64 t.wells, .slice Aw t.nw cw, .slice Af t.nf cf], .int .i64 i, .int .i64 k, .int .i64 q] w' fun e w'' => e = .returned (.int .i64 v2) ∧ Below w'.heap.size w' w''))
          obtain ⟨bg, hbg⟩ : ∃ bg, decide (r ≤ r2) = bg := ⟨_, rfl⟩
          have hbg2 : decide (r2 ≥ r) = bg := hbg
          have HBG := Lib.hid (show (fun j => decide (j ≠ p) && decide (j ≠ q) && decide (d p * t.F (i : Int) (p, q) ≤ d j * t.F (i : Int) (j, q))) k = bg by
            show (decide (k ≠ p) && decide (k ≠ q) && decide (d p * t.F (i : Int) (p, q) ≤ d k * t.F (i : Int) (k, q))) = bg
            rw [HR.out, HR2.out, hbg]
            simp [hkp, hkq])
          clear hk9 hf9 hprod hu2 hv2 hr2 hkp hkq
          go_wp2_with fail
          refine wp_region_quiet_below (by kernel_rfl) (by kernel_rfl) ?_
          repeat (go_big_quiet_step (((go_at_call 63; with_reducible exact Calls.regrown_of (HF.out _ (below_regrown _ _ _))))))
          refine wpQuiet_nil ?_
          intro w9 hw9
          have HL9 := Lib.hid (bTrans HL.out (below_of_regrown hw9))
          clear hw9
          cases bg
          · have HX := Lib.hid (anyB_step HNO.out HBG.out)
            go_wp2_with fail
            go_roundw
            case rel =>
              first
              | exact ⟨k + 1, by omega, by go_num, HX.out, HL9.out⟩
              | ((repeat apply Exists.intro)
                 refine ⟨⟨k + 1, by omega, ?_, HX.out, HL9.out⟩, rfl⟩
                 go_num)
            case measure => simp [intOf]; omega
          · have HX := Lib.hid (show t.blamed d n q p i = false by unfold Qt.blamed; rw [anyB_hit hlt HBG.out]; rfl)
            go_wp2_with fail
            go_ret
            exact ⟨ret_bool (by rw [HX.out]), bTrans HB.out HL9.out⟩
    · obtain rfl : k = n := by omega
      have HX := Lib.hid (show t.blamed d k q p i = (decide (p ≠ q) && decide (0 < r)) by unfold Qt.blamed; rw [HNO.out, HR.out]; rfl)
      by_cases hpq : p = q
      · have g1 : ((p : Int) != (q : Int)) = false := by simp; omega
        have HY := Lib.hid (show t.blamed d k q p i = false by rw [HX.out]; simp [hpq])
        clear hpq
        go_wp2_with fail
        go_ret
        exact ⟨ret_bool (by rw [HY.out]), bTrans HB.out HL.out⟩
      · have g1 : ((p : Int) != (q : Int)) = true := by simp; omega
        have HY := Lib.hid (show t.blamed d k q p i = decide (0 < r) by rw [HX.out]; simp [hpq])
        clear hpq
        go_wp2_with fail
        go_ret
        exact ⟨ret_bool (by rw [HY.out]), bTrans HB.out HL.out⟩
end Go.Proofs.YtchhodikgllgnaaDoor
/- Walks of the reference 05: IsLaw, Harms. Conditions: lengths are Go's. -/
namespace Go.Proofs.YtchhodikgllgnaaDoor
open Go.RowKit Go.Sort
theorem isLaw5_any (n : Int) (w : World) : Calls Tryd.prog 38 #[.int .i64 n] w fun e w' => e = .returned (.bool (inR n 0 99)) ∧ Below w.heap.size w w' := by
  go_enter Tryd.func38, Tryd.ntmps38
  go_wp2_with fail
  refine (within5_b _ _ _ _ _ rfl).mono ?_
  rintro e w' ⟨rfl, rfl⟩
  go_wp2_with fail
  go_ret
  exact ⟨rfl, Below.refl _ _⟩
theorem KnownOut.ret {w : World} {base : Nat} {t : Qt} {is : Bool} {e : Ending} (h : KnownOut w base t is e) : ∃ v, e = .returned v := by
  obtain ⟨v, h, _⟩ := h
  exact ⟨_, h⟩
set_option maxHeartbeats 4000000 in
set_option maxRecDepth 100000 in
theorem harms5_any (Aw Af : Option Addr) (cw cf : Nat) (t : Qt) (p q law : Int) (w : World) (hs : t.Small) (hT : QAt w Aw Af t) :
    Calls Tryd.prog 35 #[.agg #[.int .i64 t.wells, .slice Aw t.nw cw, .slice Af t.nf cf], .int .i64 p, .int .i64 q, .int .i64 law] w fun e w' => e = .returned (.tuple #[.int .i64 (if t.knowErr (t.wellB p && t.wellB q && inR law 0 99) = 0 then harmK (t.between p.toNat q.toNat) law else 0), .int .i64 (t.knowErr (t.wellB p && t.wellB q && inR law 0 99))]) ∧ Below w.heap.size w w' := by
  have hb0 := bAlloc (Below.refl w.heap.size w) (.cells #[.int .i64 t.wells, .slice Aw t.nw cw, .slice Af t.nf cf] 25)
  have HT := Lib.hid (hT.mono hb0)
  have HB := Lib.hid hb0
  clear hT hb0
  obtain ⟨b1, h1⟩ : ∃ b, t.wellB p = b := ⟨_, rfl⟩
  obtain ⟨b2, h2⟩ : ∃ b, t.wellB q = b := ⟨_, rfl⟩
  obtain ⟨b3, h3⟩ : ∃ b, inR law 0 99 = b := ⟨_, rfl⟩
  have HC1 := Lib.hid (fun w => h1 ▸ isWell5_any Aw Af cw cf t p w : ∀ w : World, Calls Tryd.prog 37 #[.agg #[.int .i64 t.wells, .slice Aw t.nw cw, .slice Af t.nf cf], .int .i64 p] w fun e w' => e = .returned (.bool b1) ∧ Below w.heap.size w w')
  have HC2 := Lib.hid (fun w => h2 ▸ isWell5_any Aw Af cw cf t q w : ∀ w : World, Calls Tryd.prog 37 #[.agg #[.int .i64 t.wells, .slice Aw t.nw cw, .slice Af t.nf cf], .int .i64 q] w fun e w' => e = .returned (.bool b2) ∧ Below w.heap.size w w')
  have HC3 := Lib.hid (fun w => h3 ▸ isLaw5_any law w : ∀ w : World, Calls Tryd.prog 38 #[.int .i64 law] w fun e w' => e = .returned (.bool b3) ∧ Below w.heap.size w w')
  obtain ⟨bb, hbb⟩ : ∃ bb, (b1 && b2 && b3) = bb := ⟨_, rfl⟩
  obtain ⟨er, her⟩ : ∃ er, t.knowErr bb = er := ⟨_, rfl⟩
  have HCO := Lib.hid (fun (w' : World) (hb : Below (w.alloc (.cells #[.int .i64 t.wells, .slice Aw t.nw cw, .slice Af t.nf cf] 25)).heap.size (w.alloc (.cells #[.int .i64 t.wells, .slice Aw t.nw cw, .slice Af t.nf cf] 25)) w') => ((refKnown Aw Af cw cf t bb w' hs.1 hs.2.1 (HT.out.mono hb)).mono fun e w'' h => ⟨by
      obtain ⟨v, h1, h2, h3⟩ := h.1
      rw [her] at h1 h2 h3
      exact ⟨v, h1, fun he => (h2 he).lower hb.size, h3⟩, h.2⟩ : Calls Tryd.prog 74 #[.agg #[.int .i64 t.wells, .slice Aw t.nw cw, .slice Af t.nf cf], .bool bb] w' fun e w'' => (∃ v, e = .returned (.tuple #[v, .int .i64 er]) ∧ (er = 0 → OwnL w'' (w.alloc (.cells #[.int .i64 t.wells, .slice Aw t.nw cw, .slice Af t.nf cf] 25)).heap.size v t.leftL) ∧ (er ≠ 0 → v = .slice none 0 0)) ∧ Below w'.heap.size w' w''))
  have HE := Lib.hid (show t.knowErr (t.wellB p && t.wellB q && inR law 0 99) = er by rw [h1, h2, h3, hbb, her])
  rw [HE.out]
  have HKE := Lib.hid her
  have HG := Lib.hid hbb
  have HW1 := Lib.hid h1
  have HW2 := Lib.hid h2
  clear h1 h2 h3 her hbb HE
  by_cases he : er = 0
  · subst he
    obtain ⟨ok, rfl, hne⟩ := knowErr_zero HKE.out
    have hg := HG.out
    simp only [Bool.and_eq_true] at hg
    obtain ⟨⟨rfl, rfl⟩, rfl⟩ := hg
    have hp := inR_iff.1 ((wellB_ok ok p).symm.trans HW1.out)
    have hq := inR_iff.1 ((wellB_ok ok q).symm.trans HW2.out)
    obtain ⟨i, rfl⟩ : ∃ i : Nat, p = (i : Int) := ⟨p.toNat, by omega⟩
    obtain ⟨j, rfl⟩ : ∃ j : Nat, q = (j : Int) := ⟨q.toNat, by omega⟩
    have HP := Lib.hid (show (i : Int) < t.wells by omega)
    have HQ := Lib.hid (show (j : Int) < t.wells by omega)
    have HOK := Lib.hid ok
    obtain ⟨n, hn⟩ : ∃ n, t.leftL.length = n := ⟨_, rfl⟩
    have n6 : n ≤ 6 := by rw [← hn]; have := leftTo_len t t.nw; have := ok.nw; unfold Qt.leftL; omega
    have n0 : 0 < n := by rw [← hn]; exact List.length_pos_iff.2 hne
    rw [if_pos rfl, Int.toNat_natCast, Int.toNat_natCast]
    obtain ⟨hk, hhk⟩ : ∃ hk, harmK (t.between i j) law = hk := ⟨_, rfl⟩
    have HHK := Lib.hid (show knownK (cntB (fun k => decide (law < t.F (intL0 t.leftL k) (i, j))) n) n = hk by rw [← hhk, between_of]; unfold spanOf; rw [hn, harms_known n0])
    rw [hhk]
    have HN := Lib.hid hn
    clear hp hq hne ok hn hhk
    go_enter Tryd.func35, Tryd.ntmps35
    go_wp2_with fail
    refine wp_region_call 13 (fun v w2 => (∃ u, v = .tuple #[u, .int .i64 0] ∧ OwnL w2 (w.alloc (.cells #[.int .i64 t.wells, .slice Aw t.nw cw, .slice Af t.nf cf] 25)).heap.size u t.leftL) ∧ Below (w.alloc (.cells #[.int .i64 t.wells, .slice Aw t.nw cw, .slice Af t.nf cf] 25)).heap.size (w.alloc (.cells #[.int .i64 t.wells, .slice Aw t.nw cw, .slice Af t.nf cf] 25)) w2) (by kernel_rfl) (by decide +kernel) rfl ?_
    apply Exists.intro
    refine ⟨fun K hK => ?_, ?_, fun w1 hb1 K Q' hK => ?_, ?_⟩
    · skip
      repeat (first | (refine wpCalm_skip rfl ?_) | (refine wpCalm_step rfl (fun K hK => ?_); go_simp; (first | (refine hK _ ?_; clear hK K) | (apply Exists.intro; refine ⟨fun _ => ?_, hK _ ?_⟩; ((first | (go_at_call 37; with_reducible exact newer_of (HC1.out _)) | (go_at_call 37; with_reducible exact newer_of (HC2.out _)) | (go_at_call 38; with_reducible exact newer_of (HC3.out _)))); clear hK K))))
      refine wpCalm_nil ?_
      exact hK
    · rfl
    · go_simp
      refine (HCO.out w1 hb1).mono ?_
      rintro e w2 ⟨⟨v, rfl, ho, _⟩, hb2⟩
      exact hK _ w2 ⟨⟨v, rfl, ho (by trivial)⟩, bTrans hb1 hb2⟩
    rintro v w2 ⟨⟨u, rfl, ho⟩, hb2⟩
    have HL2 := Lib.hid ho
    have HB2 := Lib.hid hb2
    obtain ⟨A, c, rfl, _⟩ := ho.nums
    rw [HN.out]
    clear ho hb2
    apply Exists.intro
    refine ⟨fun K hK => ?_, fun w3 hb3 => ?_⟩
    · skip
      repeat (first | (refine wpCalm_skip rfl ?_) | (refine wpCalm_step rfl (fun K hK => ?_); go_simp; (first | (refine hK _ ?_; clear hK K) | (apply Exists.intro; refine ⟨fun _ => ?_, hK _ ?_⟩; (fail); clear hK K))))
      refine wpCalm_nil ?_
      exact hK
    have HL3 := Lib.hid (HL2.out.mono hb3)
    have HB3 := Lib.hid (bTrans HB2.out hb3)
    clear hb3
    go_wp2_with fail
    go_loopw [12, 13] (fun s12 s13 wr => ∃ k : Nat, k ≤ n ∧ s13 = .int .i64 k ∧ s12 = .int .i64 (cntB (fun k => decide (law < t.F (intL0 t.leftL k) (i, j))) k : Nat) ∧ Below w3.heap.size w3 wr) (fun _ i _ => n - (intOf i).toNat)
    case atStart => exact ⟨0, Nat.zero_le _, rfl, rfl, Below.refl _ _⟩
    case round =>
      obtain ⟨k, hk2, rfl, rfl, hbel⟩ := hrel
      have HL := Lib.hid hbel
      have HLB := Lib.hid (bTrans HB3.out hbel)
      obtain ⟨bc3, bf3⟩ := bcell (bTrans HB3.out hbel)
      have hz3 := (bTrans HB3.out hbel).size
      simp only [World.size_alloc] at hz3
      have hy3 : w.heap.size < wr.heap.size := by omega
      clear hbel
      obtain ⟨cn, hcn⟩ : ∃ cn, cntB (fun k => decide (law < t.F (intL0 t.leftL k) (i, j))) k = cn := ⟨_, rfl⟩
      have hcl := cntB_le (fun k => decide (law < t.F (intL0 t.leftL k) (i, j))) k
      rw [hcn] at hcl ⊢
      have HCN := Lib.hid hcn
      clear hcn
      by_cases hlt : k < n
      · obtain ⟨A1, c1, e1, hrow⟩ := (HL3.out.mono HL.out).nums
        simp only [Value.slice.injEq] at e1
        obtain ⟨rfl, _, rfl⟩ := e1
        obtain ⟨a, ha⟩ : ∃ a, t.leftL[k]? = some a := ⟨_, List.getElem?_eq_getElem (by rw [HN.out]; omega)⟩
        obtain ⟨x, hx, _, rfl⟩ := (leftTo_mem t t.nw).1 (List.mem_of_getElem? ha)
        obtain ⟨bs, os, hA, hbs, cs⟩ := hrow.num ha
        subst hA
        obtain ⟨v, hv⟩ : ∃ v, t.F (x : Int) (i, j) = v := ⟨_, rfl⟩
        have HF := Lib.hid (fun (w' : World) (hb : Below wr.heap.size wr w') => (hv ▸ fallAt_F t x i j ▸ fall5_any Aw Af cw cf t x i j w' HOK.out hx HP.out HQ.out ((HT.out.mono HLB.out).mono hb) : Calls Tryd.prog 63 #[.agg #[.int .i64 t.wells, .slice Aw t.nw cw, .slice Af t.nf cf], .int .i64 x, .int .i64 i, .int .i64 j] w' fun e w'' => e = .returned (.int .i64 v) ∧ Below w'.heap.size w' w''))
        obtain ⟨bg, hbg⟩ : ∃ bg, decide (law < v) = bg := ⟨_, rfl⟩
        have hbg2 : decide (v > law) = bg := hbg
        have HX := Lib.hid (show cntB (fun k => decide (law < t.F (intL0 t.leftL k) (i, j))) (k + 1) = if bg then cn + 1 else cn by
          unfold cntB
          rw [HCN.out]
          simp only [show intL0 t.leftL k = (x : Int) by unfold intL0; rw [ha]; rfl, hv, hbg])
        have k1 : (k : Int) < (n : Int) := by omega
        have k0 : (0 : Int) ≤ (k : Int) := by omega
        clear hrow ha hx hv
        go_wp2_with fail
        refine wp_region_quiet_below (by kernel_rfl) (by kernel_rfl) ?_
        repeat (go_big_quiet_step (((go_at_call 63; with_reducible exact Calls.regrown_of (HF.out _ (below_regrown _ _ _))))))
        refine wpQuiet_nil ?_
        intro w9 hw9
        have HL9 := Lib.hid (bTrans HL.out (below_of_regrown hw9))
        clear hw9
        cases bg
        · have HY := Lib.hid (show cntB (fun k => decide (law < t.F (intL0 t.leftL k) (i, j))) (k + 1) = cn from HX.out)
          go_wp2_with fail
          go_roundw
          case rel =>
            first
            | exact ⟨k + 1, by omega, by go_num, by rw [HY.out], HL9.out⟩
            | ((repeat apply Exists.intro)
               refine ⟨⟨k + 1, by omega, ?_, by rw [HY.out], HL9.out⟩, rfl⟩
               go_num)
          case measure => simp [intOf]; omega
        · have HY := Lib.hid (show cntB (fun k => decide (law < t.F (intL0 t.leftL k) (i, j))) (k + 1) = cn + 1 from HX.out)
          go_wp2_with fail
          go_roundw
          case rel =>
            first
            | exact ⟨k + 1, by omega, by go_num, by rw [HY.out]; go_num, HL9.out⟩
            | ((repeat apply Exists.intro)
               refine ⟨⟨k + 1, by omega, ?_, by rw [HY.out]; go_num, HL9.out⟩, rfl⟩
               go_num)
          case measure => simp [intOf]; omega
      · obtain rfl : k = n := by omega
        have HKN := Lib.hid (known1_any cn k wr)
        have HZ := Lib.hid (show knownK cn k = hk by rw [← HHK.out, HCN.out])
        go_wp2_with fail
        refine HKN.out.mono ?_
        rintro e w8 ⟨rfl, hb8⟩
        rw [HZ.out]
        have HB8 := Lib.hid (bTrans HLB.out hb8)
        clear hb8
        go_wp2_with fail
        go_ret2
        exact ⟨rfl, bTrans HB.out HB8.out⟩
  · have g0 : (er != 0) = true := by simp [he]
    have HNZ := Lib.hid he
    rw [if_neg he]
    clear he
    go_enter Tryd.func35, Tryd.ntmps35
    go_wp2_with fail
    rcases three_ways b1 b2 b3 with rfl | ⟨rfl, rfl⟩ | ⟨rfl, rfl, rfl⟩ | ⟨rfl, rfl, rfl⟩
    all_goals
      obtain rfl := HG.out
      refine wp_region_call 13 (fun v w2 => v = .tuple #[.slice none 0 0, .int .i64 er] ∧ Below (w.alloc (.cells #[.int .i64 t.wells, .slice Aw t.nw cw, .slice Af t.nf cf] 25)).heap.size (w.alloc (.cells #[.int .i64 t.wells, .slice Aw t.nw cw, .slice Af t.nf cf] 25)) w2) (by kernel_rfl) (by decide +kernel) rfl ?_
      apply Exists.intro
      refine ⟨fun K hK => ?_, ?_, fun w1 hb1 K Q' hK => ?_, ?_⟩
      · skip
        repeat (first | (refine wpCalm_skip rfl ?_) | (refine wpCalm_step rfl (fun K hK => ?_); go_simp; (first | (refine hK _ ?_; clear hK K) | (apply Exists.intro; refine ⟨fun _ => ?_, hK _ ?_⟩; ((first | (go_at_call 37; with_reducible exact newer_of (HC1.out _)) | (go_at_call 37; with_reducible exact newer_of (HC2.out _)) | (go_at_call 38; with_reducible exact newer_of (HC3.out _)))); clear hK K))))
        refine wpCalm_nil ?_
        exact hK
      · rfl
      · go_simp
        refine (HCO.out w1 hb1).mono ?_
        rintro e w2 ⟨⟨v, rfl, _, ho⟩, hb2⟩
        exact hK _ w2 ⟨by rw [ho HNZ.out], bTrans hb1 hb2⟩
      rintro v w2 ⟨rfl, hb2⟩
      have HB2 := Lib.hid hb2
      clear hb2
      apply Exists.intro
      refine ⟨fun K hK => ?_, fun w3 hb3 => ?_⟩
      · skip
        repeat (first | (refine wpCalm_skip rfl ?_) | (refine wpCalm_step rfl (fun K hK => ?_); go_simp; (first | (refine hK _ ?_; clear hK K) | (apply Exists.intro; refine ⟨fun _ => ?_, hK _ ?_⟩; (fail); clear hK K))))
        refine wpCalm_nil ?_
        exact hK
      have HB3 := Lib.hid (bTrans HB2.out hb3)
      clear hb3
      go_wp2_with fail
      go_ret2
      exact ⟨rfl, bTrans HB.out HB3.out⟩
end Go.Proofs.YtchhodikgllgnaaDoor
/- Walks of the reference 05: IsTest. No condition. -/
namespace Go.Proofs.YtchhodikgllgnaaDoor
open Go.RowKit Go.Sort
def Qt.testB (t : Qt) (p q : Int) : Bool := t.wellB p && t.wellB q
set_option maxHeartbeats 2000000 in
theorem isTest5_any (Aw Af : Option Addr) (cw cf : Nat) (t : Qt) (p q : Int) (w : World) :
    Calls Tryd.prog 30 #[.agg #[.int .i64 t.wells, .slice Aw t.nw cw, .slice Af t.nf cf], .agg #[.int .i64 p, .int .i64 q]] w fun e w' => e = .returned (.bool (t.testB p q)) ∧ Below w.heap.size w w' := by
  unfold Qt.testB
  obtain ⟨b1, h1⟩ : ∃ b, t.wellB p = b := ⟨_, rfl⟩
  obtain ⟨b2, h2⟩ : ∃ b, t.wellB q = b := ⟨_, rfl⟩
  have HC1 := Lib.hid (fun w => h1 ▸ isWell5_any Aw Af cw cf t p w : ∀ w : World, Calls Tryd.prog 37 #[.agg #[.int .i64 t.wells, .slice Aw t.nw cw, .slice Af t.nf cf], .int .i64 p] w fun e w' => e = .returned (.bool b1) ∧ Below w.heap.size w w')
  have HC2 := Lib.hid (fun w => h2 ▸ isWell5_any Aw Af cw cf t q w : ∀ w : World, Calls Tryd.prog 37 #[.agg #[.int .i64 t.wells, .slice Aw t.nw cw, .slice Af t.nf cf], .int .i64 q] w fun e w' => e = .returned (.bool b2) ∧ Below w.heap.size w w')
  rw [h1, h2]
  clear h1 h2
  have HB := Lib.hid (bAlloc (bAlloc (Below.refl w.heap.size w) (.cells #[.int .i64 t.wells, .slice Aw t.nw cw, .slice Af t.nf cf] 25)) (.cells #[.int .i64 p, .int .i64 q] 27))
  go_enter Tryd.func30, Tryd.ntmps30
  go_wp2_with fail
  refine (HC1.out _).mono ?_
  rintro e w1 ⟨rfl, hb1⟩
  obtain ⟨bc1, bf1⟩ := bcell hb1
  have hz1 := hb1.size
  simp only [World.size_alloc] at hz1
  have hy1 : w.heap.size < w1.heap.size := by omega
  have hy2 : w.heap.size + 1 < w1.heap.size := by omega
  have HB1 := Lib.hid (bTrans HB.out hb1)
  clear hb1
  rcases two_ways b1 b2 with rfl | ⟨rfl, rfl⟩ | ⟨rfl, rfl⟩
  · go_wp2_with fail
    go_ret
    exact ⟨ret_bool (by simp), HB1.out⟩
  all_goals
    go_wp2_with fail
    refine (HC2.out _).mono ?_
    rintro e w2 ⟨rfl, hb2⟩
    have HB2 := Lib.hid (bTrans HB1.out hb2)
    clear hb2
    go_wp2_with fail
    go_ret
    exact ⟨ret_bool (by simp), HB2.out⟩
end Go.Proofs.YtchhodikgllgnaaDoor
/- Walks of the package quarrels: Between, Total. Conditions: lengths are Go's; the listed table holds what it holds. -/
namespace Go.Proofs.YtchhodikgllgnaaDoor
open Go.RowKit Go.Sort
/-- what Between hands back -/
noncomputable def Qt.betweenV (t : Qt) (p q : Int) : Int × Int := if t.knowErr (t.wellB p && t.wellB q) = 0 then t.between p.toNat q.toNat else (0, 0)
set_option maxHeartbeats 2000000 in
set_option maxRecDepth 100000 in
theorem betweenQ_any (Aw Af : Option Addr) (cw cf : Nat) (t : Qt) (p q : Int) (w : World) (hs : t.Small) (hT : QAt w Aw Af t) (hB : TabAt w) :
    Calls Tryd.prog 32 #[.agg #[.int .i64 t.wells, .slice Aw t.nw cw, .slice Af t.nf cf], .int .i64 p, .int .i64 q] w fun e w' => e = .returned (.tuple #[.agg #[.int .i64 (t.betweenV p q).1, .int .i64 (t.betweenV p q).2], .int .i64 (t.knowErr (t.wellB p && t.wellB q))]) ∧ Below w.heap.size w w' := by
  have hb0 := bAlloc (bAlloc (bAlloc (bAlloc (Below.refl w.heap.size w) (.cells #[.int .i64 t.wells, .slice Aw t.nw cw, .slice Af t.nf cf] 25)) (.cells #[.int .i64 p] 3)) (.cells #[.int .i64 q] 3)) (.cells #[.int .i64 0, .int .i64 0] 47)
  have HT := Lib.hid (hT.mono hb0)
  have HTB := Lib.hid (hB.mono hb0)
  have HB := Lib.hid hb0
  clear hT hb0 hB
  obtain ⟨b1, h1⟩ : ∃ b, t.wellB p = b := ⟨_, rfl⟩
  obtain ⟨b2, h2⟩ : ∃ b, t.wellB q = b := ⟨_, rfl⟩
  have HC1 := Lib.hid (fun w => h1 ▸ isWellQ_any Aw Af cw cf t p w : ∀ w : World, Calls Tryd.prog 71 #[.agg #[.int .i64 t.wells, .slice Aw t.nw cw, .slice Af t.nf cf], .int .i64 p] w fun e w' => e = .returned (.bool b1) ∧ Below w.heap.size w w')
  have HC2 := Lib.hid (fun w => h2 ▸ isWellQ_any Aw Af cw cf t q w : ∀ w : World, Calls Tryd.prog 71 #[.agg #[.int .i64 t.wells, .slice Aw t.nw cw, .slice Af t.nf cf], .int .i64 q] w fun e w' => e = .returned (.bool b2) ∧ Below w.heap.size w w')
  obtain ⟨bb, hbb⟩ : ∃ bb, (b1 && b2) = bb := ⟨_, rfl⟩
  obtain ⟨er, her⟩ : ∃ er, t.knowErr bb = er := ⟨_, rfl⟩
  have HCO := Lib.hid (fun (w' : World) (hb : Below ((((w.alloc (.cells #[.int .i64 t.wells, .slice Aw t.nw cw, .slice Af t.nf cf] 25)).alloc (.cells #[.int .i64 p] 3)).alloc (.cells #[.int .i64 q] 3)).alloc (.cells #[.int .i64 0, .int .i64 0] 47)).heap.size ((((w.alloc (.cells #[.int .i64 t.wells, .slice Aw t.nw cw, .slice Af t.nf cf] 25)).alloc (.cells #[.int .i64 p] 3)).alloc (.cells #[.int .i64 q] 3)).alloc (.cells #[.int .i64 0, .int .i64 0] 47)) w') => ((openQ_any Aw Af cw cf t bb w' hs (HT.out.mono hb)).mono fun e w'' h => ⟨(her ▸ h.1).lower hb.size, h.2⟩ : Calls Tryd.prog 70 #[.agg #[.int .i64 t.wells, .slice Aw t.nw cw, .slice Af t.nf cf], .bool bb] w' fun e w'' => AskOut w'' ((((w.alloc (.cells #[.int .i64 t.wells, .slice Aw t.nw cw, .slice Af t.nf cf] 25)).alloc (.cells #[.int .i64 p] 3)).alloc (.cells #[.int .i64 q] 3)).alloc (.cells #[.int .i64 0, .int .i64 0] 47)).heap.size Aw Af cw cf t er e ∧ Below w'.heap.size w' w''))
  have HE := Lib.hid (show t.knowErr (t.wellB p && t.wellB q) = er by rw [h1, h2, hbb, her])
  have HSV := Lib.hid (show t.betweenV p q = if er = 0 then t.between p.toNat q.toNat else (0, 0) by unfold Qt.betweenV; rw [h1, h2, hbb, her])
  rw [HE.out, HSV.out]
  have HKE := Lib.hid her
  have HG := Lib.hid hbb
  have HW1 := Lib.hid h1
  have HW2 := Lib.hid h2
  clear h1 h2 her hbb HE HSV
  by_cases he : er = 0
  · subst he
    obtain ⟨ok, rfl, hne⟩ := knowErr_zero HKE.out
    have hg := HG.out
    simp only [Bool.and_eq_true] at hg
    obtain ⟨rfl, rfl⟩ := hg
    have hp := inR_iff.1 ((wellB_ok ok p).symm.trans HW1.out)
    have hq := inR_iff.1 ((wellB_ok ok q).symm.trans HW2.out)
    obtain ⟨i, rfl⟩ : ∃ i : Nat, p = (i : Int) := ⟨p.toNat, by omega⟩
    obtain ⟨j, rfl⟩ : ∃ j : Nat, q = (j : Int) := ⟨q.toNat, by omega⟩
    have HP := Lib.hid (show (i : Int) < t.wells by omega)
    have HQ := Lib.hid (show (j : Int) < t.wells by omega)
    have HOK := Lib.hid ok
    rw [if_pos rfl, Int.toNat_natCast, Int.toNat_natCast]
    obtain ⟨lo, hlo⟩ : ∃ lo, (t.between i j).1 = lo := ⟨_, rfl⟩
    obtain ⟨hi, hhi⟩ : ∃ hi, (t.between i j).2 = hi := ⟨_, rfl⟩
    have HLO := Lib.hid (show spanN (fun k => (t.world (numAt t.leftL k)).fall i j) t.leftL.length = (lo, hi) from Prod.ext hlo hhi)
    rw [hlo, hhi]
    clear hp hq hne ok hlo hhi
    go_enter Tryd.func32, Tryd.ntmps32
    go_wp2_with fail
    refine wp_region_call 9 (fun v w2 => AskOut w2 ((((w.alloc (.cells #[.int .i64 t.wells, .slice Aw t.nw cw, .slice Af t.nf cf] 25)).alloc (.cells #[.int .i64 (i : Int)] 3)).alloc (.cells #[.int .i64 (j : Int)] 3)).alloc (.cells #[.int .i64 0, .int .i64 0] 47)).heap.size Aw Af cw cf t 0 (.returned v) ∧ Below ((((w.alloc (.cells #[.int .i64 t.wells, .slice Aw t.nw cw, .slice Af t.nf cf] 25)).alloc (.cells #[.int .i64 (i : Int)] 3)).alloc (.cells #[.int .i64 (j : Int)] 3)).alloc (.cells #[.int .i64 0, .int .i64 0] 47)).heap.size ((((w.alloc (.cells #[.int .i64 t.wells, .slice Aw t.nw cw, .slice Af t.nf cf] 25)).alloc (.cells #[.int .i64 (i : Int)] 3)).alloc (.cells #[.int .i64 (j : Int)] 3)).alloc (.cells #[.int .i64 0, .int .i64 0] 47)) w2) (by kernel_rfl) (by decide +kernel) rfl ?_
    apply Exists.intro
    refine ⟨fun K hK => ?_, ?_, fun w1 hb1 K Q' hK => ?_, ?_⟩
    · skip
      repeat (first | (refine wpCalm_skip rfl ?_) | (refine wpCalm_step rfl (fun K hK => ?_); go_simp; (first | (refine hK _ ?_; clear hK K) | (apply Exists.intro; refine ⟨fun _ => ?_, hK _ ?_⟩; ((first | (go_at_call 71; with_reducible exact newer_of (HC1.out _)) | (go_at_call 71; with_reducible exact newer_of (HC2.out _)))); clear hK K))))
      refine wpCalm_nil ?_
      exact hK
    · rfl
    · go_simp
      refine (HCO.out w1 hb1).mono ?_
      rintro e w2 ⟨ho, hb2⟩
      obtain ⟨v, rfl⟩ := AskOut.ret ho
      exact hK v w2 ⟨ho, bTrans hb1 hb2⟩
    rintro v w2 ⟨ho, hb2⟩
    obtain ⟨C, mp, e1, hc, hC, hmp, hmb⟩ := ho.2 rfl
    obtain rfl := Ending.returned.inj e1
    have HCT2 := Lib.hid hc
    have HMP2 := Lib.hid hmp
    have HCB := Lib.hid hC
    have HMB := Lib.hid hmb
    have HB2 := Lib.hid hb2
    clear ho hb2 hc e1 hC hmp hmb
    apply Exists.intro
    refine ⟨fun K hK => ?_, fun w3 hb3 => ?_⟩
    · skip
      repeat (first | (refine wpCalm_skip rfl ?_) | (refine wpCalm_step rfl (fun K hK => ?_); go_simp; (first | (refine hK _ ?_; clear hK K) | (apply Exists.intro; refine ⟨fun _ => ?_, hK _ ?_⟩; (fail); clear hK K))))
      refine wpCalm_nil ?_
      exact hK
    have HCT := Lib.hid (HCT2.out.mono hb3)
    have HMP := Lib.hid ((hb3.block mp (Array.getElem?_eq_some_iff.1 HMP2.out).1).trans HMP2.out)
    have HB3 := Lib.hid (bTrans HB2.out hb3)
    clear hb3 HCT2 HMP2
    have HCC := Lib.hid (span_any Aw Af cw cf C mp _ t 86 #[.pointer (some ⟨w.heap.size + 1, 0, none⟩), .pointer (some ⟨w.heap.size + 1 + 1, 0, none⟩)] (fun k => (t.world (numAt t.leftL k)).fall i j) w3 HCT.out (mask_64 t HOK.out.nw) (bits_mask t HOK.out.nw) HOK.out.nw (HT.out.mono HB3.out) (HTB.out.mono HB3.out) (enters_of Tryd.func86 (by kernel_rfl)) (fun k i' hk hi w' hb A' c' hr => by
      have hbb := bTrans HB3.out hb
      have h1 : w'.cell? ⟨w.heap.size + 1, 0, none⟩ = some (.int .i64 i) := (hbb.cell (p := ⟨w.heap.size + 1, 0, none⟩) (by simp <;> omega)).trans (by simp [go_sem])
      have h2 : w'.cell? ⟨w.heap.size + 1 + 1, 0, none⟩ = some (.int .i64 j) := (hbb.cell (p := ⟨w.heap.size + 1 + 1, 0, none⟩) (by simp)).trans (by simp [go_sem])
      have hz := hbb.size
      simp only [World.size_alloc] at hz
      have := fallC_any A' c' (w.heap.size + 1) (w.heap.size + 1 + 1) t.wells (t.world i') i j w' (HOK.out.world i' hi) HP.out HQ.out hr (by omega) h1 (by omega) h2
      rw [← numAt_of hk] at this
      rw [← numAt_of hk]
      exact this))
    rw [HLO.out] at HCC
    obtain ⟨bc3, bf3⟩ := bcell HB3.out
    have hz3 := HB3.out.size
    simp only [World.size_alloc] at hz3
    clear HLO
    go_wp2_with fail
    refine HCC.out.mono ?_
    rintro e w4 ⟨rfl, hb4⟩
    have HB4 := Lib.hid (bTrans HB3.out hb4)
    obtain ⟨bc4, bf4⟩ := bcell HB4.out
    have hz4 := HB4.out.size
    simp only [World.size_alloc] at hz4
    clear hb4 bc3 bf3
    go_wp2_with fail
    refine bodyPost_ret (v := .tuple #[.agg #[.int .i64 lo, .int .i64 hi], .int .i64 0]) (by simp [results, Tryd.results32, go_sem, *]) rfl ⟨rfl, ?_⟩
    exact Below.setCell (p := ⟨w.heap.size + 1 + 1 + 1, 1, none⟩) (Below.setCell (p := ⟨w.heap.size + 1 + 1 + 1, 0, none⟩) (bTrans HB.out HB4.out) (by simp <;> omega) (.int .i64 lo)) (by simp <;> omega) (.int .i64 hi)
  · have g0 : (er != 0) = true := by simp [he]
    have HNZ := Lib.hid he
    rw [if_neg he]
    clear he
    go_enter Tryd.func32, Tryd.ntmps32
    go_wp2_with fail
    rcases two_ways b1 b2 with rfl | ⟨rfl, rfl⟩ | ⟨rfl, rfl⟩
    all_goals
      obtain rfl := HG.out
      refine wp_region_call 9 (fun v w2 => AskOut w2 ((((w.alloc (.cells #[.int .i64 t.wells, .slice Aw t.nw cw, .slice Af t.nf cf] 25)).alloc (.cells #[.int .i64 p] 3)).alloc (.cells #[.int .i64 q] 3)).alloc (.cells #[.int .i64 0, .int .i64 0] 47)).heap.size Aw Af cw cf t er (.returned v) ∧ Below ((((w.alloc (.cells #[.int .i64 t.wells, .slice Aw t.nw cw, .slice Af t.nf cf] 25)).alloc (.cells #[.int .i64 p] 3)).alloc (.cells #[.int .i64 q] 3)).alloc (.cells #[.int .i64 0, .int .i64 0] 47)).heap.size ((((w.alloc (.cells #[.int .i64 t.wells, .slice Aw t.nw cw, .slice Af t.nf cf] 25)).alloc (.cells #[.int .i64 p] 3)).alloc (.cells #[.int .i64 q] 3)).alloc (.cells #[.int .i64 0, .int .i64 0] 47)) w2) (by kernel_rfl) (by decide +kernel) rfl ?_
      apply Exists.intro
      refine ⟨fun K hK => ?_, ?_, fun w1 hb1 K Q' hK => ?_, ?_⟩
      · skip
        repeat (first | (refine wpCalm_skip rfl ?_) | (refine wpCalm_step rfl (fun K hK => ?_); go_simp; (first | (refine hK _ ?_; clear hK K) | (apply Exists.intro; refine ⟨fun _ => ?_, hK _ ?_⟩; ((first | (go_at_call 71; with_reducible exact newer_of (HC1.out _)) | (go_at_call 71; with_reducible exact newer_of (HC2.out _)))); clear hK K))))
        refine wpCalm_nil ?_
        exact hK
      · rfl
      · go_simp
        refine (HCO.out w1 hb1).mono ?_
        rintro e w2 ⟨ho, hb2⟩
        obtain ⟨v, rfl⟩ := AskOut.ret ho
        exact hK v w2 ⟨ho, bTrans hb1 hb2⟩
      rintro v w2 ⟨ho, hb2⟩
      obtain rfl := Ending.returned.inj (ho.1 HNZ.out)
      have HB2 := Lib.hid hb2
      clear ho hb2
      apply Exists.intro
      refine ⟨fun K hK => ?_, fun w3 hb3 => ?_⟩
      · skip
        repeat (first | (refine wpCalm_skip rfl ?_) | (refine wpCalm_step rfl (fun K hK => ?_); go_simp; (first | (refine hK _ ?_; clear hK K) | (apply Exists.intro; refine ⟨fun _ => ?_, hK _ ?_⟩; (fail); clear hK K))))
        refine wpCalm_nil ?_
        exact hK
      have HB3 := Lib.hid (bTrans HB2.out hb3)
      clear hb3
      obtain ⟨bc3, bf3⟩ := bcell HB3.out
      have hz3 := HB3.out.size
      simp only [World.size_alloc] at hz3
      go_wp2_with fail
      refine bodyPost_ret (v := .tuple #[.agg #[.int .i64 0, .int .i64 0], .int .i64 er]) (by simp [results, Tryd.results32, go_sem, *]) rfl ⟨rfl, ?_⟩
      exact Below.setCell (p := ⟨w.heap.size + 1 + 1 + 1, 1, none⟩) (Below.setCell (p := ⟨w.heap.size + 1 + 1 + 1, 0, none⟩) (bTrans HB.out HB3.out) (by simp <;> omega) (.int .i64 0)) (by simp <;> omega) (.int .i64 0)
end Go.Proofs.YtchhodikgllgnaaDoor
